/-
  Contracts: has a deed what its kind may have? Are deeds parts? Is a deed right?
  Contracts: are deeds parts? Is a deed right?
  Rows that are made by append: many elements at once.
  Contracts: bell: Ring.
  Contracts: bell: Again.
  Contracts: the chapter's first example.
  Steps of a tower's life, as plain data.
  Plain: the watches, deeds and rings of the closed statement.
  The document's tower: watches in a row; two rows that grow side by side.
  Paths, plain: parts and their join; what stands over a path, and its last part.
  Rows of texts.
  Contracts: strings.Split at a slash.
  Contracts: strings.Join with a slash, by the kit's law of it over any program.
-/
import Derived.Test.YtienbbhelhhfjaaGreatDoorG09
import Derived.Test.YtienbbhelhhfjaaGreatDoorG10
import Derived.Test.YtienbbhelhhfjaaGreatDoorG11
import Derived.Test.YtienbbhelhhfjaaGreatDoorG07
import Derived.Test.YtienbbhelhhfjaaGreatDoorG08
import Derived.Lib.Join
import Derived.Shelf.Strings.OnBuilder
namespace Go.Proofs.YtienbbhelhhfjaaGreatDoor
open Go.Sx Go.RowKit
noncomputable section
open Classical

set_option maxRecDepth 100000 in
set_option maxHeartbeats 0 in
theorem fits_ok : FOk Tryz.prog 31 fitsS := by
  refine fok_v mixed fun d vs A hp => ?_
  obtain ⟨cs, rfl, hR, hA⟩ : ∃ cs, vs = [deedV cs] ∧ DeedR A d cs ∧ HasA A := hp
  obtain ⟨⟨zxid, kind, ses, turn, xid, time, path, data, owner, ver, cver, tmo, err, cfg, mem⟩, parts⟩ := d
  rw [DeedR] at hR
  dsimp only [DeedH.cells] at hR
  obtain ⟨vd, vm, vp, rows, rfl, -, ⟨⟨a7, k7, rfl, -⟩, -⟩, ⟨⟨a14, k14, rfl, -⟩, -⟩, ⟨a15, k15, rfl, -⟩, -⟩ := hR
  refine ⟨C0, noL, 60, C0_sound, noL_sound _, ?_⟩
  by_cases hk : kind = 1 ∨ kind = 2 ∨ kind = 3 ∨ kind = 4 ∨ kind = 5 ∨ kind = 6 ∨ kind = 7 ∨ kind = 8 ∨ kind = 9
  · rcases hk with rfl | rfl | rfl | rfl | rfl | rfl | rfl | rfl | rfl
    · exact fitsK1 hA _ _ _ _ _ _ _ _ _ _ _ _ _ _ _ _ _ _ _ _ _
    · exact fitsK2 hA _ _ _ _ _ _ _ _ _ _ _ _ _ _ _ _ _ _ _ _ _
    · exact fitsK3 hA _ _ _ _ _ _ _ _ _ _ _ _ _ _ _ _ _ _ _ _ _
    · exact fitsK4 hA _ _ _ _ _ _ _ _ _ _ _ _ _ _ _ _ _ _ _ _ _
    · exact fitsK5 hA _ _ _ _ _ _ _ _ _ _ _ _ _ _ _ _ _ _ _ _ _
    · exact fitsK6 hA _ _ _ _ _ _ _ _ _ _ _ _ _ _ _ _ _ _ _ _ _
    · exact fitsK7 hA _ _ _ _ _ _ _ _ _ _ _ _ _ _ _ _ _ _ _ _ _
    · exact fitsK8 hA _ _ _ _ _ _ _ _ _ _ _ _ _ _ _ _ _ _ _ _ _
    · exact fitsK9 hA _ _ _ _ _ _ _ _ _ _ _ _ _ _ _ _ _ _ _ _ _
  · have bad : Value.bool false = .bool (decide (FitsD ⟨zxid, kind, ses, turn, xid, time, path, data, owner, ver, cver, tmo, err, cfg, mem⟩ parts.length)) := by
      rw [decide_eq_false fun h => hk (by have := h.1; dsimp only at this; omega)]
    intro blk os out tape D hD
    conv => lhs; whnf
    refine split_dec (fun h1 => ?_) (fun h1 => ?_) <;> (conv => lhs; whnf)
    · exact (hD _).2 ⟨rfl, bad⟩
    refine split_dec (fun h2 => ?_) (fun h2 => ?_) <;> (conv => lhs; whnf)
    · exact (hD _).2 ⟨rfl, bad⟩
    exact absurd (by omega) hk

end
end Go.Proofs.YtienbbhelhhfjaaGreatDoor

namespace Go.Proofs.YtienbbhelhhfjaaGreatDoor
open Go.Sx Go.RowKit
noncomputable section
open Classical

/-- May a deed be a part? -/
def PartD (last : Int) (p : DeedD) : Prop :=
  p.h.zxid = 0 ∧ p.h.ses = 0 ∧ p.h.turn = 0 ∧ p.h.xid = 0 ∧ p.h.time = 0 ∧ FitsD p.h p.parts.length ∧ p.h.kind ≤ last ∧ (last = 2 → p.h.kind = 2)

def PartsD (ds : List DeedD) (least most last : Int) : Prop := least ≤ ds.length ∧ (ds.length : Int) ≤ most ∧ ∀ p ∈ ds, PartD last p

def partsS : FSpec := ⟨List DeedD × Int × Int × Int, fun g vs A => ∃ v, vs = [v, .int .i64 g.2.1, .int .i64 g.2.2.1, .int .u8 g.2.2.2] ∧ DeedsS A v g.1 ∧ HasA A, fun g _ A v A' => A' = A ∧ v = .bool (decide (PartsD g.1 g.2.1 g.2.2.1 g.2.2.2))⟩

def partsInv (A : Arena) (ds : List DeedD) (last : Int) : LInv := { γ := Nat, G := fun k => k ≤ ds.length ∧ ∀ p ∈ ds.take k, PartD last p, keepS := [3, 21, 22], keepB := [], sl := fun k => [(23, .v (.int .i64 k))], bl := fun _ => [], ar := fun _ => A, mu := fun k => ds.length - k }

set_option maxRecDepth 100000 in
set_option maxHeartbeats 0 in
theorem parts_ok : FOk Tryz.prog 32 partsS := by
  refine fok_v mixed fun ⟨ds, least, most, last⟩ vs A hp => ?_
  obtain ⟨v, rfl, ⟨rows, ⟨ao, c, rfl, hc, hl, ha1, ha2, ha3⟩, hsz, hR⟩, hA⟩ : ∃ v, vs = [v, .int .i64 least, .int .i64 most, .int .u8 last] ∧ DeedsS A v ds ∧ HasA A := hp
  have hC : CTSound Tryz.prog (lookC [specE 31 fitsS] noC) := lookC_sound (noC_sound _) (fun x hx => by
    simp only [List.mem_singleton] at hx
    subst hx; exact specE_ok fits_ok)
  refine ⟨_, tabO Tryz.prog _ noL 60 [(32, 0)], 60, hC, tabO_sound mixed hC (noL_sound _) _ _, fun blk os out tape D hD => ?_⟩
  have bad : ¬ PartsD ds least most last → Value.bool false = .bool (decide (PartsD ds least most last)) := fun h => by rw [decide_eq_false h]
  conv => lhs; whnf
  refine split_dec (fun h1 => ?_) (fun h1 => ?_) <;> (conv => lhs; whnf)
  · have h1 : (ds.length : Int) < least := h1
    exact (hD _).2 ⟨rfl, bad fun h => by have := h.1; omega⟩
  have h1 : ¬ (ds.length : Int) < least := h1
  refine split_dec (fun h2 => ?_) (fun h2 => ?_) <;> (conv => lhs; whnf)
  · have h2 : most < (ds.length : Int) := h2
    exact (hD _).2 ⟨rfl, bad fun h => by have := h.2.1; omega⟩
  have h2 : ¬ most < (ds.length : Int) := h2
  refine (hD _).2 ⟨partsInv A ds last, ⟨(0 : Nat), ⟨Nat.zero_le _, by simp⟩, ⟨rfl, trivial⟩, trivial, rfl⟩, fun (k : Nat) hG => ⟨⟨trivial, trivial⟩, trivial, ?_⟩⟩
  obtain ⟨hk, hall⟩ : k ≤ ds.length ∧ ∀ p ∈ ds.take k, PartD last p := hG
  conv => lhs; whnf
  refine split_dec (fun hlt => ?_) (fun hlt => ?_)
  · have hlt : (k : Int) < ds.length := hlt
    have hkn : k < ds.length := by omega
    obtain ⟨g, o, rfl, hra⟩ := Sl.at_ hc ha1 ha2 ha3 (by omega)
    obtain ⟨cs, hcs, hd⟩ := deed_at hra hR k hkn rfl
    conv => lhs; whnf
    refine go_in ⟨by omega, hlt⟩ ?_
    conv => lhs; whnf
    have hbad : ¬ PartD last ds[k] → ¬ PartsD ds least most last := fun h hp => h (hp.2.2 _ (List.getElem_mem hkn))
    have hgood : PartD last ds[k] → ∀ p ∈ ds.take (k + 1), PartD last p := fun h p hp => by
      rw [List.take_succ_eq_append_getElem hkn, List.mem_append] at hp
      rcases hp with hp | hp
      · exact hall p hp
      · rw [List.mem_singleton] at hp
        subst hp; exact h
    generalize ds[k] = d at hd hbad hgood
    obtain ⟨⟨zxid, kind, ses, turn, xid, time, path, data, owner, ver, cver, tmo, err, cfg, mem⟩, parts⟩ := d
    obtain ⟨a7, l7, k7, a14, l14, k14, a15, l15, k15, rfl⟩ := hd.form
    dsimp only [DeedD.h, DeedH.cells] at hcs hd
    simp only [PartD, DeedD.h, DeedD.parts] at hbad hgood
    refine go_rd hcs ?_
    conv => lhs; whnf
    refine split_b (fun h => ?_) (fun h3 => ?_) <;> (conv => lhs; whnf)
    · simp at h; exact (hD _).2 ⟨rfl, bad (hbad fun hP => by omega)⟩
    refine split_b (fun h => ?_) (fun h4 => ?_) <;> (conv => lhs; whnf)
    · simp at h; exact (hD _).2 ⟨rfl, bad (hbad fun hP => by omega)⟩
    refine split_b (fun h => ?_) (fun h5 => ?_) <;> (conv => lhs; whnf)
    · simp at h; exact (hD _).2 ⟨rfl, bad (hbad fun hP => by omega)⟩
    refine split_b (fun h => ?_) (fun h6 => ?_) <;> (conv => lhs; whnf)
    · simp at h; exact (hD _).2 ⟨rfl, bad (hbad fun hP => by omega)⟩
    refine split_b (fun h => ?_) (fun h7 => ?_) <;> (conv => lhs; whnf)
    · simp at h; exact (hD _).2 ⟨rfl, bad (hbad fun hP => by omega)⟩
    refine (hD _).2 ⟨_, ⟨_, rfl, hd, hA⟩, fun v A' hq => ?_⟩
    obtain ⟨rfl, rfl⟩ : A' = A ∧ v = .bool (decide (FitsD ⟨zxid, kind, ses, turn, xid, time, path, data, owner, ver, cver, tmo, err, cfg, mem⟩ parts.length)) := hq
    simp at h3 h4 h5 h6 h7
    conv => lhs; whnf
    refine split_nd (fun h8 => ?_) (fun h8 => ?_) <;> (conv => lhs; whnf)
    rotate_left
    · exact (hD _).2 ⟨rfl, bad (hbad fun hP => h8 hP.2.2.2.2.2.1)⟩
    refine split_dec (fun h9 => ?_) (fun h9 => ?_) <;> (conv => lhs; whnf)
    · exact (hD _).2 ⟨rfl, bad (hbad fun hP => by omega)⟩
    refine split_dec (fun h10 => ?_) (fun h10 => ?_) <;> (conv => lhs; whnf)
    · refine split_b (fun h => ?_) (fun h => ?_) <;> (conv => lhs; whnf)
      · simp at h
        exact (hD _).2 ⟨rfl, bad (hbad fun hP => by omega)⟩
      · simp at h
        exact (hD _).2 ⟨(k + 1 : Nat), ⟨⟨by omega, hgood ⟨h3, h4, h5, h6, h7, h8, by omega, fun _ => by omega⟩⟩, ⟨inc_slot (by omega), trivial⟩, trivial, rfl⟩, by show ds.length - (k + 1) < ds.length - k; omega, ⟨rfl, rfl, rfl, trivial⟩, trivial⟩
    · refine (hD _).2 ⟨(k + 1 : Nat), ⟨⟨by omega, hgood ⟨h3, h4, h5, h6, h7, h8, by omega, fun h => absurd h h10⟩⟩, ⟨inc_slot (by omega), trivial⟩, trivial, rfl⟩, by show ds.length - (k + 1) < ds.length - k; omega, ⟨rfl, rfl, rfl, trivial⟩, trivial⟩
  · have hlt : ¬ (k : Int) < ds.length := hlt
    conv => lhs; whnf
    refine (hD _).2 ⟨rfl, ?_⟩
    have hkn : k = ds.length := by omega
    rw [hkn, List.take_length] at hall
    have h9 : PartsD ds least most last := ⟨by omega, by omega, hall⟩
    show Value.bool true = .bool (decide (PartsD ds least most last))
    rw [decide_eq_true h9]

/-- Is a deed right? -/
def RightD (d : DeedD) : Prop :=
  1 ≤ d.h.zxid ∧ d.h.zxid / 4294967296 ≤ 1073741824 ∧ 0 ≤ d.h.ses ∧ 0 ≤ d.h.turn ∧ 0 ≤ d.h.xid ∧ 0 ≤ d.h.time ∧ FitsD d.h d.parts.length ∧
  (d.h.kind = 5 → PartsD d.parts 0 500 2) ∧ (d.h.kind = 7 → ensD d.h.cfg d.h.mem = 0 ∧ d.h.cfg = d.h.zxid) ∧ (d.h.kind = 8 → PartsD d.parts 1 16 3)

def rightS : FSpec := ⟨DeedD, fun d vs A => ∃ cs, vs = [deedV cs] ∧ DeedR A d cs ∧ HasA A, fun d _ A v A' => A' = A ∧ v = .bool (decide (RightD d))⟩

set_option maxRecDepth 100000 in
set_option maxHeartbeats 0 in
theorem right_ok : FOk Tryz.prog 22 rightS := by
  refine fok_v mixed fun d vs A hp => ?_
  obtain ⟨cs, rfl, hR, hA⟩ : ∃ cs, vs = [deedV cs] ∧ DeedR A d cs ∧ HasA A := hp
  have hC : CTSound Tryz.prog (lookC [specE 31 fitsS, specE 32 partsS, specE 33 ensS] noC) := lookC_sound (noC_sound _) (fun x hx => by
    simp only [List.mem_cons, List.not_mem_nil, or_false] at hx
    rcases hx with rfl | rfl | rfl
    · exact specE_ok fits_ok
    · exact specE_ok parts_ok
    · exact specE_ok ens_ok)
  refine ⟨_, noL, 60, hC, noL_sound _, fun blk os out tape D hD => ?_⟩
  have hR0 := hR
  obtain ⟨⟨zxid, kind, ses, turn, xid, time, path, data, owner, ver, cver, tmo, err, cfg, mem⟩, parts⟩ := d
  rw [DeedR] at hR
  dsimp only [DeedH.cells] at hR
  obtain ⟨vd, vm, vp, rows, rfl, -, ⟨⟨a7, k7, rfl, -⟩, -⟩, hM, hS, hlen, hRows⟩ := hR
  obtain ⟨a14, k14, rfl⟩ := hM.1.form
  obtain ⟨a15, k15, rfl⟩ := hS.form
  have bad : ¬ RightD (.mk ⟨zxid, kind, ses, turn, xid, time, path, data, owner, ver, cver, tmo, err, cfg, mem⟩ parts) → Value.bool false = .bool (decide (RightD (.mk ⟨zxid, kind, ses, turn, xid, time, path, data, owner, ver, cver, tmo, err, cfg, mem⟩ parts))) := fun h => by rw [decide_eq_false h]
  have fin : ∀ {b : Bool}, (b = true ↔ RightD (.mk ⟨zxid, kind, ses, turn, xid, time, path, data, owner, ver, cver, tmo, err, cfg, mem⟩ parts)) → Value.bool b = .bool (decide (RightD (.mk ⟨zxid, kind, ses, turn, xid, time, path, data, owner, ver, cver, tmo, err, cfg, mem⟩ parts))) := fun {b} h => by
    congr 1
    rw [Bool.eq_iff_iff, decide_eq_true_eq]
    exact h
  simp only [RightD, DeedD.h, DeedD.parts] at bad fin
  conv => lhs; whnf
  refine split_dec (fun h1 => ?_) (fun h1 => ?_) <;> (conv => lhs; whnf)
  · exact (hD _).2 ⟨rfl, bad fun h => by omega⟩
  have hz : zxid.fdiv (2 ^ min (Int.toNat 32) IntKind.i64.bits) = zxid / 4294967296 := by
    show zxid.fdiv 4294967296 = _
    rw [Int.fdiv_eq_ediv_of_nonneg _ (by decide)]
  refine split_dec (fun h2 => ?_) (fun h2 => ?_) <;> (conv => lhs; whnf)
  rotate_left
  · exact (hD _).2 ⟨rfl, bad fun h => by omega⟩
  refine split_nd (fun h3 => ?_) (fun h3 => ?_) <;> (conv => lhs; whnf)
  rotate_left
  · rw [hz] at h3
    exact (hD _).2 ⟨rfl, bad fun h => by omega⟩
  rw [hz] at h3
  refine split_dec (fun h4 => ?_) (fun h4 => ?_) <;> (conv => lhs; whnf)
  · exact (hD _).2 ⟨rfl, bad fun h => by omega⟩
  refine split_dec (fun h5 => ?_) (fun h5 => ?_) <;> (conv => lhs; whnf)
  · exact (hD _).2 ⟨rfl, bad fun h => by omega⟩
  refine split_dec (fun h6 => ?_) (fun h6 => ?_) <;> (conv => lhs; whnf)
  · exact (hD _).2 ⟨rfl, bad fun h => by omega⟩
  refine split_dec (fun h7 => ?_) (fun h7 => ?_) <;> (conv => lhs; whnf)
  · exact (hD _).2 ⟨rfl, bad fun h => by omega⟩
  refine (hD _).2 ⟨_, ⟨_, rfl, hR0, hA⟩, fun v A' hq => ?_⟩
  obtain ⟨rfl, rfl⟩ : A' = A ∧ v = .bool (decide (FitsD ⟨zxid, kind, ses, turn, xid, time, path, data, owner, ver, cver, tmo, err, cfg, mem⟩ parts.length)) := hq
  conv => lhs; whnf
  refine split_nd (fun h8 => ?_) (fun h8 => ?_) <;> (conv => lhs; whnf)
  rotate_left
  · exact (hD _).2 ⟨rfl, bad fun h => h8 h.2.2.2.2.2.2.1⟩
  refine split_dec (fun h9 => ?_) (fun h9 => ?_) <;> (conv => lhs; whnf)
  · refine (hD _).2 ⟨(parts, 0, 500, 2), ⟨_, rfl, ⟨rows, hS, hlen, hRows⟩, hA⟩, fun v A'' hq => ?_⟩
    obtain ⟨rfl, rfl⟩ : A'' = A' ∧ v = .bool (decide (PartsD parts 0 500 2)) := hq
    conv => lhs; whnf
    exact (hD _).2 ⟨rfl, fin (by
      rw [decide_eq_true_eq]
      exact ⟨fun h => ⟨by omega, by omega, by omega, by omega, by omega, by omega, h8, fun _ => h, fun h => by omega, fun h => by omega⟩, fun h => h.2.2.2.2.2.2.2.1 h9⟩)⟩
  refine split_dec (fun h10 => ?_) (fun h10 => ?_) <;> (conv => lhs; whnf)
  · refine (hD _).2 ⟨(cfg, mem), ⟨_, rfl, hM⟩, fun v A'' hq => ?_⟩
    obtain ⟨rfl, rfl⟩ : A'' = A' ∧ v = .int .i64 (ensD cfg mem) := hq
    conv => lhs; whnf
    refine split_dec (fun h11 => ?_) (fun h11 => ?_) <;> (conv => lhs; whnf)
    · exact (hD _).2 ⟨rfl, fin (by
        rw [cond_true, decide_eq_true_eq]
        exact ⟨fun h => ⟨by omega, by omega, by omega, by omega, by omega, by omega, h8, fun h => by omega, fun _ => ⟨h11, h⟩, fun h => by omega⟩, fun h => (h.2.2.2.2.2.2.2.2.1 h10).2⟩)⟩
    · exact (hD _).2 ⟨rfl, bad fun h => h11 (h.2.2.2.2.2.2.2.2.1 h10).1⟩
  refine split_dec (fun h12 => ?_) (fun h12 => ?_) <;> (conv => lhs; whnf)
  · refine (hD _).2 ⟨(parts, 1, 16, 3), ⟨_, rfl, ⟨rows, hS, hlen, hRows⟩, hA⟩, fun v A'' hq => ?_⟩
    obtain ⟨rfl, rfl⟩ : A'' = A' ∧ v = .bool (decide (PartsD parts 1 16 3)) := hq
    conv => lhs; whnf
    exact (hD _).2 ⟨rfl, fin (by
      rw [decide_eq_true_eq]
      exact ⟨fun h => ⟨by omega, by omega, by omega, by omega, by omega, by omega, h8, fun h => by omega, fun h => by omega, fun _ => h⟩, fun h => h.2.2.2.2.2.2.2.2.2 h12⟩)⟩
  · exact (hD _).2 ⟨rfl, fin (iff_of_true rfl ⟨by omega, by omega, by omega, by omega, by omega, by omega, h8, fun h => by omega, fun h => by omega, fun h => by omega⟩)⟩

end
end Go.Proofs.YtienbbhelhhfjaaGreatDoor

namespace Go.Sx
noncomputable section

/-- What an append of m elements to it asks. -/
structure GrowM (A : Arena) (base : Option (Nat × Nat)) (n m c es bytes : Nat) (cs : List Value) : Prop where
  rd : baseRd A base (n * es) = some cs
  cap : c < n + m → Builtin.nextslicecap (n + m) c * bytes ≤ 281474976710656
  none_ : base = none → n = 0 ∧ c = 0
  room : ∀ (k : Nat), k = m * es → ∀ g o, base = some (g, o) → n + m ≤ c → A.Room g (o + n * es) k

theorem GrowR.formN {A1 A : Arena} {es : Nat} {e : TypeId} {n : Nat} {v : Value} {cs : List Value} (h : GrowR A1 A es e n v cs) :
    ∃ base c, v = .slice (addrA base) n c ∧ (base = none ∨ ∃ g, base = some (g, 0)) ∧ (∀ m bytes, bytes ≤ 65536 → n + m ≤ 1000000000 → GrowM A base n m c es bytes cs) ∧
    ∀ m ys v' A', ys.length = m * es → (∀ k, A.blk k = none → A1.blk k = none) → Appended A base n c es e cs ys m v' A' → GrowR A1 A' es e (n + m) v' (cs ++ ys) ∧ ∀ k o, A1.blk k = some o → A'.blk k = A.blk k := by
  obtain ⟨hl, ⟨rfl, rfl⟩ | ⟨g, nc, c, rfl, hn, hpos, hg, hb, hsz, ht⟩⟩ := h
  · have hcs : cs = [] := List.length_eq_zero_iff.1 (by rw [hl]; simp)
    subst hcs
    refine ⟨none, 0, rfl, .inl rfl, fun m bytes hby hn => ⟨by simp [baseRd], fun h => ?_, fun _ => ⟨rfl, rfl⟩, fun _ _ _ _ h => (by cases h)⟩, fun m ys v' A' hy hd ha => ?_⟩
    · have := nextcap_le h
      calc _ ≤ (2 * (0 + m) + 768) * 65536 := Nat.mul_le_mul this hby
        _ ≤ _ := by omega
    · rcases ha with ⟨h0, rfl, h3⟩ | ⟨hlt, g, nc, c, zs, rfl, hnc, hc, hz, hN⟩
      · have hm : m = 0 := by omega
        subst hm
        have hys : ys = [] := List.length_eq_zero_iff.1 (by rw [hy]; simp)
        subst hys
        rcases h3 with ⟨_, rfl⟩ | ⟨g, o, h, _⟩
        · exact ⟨GrowR.nil _ _ _ _, fun _ _ _ => rfl⟩
        · cases h
      · refine ⟨⟨by simp [hy], .inr ⟨g, nc, c, rfl, hnc, by omega, hd g hN.none_, hN.at_, ?_, ?_⟩⟩, fun k o hk => hN.other k fun e => (by subst e; rw [hd _ hN.none_] at hk; cases hk)⟩
        · rw [← Array.length_toList, hc]
          simp only [List.nil_append, List.length_append, hy, hz, Nat.zero_add]
          rw [← Nat.add_mul]; congr 1; omega
        · rw [hc, Nat.zero_add, List.nil_append, List.take_append_of_le_length (by omega), List.take_of_length_le (by omega)]
  · have hle : n * es ≤ nc * es := Nat.mul_le_mul_right _ hn
    refine ⟨some (g, 0), nc, rfl, .inr ⟨g, rfl⟩, fun m bytes hby hnb => ⟨?_, fun h => ?_, fun h => (by cases h), fun k hk g' o' h hlt => ?_⟩, fun m ys v' A' hy hd ha => ?_⟩
    · show (if n * es = 0 then some [] else A.rd g 0 (n * es)) = some cs
      by_cases h0 : n * es = 0
      · rw [if_pos h0]
        rw [h0] at hl; rw [List.length_eq_zero_iff.1 hl]
      · rw [if_neg h0, rd_mk hb (by omega)]; simp [ht]
    · have := nextcap_le h
      calc _ ≤ (2 * (n + m) + 768) * 65536 := Nat.mul_le_mul this hby
        _ ≤ _ := by omega
    · injection h with h; injection h with h1 h2; subst h1; subst h2; subst hk
      refine ⟨c, e, (0, 0), hb, ?_, .inl rfl⟩
      have := Nat.mul_le_mul_right es hlt
      rw [Nat.add_mul] at this; omega
    · rcases ha with ⟨h0, rfl, h3⟩ | ⟨h0, g', nc', c', zs, rfl, hnc, hc, hz, hN⟩
      · obtain ⟨c', k1, k2, k3⟩ : ∃ c', A'.blk g = some (.cells c' e (0, 0)) ∧ (∀ k, k ≠ g → A'.blk k = A.blk k) ∧ c'.toList = c.toList.take (n * es) ++ ys ++ c.toList.drop (n * es + ys.length) := by
          rcases h3 with ⟨rfl, rfl⟩ | ⟨g', o', h, hP⟩
          · exact ⟨c, hb, fun _ _ => rfl, by simp⟩
          · injection h with h; injection h with h1 h2; subst h1; subst h2
            obtain ⟨c0, t0, fz0, c', k1, k2, k3⟩ := hP.at_
            rw [hb] at k1
            injection k1 with k1; injection k1 with k1 k1' k1''
            subst k1; subst k1'; subst k1''
            exact ⟨c', k2, hP.other, by rw [k3]; simp⟩
        have hlen : n * es + m * es ≤ nc * es := by rw [← Nat.add_mul]; exact Nat.mul_le_mul_right _ h0
        have hcl : (cs ++ ys).length = (n + m) * es := by rw [List.length_append, hl, hy, Nat.add_mul]
        refine ⟨⟨hcl, .inr ⟨g, nc, c', rfl, h0, hpos, hg, k1, ?_, ?_⟩⟩, fun k o hk => k2 k fun e => (by subst e; rw [hg] at hk; cases hk)⟩
        · rw [← Array.length_toList, k3]
          simp only [List.length_append, List.length_take, List.length_drop, Array.length_toList, hsz, hy]
          omega
        · rw [k3, ht, List.take_append_of_le_length (by omega), List.take_of_length_le (by omega)]
      · have hcl : (cs ++ ys).length = (n + m) * es := by rw [List.length_append, hl, hy, Nat.add_mul]
        refine ⟨⟨hcl, .inr ⟨g', nc', c', rfl, hnc, by omega, hd g' hN.none_, hN.at_, ?_, ?_⟩⟩, fun k o hk => hN.other k fun e => (by subst e; rw [hd _ hN.none_] at hk; cases hk)⟩
        · rw [← Array.length_toList, hc]
          simp only [List.length_append, hl, hy, hz]
          rw [← Nat.add_mul, ← Nat.add_mul]; congr 1; omega
        · rw [hc, List.take_append_of_le_length (by omega), List.take_of_length_le (by omega)]

theorem addrA_inj {b b' : Option (Nat × Nat)} (h : addrA b = addrA b') : b = b' := by
  cases b with
  | none => cases b' with
    | none => rfl
    | some y => cases h
  | some x => cases b' with
    | none => cases h
    | some y =>
      obtain ⟨g, o⟩ := x
      obtain ⟨g', o'⟩ := y
      injection h with h
      injection h with h1 h2
      rw [h1, h2]

/-- The same, where the slice is spelled out. -/
theorem GrowR.formB {A1 A : Arena} {es : Nat} {e : TypeId} {n c : Nat} {base : Option (Nat × Nat)} {cs : List Value} (h : GrowR A1 A es e n (.slice (addrA base) n c) cs) :
    (∀ m bytes, bytes ≤ 65536 → n + m ≤ 1000000000 → GrowM A base n m c es bytes cs) ∧
    ∀ m ys v' A', ys.length = m * es → (∀ k, A.blk k = none → A1.blk k = none) → Appended A base n c es e cs ys m v' A' → GrowR A1 A' es e (n + m) v' (cs ++ ys) ∧ ∀ k o, A1.blk k = some o → A'.blk k = A.blk k := by
  obtain ⟨b', c', hv, _, h1, h2⟩ := h.formN
  injection hv with hv1 hv2 hv3
  have e := addrA_inj hv1
  subst e; subst hv3
  exact ⟨h1, h2⟩

theorem GrowR.cap_le {A1 A : Arena} {es : Nat} {e : TypeId} {n m c : Nat} {ao : Option Addr} {cs : List Value} (h : GrowR A1 A es e n (.slice ao m c) cs) : n ≤ c := by
  obtain ⟨_, ⟨rfl, h⟩ | ⟨g, nc, _, h, hn, _⟩⟩ := h
  · omega
  · injection h with h1 h2 h3
    omega

/-- What lies at the front of a row. -/
theorem src_take {A : Arena} {g o n q : Nat} {α : Type} {f : α → Value} {l : List α} (h : A.rd g 0 (n * 1) = some (l.map f)) (hq : q ≤ n) (ho : o = 0) : (if q = 0 then some [] else A.rd g o (q * 1)) = some ((l.take q).map f) := by
  subst ho
  by_cases h0 : q = 0
  · rw [if_pos h0, h0, List.take_zero]; rfl
  · rw [if_neg h0]
    have := rd_at h (i := 0) (m := q * 1) (by omega)
    rw [Nat.add_zero, List.drop_zero, Nat.mul_one, ← List.map_take] at this
    rw [Nat.mul_one]
    exact this

/-- What lies behind. -/
theorem src_drop {A : Arena} {g o n q : Nat} {α : Type} {f : α → Value} {l : List α} (h : A.rd g 0 (n * 1) = some (l.map f)) (hn : n = l.length) (ho : q < n → o = q) : (if n - q = 0 then some [] else A.rd g o ((n - q) * 1)) = some ((l.drop q).map f) := by
  by_cases h0 : n - q = 0
  · rw [if_pos h0, List.drop_eq_nil_of_le (by omega)]; rfl
  · rw [if_neg h0, ho (by omega)]
    have := rd_at h (i := q) (m := (n - q) * 1) (by omega)
    rw [Nat.zero_add] at this
    rw [this, ← List.map_drop, List.take_of_length_le (by rw [List.length_map, List.length_drop]; omega)]

/-- A row made by append, as a slice. -/
theorem GrowR.sl {A1 A : Arena} {es : Nat} {e : TypeId} {n : Nat} {v : Value} {cs : List Value} (h : GrowR A1 A es e n v cs) : Sl A es n v cs := by
  obtain ⟨h1, ⟨rfl, rfl⟩ | ⟨g, nc, c, rfl, h4, h4', h5, h6, h7, h8⟩⟩ := h
  · have hc : cs = [] := List.length_eq_zero_iff.1 (by rw [h1]; simp)
    subst hc
    exact Sl.nil _ _
  · have hle : n * es ≤ nc * es := Nat.mul_le_mul_right _ h4
    refine Sl.row h4 ?_
    rw [rd_mk h6 (by omega), List.drop_zero, h8]

end
end Go.Sx

namespace Go.Proofs.YtienbbhelhhfjaaGreatDoor
open Go.Sx Go.RowKit
noncomputable section
open Classical

/-- A deed's head rings: what was rung so far, what is left. -/
def chStep (z : Int) (s : List RingD × List WatchD) (d : DeedD) : List RingD × List WatchD := (s.1 ++ chRings d.h.kind d.h.path z s.2, unrung d.h.kind d.h.path s.2)

/-- What a deed rings, and what is left. -/
def ringsW (d : DeedD) (ws : List WatchD) : List RingD × List WatchD := if RightD d then d.parts.foldl (chStep d.h.zxid) (chStep d.h.zxid ([], ws) d) else ([], ws)

theorem rung_len (k : Int) (p : ByteArray) (z : Int) (ws : List WatchD) : (chRings k p z ws).length + (unrung k p ws).length = ws.length := by
  rw [chRings, List.length_map, sortW_length, rung, unrung]
  induction ws with
  | nil => rfl
  | cons w ws ih =>
    by_cases h : rungK k p w = 0
    · rw [List.filter_cons, List.filter_cons, if_neg (by simp [h]), if_pos (by simp [h]), List.length_cons, List.length_cons]
      omega
    · rw [List.filter_cons, List.filter_cons, if_pos (by simp [h]), if_neg (by simp [h]), List.length_cons, List.length_cons]
      omega

theorem chStep_len (z : Int) (s : List RingD × List WatchD) (d : DeedD) : (chStep z s d).1.length + (chStep z s d).2.length = s.1.length + s.2.length := by
  have := rung_len d.h.kind d.h.path z s.2
  simp only [chStep, List.length_append]
  omega

theorem chSteps_len (z : Int) : ∀ (ds : List DeedD) (s : List RingD × List WatchD), (ds.foldl (chStep z) s).1.length + (ds.foldl (chStep z) s).2.length = s.1.length + s.2.length
  | [], _ => rfl
  | d :: ds, s => by rw [List.foldl_cons, chSteps_len z ds, chStep_len]

theorem unrung_ok {k : Int} {p : ByteArray} {ws : List WatchD} (h : WOk ws) : WOk (unrung k p ws) := fun w hw => h w (List.mem_filter.1 hw).1

theorem chSteps_ok (z : Int) : ∀ (ds : List DeedD) (s : List RingD × List WatchD), WOk s.2 → WOk (ds.foldl (chStep z) s).2
  | [], _, h => h
  | d :: ds, s, h => by rw [List.foldl_cons]; exact chSteps_ok z ds _ (unrung_ok h)

theorem chSteps_snoc (z : Int) (ds : List DeedD) (s : List RingD × List WatchD) {k : Nat} (hk : k < ds.length) : (ds.take (k + 1)).foldl (chStep z) s = chStep z ((ds.take k).foldl (chStep z) s) ds[k] := by
  rw [List.take_succ_eq_append_getElem hk, List.foldl_append]
  rfl

/-- A row made by append, as a source. -/
theorem grow_src {A1 A : Arena} {es n c : Nat} {e : TypeId} {base : Option (Nat × Nat)} {cs : List Value} (h : GrowR A1 A es e n (.slice (addrA base) n c) cs) :
    (base = none → n = 0 ∧ cs = []) ∧ ∀ g, base = some (g, 0) → (if n = 0 then some [] else A.rd g 0 (n * es)) = some cs := by
  obtain ⟨h1, h2 | ⟨g, nc, c', h3, h4, h4', h5, h6, h7, h8⟩⟩ := h
  · obtain ⟨rfl, h2⟩ := h2
    have hc : cs = [] := List.length_eq_zero_iff.1 (by rw [h1]; simp)
    exact ⟨fun _ => ⟨rfl, hc⟩, fun g _ => by rw [if_pos rfl, hc]⟩
  · injection h3 with h31 _ h33
    have e := addrA_inj (b := some (g, 0)) h31
    subst e
    refine ⟨fun h => (by cases h), fun g' hg' => ?_⟩
    injection hg' with hg'
    injection hg' with hg' _
    subst hg'
    by_cases h0 : n = 0
    · subst h0
      rw [if_pos rfl]
      have hc : cs = [] := List.length_eq_zero_iff.1 (by rw [h1]; simp)
      rw [hc]
    · have := Nat.mul_le_mul_right es h4
      rw [if_neg h0, rd_mk h6 (by omega), List.drop_zero, h8]

theorem ring_one (rs : List RingD) : ∀ v ∈ rs.flatMap RingD.cells, v.oneCell' = true := fun v hv => by
  obtain ⟨r, _, h⟩ := List.mem_flatMap.1 hv
  simp only [RingD.cells, List.mem_cons, List.not_mem_nil, or_false] at h
  rcases h with rfl | rfl | rfl | rfl | rfl <;> rfl

theorem rings_len : ∀ rs : List RingD, (rs.flatMap RingD.cells).length = rs.length * 5
  | [] => rfl
  | r :: rs => by rw [List.flatMap_cons, List.length_append, rings_len rs, List.length_cons, Nat.succ_mul]; show 5 + _ = _; omega

structure RiG where
  k : Nat
  A : Arena
  v : Value

def ringsInv (A0 : Arena) (t m : Nat) (s0 : List RingD × List WatchD) (z : Int) (ds : List DeedD) : LInv :=
  { γ := RiG, G := fun g => g.k ≤ ds.length ∧ TwTo A0 ⟨t, m, []⟩ ((ds.take g.k).foldl (chStep z) s0).2 g.A ∧ GrowR A0 g.A 5 51 ((ds.take g.k).foldl (chStep z) s0).1.length g.v (((ds.take g.k).foldl (chStep z) s0).1.flatMap RingD.cells),
    keepS := [0, 1, 3, 21, 22], keepB := [0], sl := fun g => [(5, .v g.v), (23, .v (.int .i64 g.k))], bl := fun _ => [], ar := fun g => g.A, mu := fun g => ds.length - g.k }

def bellRingS : FSpec := ⟨TwG × DeedD × Arena, fun g vs A => ∃ cs, vs = [.pointer (some ⟨g.1.t, 0, none⟩), deedV cs] ∧ TowerAt A g.1.t g.1.m g.1.ws ∧ WOk g.1.ws ∧ g.1.ws.length ≤ 1000000 ∧ DeedR g.2.2 g.2.1 cs ∧ g.2.2.Sub A ∧ g.2.2.blk g.1.m = none ∧ HasA A,
  fun g _ A v A' => TwTo A g.1 (ringsW g.2.1 g.1.ws).2 A' ∧ GrowR A A' 5 51 (ringsW g.2.1 g.1.ws).1.length v ((ringsW g.2.1 g.1.ws).1.flatMap RingD.cells)⟩

set_option maxRecDepth 100000 in
set_option maxHeartbeats 0 in
theorem bellRing_ok : FOk Tryz.prog 11 bellRingS := by
  refine fok_v mixed fun ⟨⟨t, m, ws⟩, d, B⟩ vs A hp => ?_
  obtain ⟨cs, rfl, hT, hok, hlen, hD0, hBA, hBm, hHas⟩ : ∃ cs, vs = [.pointer (some ⟨t, 0, none⟩), deedV cs] ∧ TowerAt A t m ws ∧ WOk ws ∧ ws.length ≤ 1000000 ∧ DeedR B d cs ∧ B.Sub A ∧ B.blk m = none ∧ HasA A := hp
  have hC : CTSound Tryz.prog (lookC [specE 23 bellChangeS, specE 22 rightS] noC) := lookC_sound (noC_sound _) (fun x hx => by
    simp only [List.mem_cons, List.not_mem_nil, or_false] at hx
    rcases hx with rfl | rfl
    · exact specE_ok bellChange_ok
    · exact specE_ok right_ok)
  have hDA := DeedR.sub hBA _ _ hD0
  obtain ⟨ot, hot⟩ := hT.top.dom
  obtain ⟨hd, parts⟩ := d
  have hD1 := hD0
  rw [DeedR] at hD0
  obtain ⟨vd, vm, vp, rows, rfl, _, ⟨hs1, _⟩, ⟨hs2, _⟩, hs3, hpl, hps⟩ := hD0
  obtain ⟨a7, k7, rfl⟩ := hs1.form
  obtain ⟨a14, k14, rfl⟩ := hs2.form
  obtain ⟨ao, c, rfl, hc, _, ha1, ha2, ha3⟩ := hs3
  refine ⟨_, tabO Tryz.prog _ noL 60 [(11, 0)], 60, hC, tabO_sound mixed hC (noL_sound _) _ _, fun blk os out tape D hD => ?_⟩
  conv => lhs; whnf
  refine (hD _).2 ⟨.mk hd parts, ⟨_, rfl, hDA, hHas⟩, fun v A1 hq => ?_⟩
  obtain ⟨h9, hv⟩ : A1 = A ∧ v = .bool (decide (RightD (.mk hd parts))) := hq
  subst h9; subst hv
  by_cases hr : RightD (.mk hd parts)
  · rw [decide_eq_true hr]
    conv => lhs; whnf
    refine (hD _).2 ⟨(⟨t, m, ws⟩, hd, hd.zxid), ⟨_, _, _, _, _, _, _, _, _, rfl, hT, hok, hlen⟩, fun v A2 hq => ?_⟩
    obtain ⟨hT2, hG2⟩ : TwTo A1 ⟨t, m, ws⟩ (unrung hd.kind hd.path ws) A2 ∧ GrowR A1 A2 5 51 (chRings hd.kind hd.path hd.zxid ws).length v ((chRings hd.kind hd.path hd.zxid ws).flatMap RingD.cells) := hq
    have hse : ringsW (.mk hd parts) ws = parts.foldl (chStep hd.zxid) (chRings hd.kind hd.path hd.zxid ws, unrung hd.kind hd.path ws) := by
      unfold ringsW
      rw [if_pos hr]
      rfl
    obtain ⟨s0, hs0⟩ : ∃ s0, s0 = (chRings hd.kind hd.path hd.zxid ws, unrung hd.kind hd.path ws) := ⟨_, rfl⟩
    rw [← hs0] at hse
    have hsl : s0.1.length + s0.2.length = ws.length := by rw [hs0]; exact rung_len _ _ _ _
    have hsk : WOk s0.2 := by rw [hs0]; exact unrung_ok hok
    have hT2 : TwTo A1 ⟨t, m, []⟩ s0.2 A2 := by rw [hs0]; exact ⟨hT2.tower, hT2.keep, hT2.dom⟩
    have hG2 : GrowR A1 A2 5 51 s0.1.length v (s0.1.flatMap RingD.cells) := by rw [hs0]; exact hG2
    conv => lhs; whnf
    refine (hD _).2 ⟨ringsInv A1 t m s0 hd.zxid parts, ⟨(⟨0, A2, v⟩ : RiG), ⟨⟨Nat.zero_le _, hT2, hG2⟩, ⟨rfl, rfl, trivial⟩, trivial, rfl⟩⟩, fun (g : RiG) hG => ⟨⟨trivial, trivial, trivial⟩, trivial, ?_⟩⟩
    obtain ⟨k, As, v1⟩ := g
    obtain ⟨hk, hTs, hGs⟩ : k ≤ parts.length ∧ TwTo A1 ⟨t, m, []⟩ ((parts.take k).foldl (chStep hd.zxid) s0).2 As ∧ GrowR A1 As 5 51 ((parts.take k).foldl (chStep hd.zxid) s0).1.length v1 (((parts.take k).foldl (chStep hd.zxid) s0).1.flatMap RingD.cells) := hG
    have hnl := chSteps_len hd.zxid (parts.take k) s0
    have hok2 := chSteps_ok hd.zxid (parts.take k) s0 hsk
    have hsn := fun h => chSteps_snoc hd.zxid parts s0 (k := k) h
    generalize hsg : (parts.take k).foldl (chStep hd.zxid) s0 = sg at hTs hGs hnl hok2 hsn
    obtain ⟨rs, wk⟩ := sg
    dsimp only at hTs hGs hnl hok2 hsn
    conv => lhs; whnf
    refine split_dec (fun hlt => ?_) (fun hlt => ?_)
    rotate_left
    · have hkl : k = parts.length := by
        have hlt : ¬ ((k : Int) < (parts.length : Int)) := hlt
        omega
      have hend : bellRingS.post (⟨t, m, ws⟩, .mk hd parts, B) [] A1 v1 As := by
        show TwTo A1 _ (ringsW _ _).2 As ∧ GrowR A1 As 5 _ (ringsW _ _).1.length _ _
        rw [hse]
        rw [hkl, List.take_length] at hsg
        rw [hsg]
        exact ⟨⟨hTs.tower, hTs.keep, hTs.dom⟩, hGs⟩
      conv => lhs; whnf
      exact (hD _).2 hend
    have hlt : (k : Int) < (parts.length : Int) := hlt
    have hkl : k < parts.length := by omega
    have i0 : (0 : Int) ≤ (k : Int) ∧ (k : Int) < (parts.length : Int) := by omega
    have hsn := hsn hkl
    have hBs : B.Sub As := fun b o hb => hTs.keep b o (fun e => by
      have e : b = m := e
      rw [e, hBm] at hb; cases hb) (hBA b o hb)
    obtain ⟨g, o, rfl, hra⟩ := Sl.at_ hc ha1 ha2 ha3 (by omega)
    obtain ⟨ck, hck, hdk⟩ := deed_at hra hps k hkl rfl
    have hck := rd_sub hBs hck
    obtain ⟨_, _, _, _, _, _, _, _, _, rfl⟩ := hdk.form
    obtain ⟨dk, hdk9⟩ : ∃ dk, dk = parts[k] := ⟨_, rfl⟩
    rw [← hdk9] at hck hdk hsn
    obtain ⟨⟨zxid, kind, ses, turn, xid, time, path, data, owner, ver, cver, tmo, err, cfg, mem⟩, pp⟩ := dk
    conv => lhs; whnf
    repeat (first | refine go_in i0 ?_ | refine go_rd hck ?_ | refine go_D hD rfl ?_
            conv => lhs; whnf)
    refine (hD _).2 ⟨(⟨t, m, wk⟩, ⟨zxid, kind, ses, turn, xid, time, path, data, owner, ver, cver, tmo, err, cfg, mem⟩, hd.zxid), ⟨_, _, _, _, _, _, _, _, _, rfl, hTs.tower, hok2, by show wk.length ≤ _; omega⟩, fun v A3 hq => ?_⟩
    obtain ⟨hT3, hG3⟩ : TwTo As ⟨t, m, wk⟩ (unrung kind path wk) A3 ∧ GrowR As A3 5 51 (chRings kind path hd.zxid wk).length v ((chRings kind path hd.zxid wk).flatMap RingD.cells) := hq
    have hrl := rung_len kind path hd.zxid wk
    have hsn : (parts.take (k + 1)).foldl (chStep hd.zxid) s0 = (rs ++ chRings kind path hd.zxid wk, unrung kind path wk) := hsn
    generalize chRings kind path hd.zxid wk = qs at hG3 hrl hsn
    generalize unrung kind path wk = wk3 at hT3 hrl hsn
    obtain ⟨em, cm, hom, _⟩ := hT.map
    have hGs3 : GrowR A1 A3 5 51 rs.length v1 (rs.flatMap RingD.cells) := grow_stay hGs fun b o h1 h2 => hT3.keep b o (fun e => by
      have e : b = m := e
      rw [e, hom] at h1; cases h1) h2
    have hT13 : TwTo A1 ⟨t, m, []⟩ wk3 A3 := ⟨hT3.tower, fun b o hb ho => hT3.keep b o hb (hTs.keep b o hb ho), fun b hb => hTs.dom b (hT3.dom b hb)⟩
    obtain ⟨n1, hn1⟩ : ∃ n, n = rs.length := ⟨_, rfl⟩
    obtain ⟨n2, hn2⟩ : ∃ n, n = qs.length := ⟨_, rfl⟩
    rw [← hn1] at hGs3
    rw [← hn2] at hG3
    obtain ⟨base, cp, rfl, hbase, -⟩ := hGs3.formN
    obtain ⟨b2, cp2, rfl, hb2, -⟩ := hG3.formN
    obtain ⟨hP, hA⟩ := hGs3.formB
    have hP := hP n2 40 (by omega) (by omega)
    obtain ⟨hsrc0, hsrc⟩ := grow_src hG3
    have hql := rings_len qs
    rw [← hn2] at hql
    have hfin : ∀ u A4, Appended A3 base n1 cp 5 51 (rs.flatMap RingD.cells) (qs.flatMap RingD.cells) n2 u A4 → (ringsInv A1 t m s0 hd.zxid parts).G ⟨k + 1, A4, u⟩ := fun u A4 hAp => by
      obtain ⟨hG4, hk4⟩ := hA _ _ _ _ hql hT13.dom hAp
      show k + 1 ≤ parts.length ∧ TwTo A1 ⟨t, m, []⟩ ((parts.take (k + 1)).foldl (chStep hd.zxid) s0).2 A4 ∧ GrowR A1 A4 5 51 ((parts.take (k + 1)).foldl (chStep hd.zxid) s0).1.length u (((parts.take (k + 1)).foldl (chStep hd.zxid) s0).1.flatMap RingD.cells)
      rw [hsn]
      refine ⟨hkl, ⟨hT13.tower.keep (hk4 t _ hot) (hk4 m _ hom), fun b o hb ho => by rw [hk4 b o ho]; exact hT13.keep b o hb ho, fun b hb => hT13.dom b (app_dom hAp b hb)⟩, ?_⟩
      show GrowR A1 A4 5 _ (rs ++ qs).length u ((rs ++ qs).flatMap RingD.cells)
      rw [List.length_append, List.flatMap_append, ← hn1, ← hn2]
      exact hG4
    rcases hbase with rfl | ⟨g1, rfl⟩ <;> rcases hb2 with rfl | ⟨g2, rfl⟩ <;> (conv => lhs; whnf)
    all_goals
      refine (hD _).2 ⟨rs.flatMap RingD.cells, qs.flatMap RingD.cells, hP.rd, by first | exact hsrc _ rfl | (show (if n2 = 0 then some [] else none) = _; rw [if_pos (hsrc0 rfl).1, (hsrc0 rfl).2]), hql, ring_one qs, by show n1 + n2 ≤ 9223372036854775807; omega, hP.cap, rfl, hP.none_, fun g' o' he' hle' _ => hP.room _ hql g' o' he' hle', fun u A4 hAp => ?_⟩
      have hG4 := hfin u A4 hAp
      conv => lhs; whnf
      exact (hD _).2 ⟨(⟨k + 1, A4, u⟩ : RiG), ⟨hG4, ⟨rfl, inc_slot (by omega), trivial⟩, trivial, rfl⟩, by show parts.length - (k + 1) < parts.length - k; omega, ⟨same1 rfl rfl, same1 rfl rfl, same1 rfl rfl, same1 rfl rfl, same1 rfl rfl, trivial⟩, ⟨same1 rfl rfl, trivial⟩⟩
  · rw [decide_eq_false hr]
    have hend : bellRingS.post (⟨t, m, ws⟩, .mk hd parts, B) [] A1 (.slice none 0 0) A1 := by
      show TwTo A1 _ (ringsW _ _).2 A1 ∧ GrowR A1 A1 5 _ (ringsW _ _).1.length _ _
      unfold ringsW
      rw [if_neg hr]
      exact ⟨.same hT, GrowR.nil _ _ _ _⟩
    conv => lhs; whnf
    exact (hD _).2 hend

end
end Go.Proofs.YtienbbhelhhfjaaGreatDoor

namespace Go.Proofs.YtienbbhelhhfjaaGreatDoor
open Go.Sx Go.RowKit
noncomputable section
open Classical

/-- A node, as far as watches look at it. -/
structure NdD where
  path : ByteArray
  czxid : Int
  mzxid : Int
  pzxid : Int
  ctime : Int
  mtime : Int
  ver : Int
  cver : Int
  owner : Int
  len : Int
  kids : Int

def NdD.cells (n : NdD) (vd : Value) : List Value := [.string n.path, vd, .int .i64 n.czxid, .int .i64 n.mzxid, .int .i64 n.pzxid, .int .i64 n.ctime, .int .i64 n.mtime, .int .i64 n.ver, .int .i64 n.cver, .int .i64 n.owner, .int .i64 n.len, .int .i64 n.kids]

structure EvD where
  kind : Int
  sort : Int
  path : ByteArray
  z : Int
deriving DecidableEq

def EvD.cells (e : EvD) : List Value := [.int .u8 e.kind, .int .u8 e.sort, .string e.path, .int .i64 e.z]

def noEv : EvD := ⟨0, 0, ⟨#[]⟩, 0⟩

def mxI (a b : Int) : Int := bif decide (a < b) then b else a

/-- What a watch tells as it is set again: its kind (0: nothing) and zxid. -/
def toldK (sort last : Int) (n : NdD) (there : Bool) : Int × Int :=
  if there = false then (if sort = 2 then (0, 0) else (2, 0))
  else if sort = 3 ∧ last < mxI n.czxid n.pzxid then (4, mxI n.czxid n.pzxid)
  else if sort = 2 ∧ last < n.czxid then (1, n.czxid)
  else if sort ≠ 3 ∧ last < n.mzxid then (3, n.mzxid)
  else (0, 0)

def againW (w : WatchD) (last : Int) (n : NdD) (there : Bool) (ws : List WatchD) : EvD × Bool × List WatchD :=
  if mayD w.sort w.path = true then
    if (toldK w.sort last n there).1 = 0 then (noEv, false, wPut w ws) else (⟨(toldK w.sort last n there).1, w.sort, w.path, (toldK w.sort last n there).2⟩, true, ws.erase w)
  else (noEv, false, ws)

def bellAgainS : FSpec := ⟨TwG × WatchD × Int × NdD × Bool, fun g vs A => ∃ a l k, vs = [.pointer (some ⟨g.1.t, 0, none⟩), .int .i64 g.2.1.conn, .int .u8 g.2.1.sort, .string g.2.1.path, .int .i64 g.2.2.1, .agg (g.2.2.2.1.cells (.slice a l k)).toArray, .bool g.2.2.2.2] ∧ TowerAt A g.1.t g.1.m g.1.ws,
  fun g _ A v A' => v = .tuple #[.agg (againW g.2.1 g.2.2.1 g.2.2.2.1 g.2.2.2.2 g.1.ws).1.cells.toArray, .bool (againW g.2.1 g.2.2.1 g.2.2.2.1 g.2.2.2.2 g.1.ws).2.1] ∧ TwTo A g.1 (againW g.2.1 g.2.2.1 g.2.2.2.1 g.2.2.2.2 g.1.ws).2.2 A'⟩

set_option maxRecDepth 100000 in
set_option maxHeartbeats 0 in
theorem bellAgain_ok : FOk Tryz.prog 27 bellAgainS := by
  refine fok_v mixed fun ⟨⟨t, m, ws⟩, ⟨conn, sort, p⟩, last, ⟨np, cz, mz, pz, ct, mt, ve, cv, ow, le, ki⟩, there⟩ vs A hp => ?_
  obtain ⟨a, l, k, rfl, hT⟩ : ∃ a l k, vs = [.pointer (some ⟨t, 0, none⟩), .int .i64 conn, .int .u8 sort, .string p, .int .i64 last, .agg (NdD.cells ⟨np, cz, mz, pz, ct, mt, ve, cv, ow, le, ki⟩ (.slice a l k)).toArray, .bool there] ∧ TowerAt A t m ws := hp
  have hC : CTSound Tryz.prog (lookC [specE 18 mayS, specE 7 bellAddS] noC) := lookC_sound (noC_sound _) (fun x hx => by
    simp only [List.mem_cons, List.not_mem_nil, or_false] at hx
    rcases hx with rfl | rfl
    · exact specE_ok may_ok
    · exact specE_ok bellAdd_ok)
  refine ⟨_, noL, 60, hC, noL_sound _, fun blk os out tape D hD => ?_⟩
  have htop : A.rd t 0 1 = some [.map (some m)] := hT.top.rd (o := 0) (n := 1) (by show 0 + 1 ≤ 1; omega)
  conv => lhs; whnf
  refine (hD _).2 ⟨((⟨t, m, ws⟩ : TwG), sort, p), ⟨rfl, hT⟩, fun v A1 hq => ?_⟩
  obtain ⟨h9, hv⟩ : A1 = A ∧ v = .bool (mayD sort p) := hq
  subst h9
  have hag : mayD sort p = true → againW ⟨conn, sort, p⟩ last ⟨np, cz, mz, pz, ct, mt, ve, cv, ow, le, ki⟩ there ws = if (toldK sort last ⟨np, cz, mz, pz, ct, mt, ve, cv, ow, le, ki⟩ there).1 = 0 then (noEv, false, wPut ⟨conn, sort, p⟩ ws) else (⟨(toldK sort last ⟨np, cz, mz, pz, ct, mt, ve, cv, ow, le, ki⟩ there).1, sort, p, (toldK sort last ⟨np, cz, mz, pz, ct, mt, ve, cv, ow, le, ki⟩ there).2⟩, true, ws.erase ⟨conn, sort, p⟩) := fun h => if_pos h
  cases hm : mayD sort p with
  | false =>
    rw [hm] at hv
    subst hv
    have hend : bellAgainS.post ((⟨t, m, ws⟩ : TwG), ⟨conn, sort, p⟩, last, ⟨np, cz, mz, pz, ct, mt, ve, cv, ow, le, ki⟩, there) [] A1 (.tuple #[.agg #[.int .u8 0, .int .u8 0, .string ⟨#[]⟩, .int .i64 0], .bool false]) A1 := by
      have : againW ⟨conn, sort, p⟩ last ⟨np, cz, mz, pz, ct, mt, ve, cv, ow, le, ki⟩ there ws = (noEv, false, ws) := if_neg (by rw [hm]; exact Bool.false_ne_true)
      show _ = Value.tuple #[.agg (againW _ _ _ _ _).1.cells.toArray, .bool (againW _ _ _ _ _).2.1] ∧ TwTo A1 _ (againW _ _ _ _ _).2.2 A1
      rw [this]
      exact ⟨rfl, .same hT⟩
    conv => lhs; whnf
    exact (hD _).2 hend
  | true =>
    rw [hm] at hv
    subst hv
    have hag := hag hm
    -- LEAVES
    cases there with
    | false =>
      by_cases h2 : sort = 2
      · subst h2
        have htk : toldK 2 last ⟨np, cz, mz, pz, ct, mt, ve, cv, ow, le, ki⟩ false = (0, 0) := by
          unfold toldK
          rfl
        rw [htk] at hag
        conv => lhs; whnf
        repeat (first | refine go_rd htop ?_ | refine go_D hD rfl ?_
                conv => lhs; whnf)
        refine (hD _).2 ⟨((⟨t, m, ws⟩ : TwG), ⟨conn, 2, p⟩), ⟨rfl, hT⟩, fun v A2 hq => ?_⟩
        have hq : TwTo A1 ⟨t, m, ws⟩ (if mayD 2 p = true then wPut ⟨conn, 2, p⟩ ws else ws) A2 := hq
        rw [if_pos hm] at hq
        have hend : bellAgainS.post ((⟨t, m, ws⟩ : TwG), ⟨conn, 2, p⟩, last, ⟨np, cz, mz, pz, ct, mt, ve, cv, ow, le, ki⟩, false) [] A1 (.tuple #[.agg #[.int .u8 0, .int .u8 0, .string ⟨#[]⟩, .int .i64 0], .bool false]) A2 := by
          show _ = Value.tuple #[.agg (againW _ _ _ _ _).1.cells.toArray, .bool (againW _ _ _ _ _).2.1] ∧ TwTo A1 _ (againW _ _ _ _ _).2.2 A2
          rw [hag]
          exact ⟨rfl, hq⟩
        conv => lhs; whnf
        exact (hD _).2 hend
      · have htk : toldK sort last ⟨np, cz, mz, pz, ct, mt, ve, cv, ow, le, ki⟩ false = (2, 0) := by
          unfold toldK
          rw [if_pos rfl, if_neg h2]
        rw [htk] at hag
        conv => lhs; whnf
        repeat (first | refine no_dec h2 ?_ | refine go_rd htop ?_ | refine go_D hD rfl ?_
                conv => lhs; whnf)
        refine (hD _).2 ⟨by kernel_rfl, _, hT.map, wL_alike ⟨conn, sort, p⟩ ws, fun A2 hM ho _ => ?_⟩
        have hM : MapAt A2 m (delL (wKey ⟨conn, sort, p⟩) (wL ws)) := hM
        rw [wL_del] at hM
        have hend : bellAgainS.post ((⟨t, m, ws⟩ : TwG), ⟨conn, sort, p⟩, last, ⟨np, cz, mz, pz, ct, mt, ve, cv, ow, le, ki⟩, false) [] A1 (.tuple #[.agg #[.int .u8 2, .int .u8 sort, .string p, .int .i64 0], .bool true]) A2 := by
          show _ = Value.tuple #[.agg (againW _ _ _ _ _).1.cells.toArray, .bool (againW _ _ _ _ _).2.1] ∧ TwTo A1 _ (againW _ _ _ _ _).2.2 A2
          rw [hag]
          exact ⟨rfl, .of_set hT hM ho (hT.nd.erase _)⟩
        conv => lhs; whnf
        exact (hD _).2 hend
    | true =>
      by_cases h3 : sort = 3
      · subst h3
        by_cases hl : last < mxI cz pz
        · have htk : toldK 3 last ⟨np, cz, mz, pz, ct, mt, ve, cv, ow, le, ki⟩ true = (4, (mxI cz pz)) := by
            unfold toldK
            rw [if_neg (by simp), if_pos ⟨rfl, hl⟩]
          rw [htk] at hag
          conv => lhs; whnf
          repeat (first | refine go_dec hl ?_ | refine go_rd htop ?_ | refine go_D hD rfl ?_
                  conv => lhs; whnf)
          refine (hD _).2 ⟨by kernel_rfl, _, hT.map, wL_alike ⟨conn, 3, p⟩ ws, fun A2 hM ho _ => ?_⟩
          have hM : MapAt A2 m (delL (wKey ⟨conn, 3, p⟩) (wL ws)) := hM
          rw [wL_del] at hM
          have hend : bellAgainS.post ((⟨t, m, ws⟩ : TwG), ⟨conn, 3, p⟩, last, ⟨np, cz, mz, pz, ct, mt, ve, cv, ow, le, ki⟩, true) [] A1 (.tuple #[.agg #[.int .u8 4, .int .u8 3, .string p, .int .i64 (mxI cz pz)], .bool true]) A2 := by
            show _ = Value.tuple #[.agg (againW _ _ _ _ _).1.cells.toArray, .bool (againW _ _ _ _ _).2.1] ∧ TwTo A1 _ (againW _ _ _ _ _).2.2 A2
            rw [hag]
            exact ⟨rfl, .of_set hT hM ho (hT.nd.erase _)⟩
          conv => lhs; whnf
          exact (hD _).2 hend
        · have htk : toldK 3 last ⟨np, cz, mz, pz, ct, mt, ve, cv, ow, le, ki⟩ true = (0, 0) := by
            unfold toldK
            rw [if_neg (by simp), if_neg (fun h => hl h.2), if_neg (by omega), if_neg (by omega)]
          rw [htk] at hag
          conv => lhs; whnf
          repeat (first | refine no_dec hl ?_ | refine go_rd htop ?_ | refine go_D hD rfl ?_
                  conv => lhs; whnf)
          refine (hD _).2 ⟨((⟨t, m, ws⟩ : TwG), ⟨conn, 3, p⟩), ⟨rfl, hT⟩, fun v A2 hq => ?_⟩
          have hq : TwTo A1 ⟨t, m, ws⟩ (if mayD 3 p = true then wPut ⟨conn, 3, p⟩ ws else ws) A2 := hq
          rw [if_pos hm] at hq
          have hend : bellAgainS.post ((⟨t, m, ws⟩ : TwG), ⟨conn, 3, p⟩, last, ⟨np, cz, mz, pz, ct, mt, ve, cv, ow, le, ki⟩, true) [] A1 (.tuple #[.agg #[.int .u8 0, .int .u8 0, .string ⟨#[]⟩, .int .i64 0], .bool false]) A2 := by
            show _ = Value.tuple #[.agg (againW _ _ _ _ _).1.cells.toArray, .bool (againW _ _ _ _ _).2.1] ∧ TwTo A1 _ (againW _ _ _ _ _).2.2 A2
            rw [hag]
            exact ⟨rfl, hq⟩
          conv => lhs; whnf
          exact (hD _).2 hend
      · by_cases h2 : sort = 2
        · subst h2
          by_cases hc : last < cz
          · have htk : toldK 2 last ⟨np, cz, mz, pz, ct, mt, ve, cv, ow, le, ki⟩ true = (1, cz) := by
              unfold toldK
              rw [if_neg (by simp), if_neg (by omega), if_pos ⟨rfl, hc⟩]
            rw [htk] at hag
            conv => lhs; whnf
            repeat (first | refine go_dec hc ?_ | refine go_rd htop ?_ | refine go_D hD rfl ?_
                    conv => lhs; whnf)
            refine (hD _).2 ⟨by kernel_rfl, _, hT.map, wL_alike ⟨conn, 2, p⟩ ws, fun A2 hM ho _ => ?_⟩
            have hM : MapAt A2 m (delL (wKey ⟨conn, 2, p⟩) (wL ws)) := hM
            rw [wL_del] at hM
            have hend : bellAgainS.post ((⟨t, m, ws⟩ : TwG), ⟨conn, 2, p⟩, last, ⟨np, cz, mz, pz, ct, mt, ve, cv, ow, le, ki⟩, true) [] A1 (.tuple #[.agg #[.int .u8 1, .int .u8 2, .string p, .int .i64 cz], .bool true]) A2 := by
              show _ = Value.tuple #[.agg (againW _ _ _ _ _).1.cells.toArray, .bool (againW _ _ _ _ _).2.1] ∧ TwTo A1 _ (againW _ _ _ _ _).2.2 A2
              rw [hag]
              exact ⟨rfl, .of_set hT hM ho (hT.nd.erase _)⟩
            conv => lhs; whnf
            exact (hD _).2 hend
          · by_cases hl : last < mz
            · have htk : toldK 2 last ⟨np, cz, mz, pz, ct, mt, ve, cv, ow, le, ki⟩ true = (3, mz) := by
                unfold toldK
                rw [if_neg (by simp), if_neg (by omega), if_neg (fun h => hc h.2), if_pos ⟨by omega, hl⟩]
              rw [htk] at hag
              conv => lhs; whnf
              repeat (first | refine no_dec hc ?_ | refine go_dec hl ?_ | refine go_rd htop ?_ | refine go_D hD rfl ?_
                      conv => lhs; whnf)
              refine (hD _).2 ⟨by kernel_rfl, _, hT.map, wL_alike ⟨conn, 2, p⟩ ws, fun A2 hM ho _ => ?_⟩
              have hM : MapAt A2 m (delL (wKey ⟨conn, 2, p⟩) (wL ws)) := hM
              rw [wL_del] at hM
              have hend : bellAgainS.post ((⟨t, m, ws⟩ : TwG), ⟨conn, 2, p⟩, last, ⟨np, cz, mz, pz, ct, mt, ve, cv, ow, le, ki⟩, true) [] A1 (.tuple #[.agg #[.int .u8 3, .int .u8 2, .string p, .int .i64 mz], .bool true]) A2 := by
                show _ = Value.tuple #[.agg (againW _ _ _ _ _).1.cells.toArray, .bool (againW _ _ _ _ _).2.1] ∧ TwTo A1 _ (againW _ _ _ _ _).2.2 A2
                rw [hag]
                exact ⟨rfl, .of_set hT hM ho (hT.nd.erase _)⟩
              conv => lhs; whnf
              exact (hD _).2 hend
            · have htk : toldK 2 last ⟨np, cz, mz, pz, ct, mt, ve, cv, ow, le, ki⟩ true = (0, 0) := by
                unfold toldK
                rw [if_neg (by simp), if_neg (by omega), if_neg (fun h => hc h.2), if_neg (fun h => hl h.2)]
              rw [htk] at hag
              conv => lhs; whnf
              repeat (first | refine no_dec hc ?_ | refine no_dec hl ?_ | refine go_rd htop ?_ | refine go_D hD rfl ?_
                      conv => lhs; whnf)
              refine (hD _).2 ⟨((⟨t, m, ws⟩ : TwG), ⟨conn, 2, p⟩), ⟨rfl, hT⟩, fun v A2 hq => ?_⟩
              have hq : TwTo A1 ⟨t, m, ws⟩ (if mayD 2 p = true then wPut ⟨conn, 2, p⟩ ws else ws) A2 := hq
              rw [if_pos hm] at hq
              have hend : bellAgainS.post ((⟨t, m, ws⟩ : TwG), ⟨conn, 2, p⟩, last, ⟨np, cz, mz, pz, ct, mt, ve, cv, ow, le, ki⟩, true) [] A1 (.tuple #[.agg #[.int .u8 0, .int .u8 0, .string ⟨#[]⟩, .int .i64 0], .bool false]) A2 := by
                show _ = Value.tuple #[.agg (againW _ _ _ _ _).1.cells.toArray, .bool (againW _ _ _ _ _).2.1] ∧ TwTo A1 _ (againW _ _ _ _ _).2.2 A2
                rw [hag]
                exact ⟨rfl, hq⟩
              conv => lhs; whnf
              exact (hD _).2 hend
        · by_cases hl : last < mz
          · have htk : toldK sort last ⟨np, cz, mz, pz, ct, mt, ve, cv, ow, le, ki⟩ true = (3, mz) := by
              unfold toldK
              rw [if_neg (by simp), if_neg (fun h => h3 h.1), if_neg (fun h => h2 h.1), if_pos ⟨h3, hl⟩]
            rw [htk] at hag
            conv => lhs; whnf
            repeat (first | refine no_dec h2 ?_ | refine no_dec h3 ?_ | refine split_nd (fun h => absurd h h3) (fun _ => ?_) | refine go_dec hl ?_ | refine go_rd htop ?_ | refine go_D hD rfl ?_
                    conv => lhs; whnf)
            refine (hD _).2 ⟨by kernel_rfl, _, hT.map, wL_alike ⟨conn, sort, p⟩ ws, fun A2 hM ho _ => ?_⟩
            have hM : MapAt A2 m (delL (wKey ⟨conn, sort, p⟩) (wL ws)) := hM
            rw [wL_del] at hM
            have hend : bellAgainS.post ((⟨t, m, ws⟩ : TwG), ⟨conn, sort, p⟩, last, ⟨np, cz, mz, pz, ct, mt, ve, cv, ow, le, ki⟩, true) [] A1 (.tuple #[.agg #[.int .u8 3, .int .u8 sort, .string p, .int .i64 mz], .bool true]) A2 := by
              show _ = Value.tuple #[.agg (againW _ _ _ _ _).1.cells.toArray, .bool (againW _ _ _ _ _).2.1] ∧ TwTo A1 _ (againW _ _ _ _ _).2.2 A2
              rw [hag]
              exact ⟨rfl, .of_set hT hM ho (hT.nd.erase _)⟩
            conv => lhs; whnf
            exact (hD _).2 hend
          · have htk : toldK sort last ⟨np, cz, mz, pz, ct, mt, ve, cv, ow, le, ki⟩ true = (0, 0) := by
              unfold toldK
              rw [if_neg (by simp), if_neg (fun h => h3 h.1), if_neg (fun h => h2 h.1), if_neg (fun h => hl h.2)]
            rw [htk] at hag
            conv => lhs; whnf
            repeat (first | refine no_dec h2 ?_ | refine no_dec h3 ?_ | refine split_nd (fun h => absurd h h3) (fun _ => ?_) | refine no_dec hl ?_ | refine go_rd htop ?_ | refine go_D hD rfl ?_
                    conv => lhs; whnf)
            refine (hD _).2 ⟨((⟨t, m, ws⟩ : TwG), ⟨conn, sort, p⟩), ⟨rfl, hT⟩, fun v A2 hq => ?_⟩
            have hq : TwTo A1 ⟨t, m, ws⟩ (if mayD sort p = true then wPut ⟨conn, sort, p⟩ ws else ws) A2 := hq
            rw [if_pos hm] at hq
            have hend : bellAgainS.post ((⟨t, m, ws⟩ : TwG), ⟨conn, sort, p⟩, last, ⟨np, cz, mz, pz, ct, mt, ve, cv, ow, le, ki⟩, true) [] A1 (.tuple #[.agg #[.int .u8 0, .int .u8 0, .string ⟨#[]⟩, .int .i64 0], .bool false]) A2 := by
              show _ = Value.tuple #[.agg (againW _ _ _ _ _).1.cells.toArray, .bool (againW _ _ _ _ _).2.1] ∧ TwTo A1 _ (againW _ _ _ _ _).2.2 A2
              rw [hag]
              exact ⟨rfl, hq⟩
            conv => lhs; whnf
            exact (hD _).2 hend

end
end Go.Proofs.YtienbbhelhhfjaaGreatDoor

namespace Go.Proofs.YtienbbhelhhfjaaGreatDoor
open Go.Sx Go.RowKit
noncomputable section
open Classical

def pRoot : ByteArray := ⟨#[47]⟩
def pA : ByteArray := ⟨#[47, 97]⟩

theorem may_a2 : mayD 2 pA = true := by kernel_rfl
theorem may_a1 : mayD 1 pA = true := by kernel_rfl
theorem may_r3 : mayD 3 pRoot = true := by kernel_rfl
theorem parent_a : parentP pA = pRoot := by kernel_rfl
theorem ok_a : pathOk pA.data.toList = true := by kernel_rfl
theorem ne_ra : ¬ pRoot = pA := by
  intro h
  have := congrArg (fun b : ByteArray => b.data.toList.length) h
  revert this
  decide

def w1 : WatchD := ⟨1, 2, pA⟩
def w2 : WatchD := ⟨2, 3, pRoot⟩
def w3 : WatchD := ⟨1, 3, pRoot⟩

theorem put1 : wPut w1 [] = [w1] := by unfold wPut; rw [if_neg (by simp)]; rfl
theorem put2 : wPut w2 [w1] = [w1, w2] := by
  unfold wPut
  rw [if_neg]
  · rfl
  · intro h
    rw [List.mem_singleton] at h
    injection h with h
    exact absurd h (by decide)
theorem put3 : wPut w3 [w1, w2] = [w1, w2, w3] := by
  unfold wPut
  rw [if_neg]
  · rfl
  · intro h
    simp only [List.mem_cons, List.not_mem_nil, or_false] at h
    rcases h with h | h
    · injection h with _ h
      exact absurd h (by decide)
    · injection h with h
      exact absurd h (by decide)
theorem put4 : wPut w3 [w1, w2, w3] = [w1, w2, w3] := by unfold wPut; rw [if_pos (by simp)]

def dA : DeedD := .mk ⟨5, 1, 0, 0, 0, 0, pA, [], 0, 0, 1, 0, 0, 0, []⟩ []

theorem right_a : RightD dA := by
  refine ⟨by decide, by decide, by decide, by decide, by decide, by decide, ?_, fun h => absurd h (by decide), fun h => absurd h (by decide), fun h => absurd h (by decide)⟩
  have hk : ∀ (i : Nat) {q : Prop}, hasK 1 i → hasK dA.h.kind i ∨ q := fun _ _ h => .inl h
  refine ⟨by decide, hk 0 (by unfold hasK; decide), .inr rfl, .inr rfl, .inr rfl, hk 4 (by unfold hasK; decide), .inr rfl, .inr rfl, .inr rfl, .inr ⟨rfl, rfl⟩, fun _ => ok_a, by decide, by decide, by decide, by decide, fun _ => by decide, fun h => absurd h (by decide), fun h => absurd h (by decide), fun h => absurd h (by decide)⟩

def rA : List RingD := [⟨1, 1, 2, pA, 5⟩, ⟨1, 4, 3, pRoot, 5⟩, ⟨2, 4, 3, pRoot, 5⟩]

theorem rungK1 : rungK 1 pA w1 = 1 := by
  unfold rungK w1
  simp
theorem rungK2 : rungK 1 pA w2 = 4 := by
  unfold rungK w2
  simp [parent_a]
theorem rungK3 : rungK 1 pA w3 = 4 := by
  unfold rungK w3
  simp [parent_a]

theorem rings_a : ringsW dA [w1, w2, w3] = (rA, []) := by
  unfold ringsW
  rw [if_pos right_a]
  show (([] : List RingD) ++ chRings 1 pA 5 [w1, w2, w3], unrung 1 pA [w1, w2, w3]) = (rA, [])
  have h1 : rung 1 pA [w1, w2, w3] = [w1, w2, w3] := List.filter_eq_self.2 fun w hw => by
    simp only [List.mem_cons, List.not_mem_nil, or_false] at hw
    rcases hw with rfl | rfl | rfl
    · rw [rungK1]; rfl
    · rw [rungK2]; rfl
    · rw [rungK3]; rfl
  have h2 : unrung 1 pA [w1, w2, w3] = [] := List.filter_eq_nil_iff.2 fun w hw => by
    simp only [List.mem_cons, List.not_mem_nil, or_false] at hw
    rcases hw with rfl | rfl | rfl
    · rw [rungK1]; simp
    · rw [rungK2]; simp
    · rw [rungK3]; simp
  have h3 : sortW [w1, w2, w3] = [w1, w3, w2] := by
    rw [sortW_of_perm (vs := [w1, w3, w2]) ((List.Perm.swap w3 w2 []).cons w1), sortW_id]
    simp [wLt, w1, w2, w3]
  unfold chRings
  rw [h1, h2, h3]
  simp only [List.map_cons, List.map_nil, List.nil_append, rungK1, rungK2, rungK3]
  rfl

def awS : FSpec := ⟨Unit, fun _ vs A => vs = [] ∧ HasA A, fun _ _ A v A' => A.Sub A' ∧ v = .bool true⟩

theorem TwTo.then {A A' A'' : Arena} {t m : Nat} {ws ws' ws'' : List WatchD} (h : TwTo A ⟨t, m, ws⟩ ws' A') (k : TwTo A' ⟨t, m, ws'⟩ ws'' A'') : TwTo A ⟨t, m, ws⟩ ws'' A'' :=
  ⟨k.tower, fun b o hb ho => k.keep b o hb (h.keep b o hb ho), fun b hb => h.dom b (k.dom b hb)⟩

theorem TwTo.from {A A1 A' : Arena} {t m : Nat} {ws ws' : List WatchD} (h : TwTo A1 ⟨t, m, ws⟩ ws' A') (s : A.Sub A1) (hm : A.blk m = none) : A.Sub A' := fun k o hk => h.keep k o (fun e => by
  have e : k = m := e
  rw [e, hm] at hk; cases hk) (s k o hk)

set_option maxRecDepth 100000 in
set_option maxHeartbeats 0 in
theorem aw_ok : FOk Tryz.prog 17 awS := by
  refine fok_v mixed fun _ vs A hp => ?_
  obtain ⟨rfl, hHas⟩ : vs = [] ∧ HasA A := hp
  have hC : CTSound Tryz.prog (lookC [specE 5 bellNewS, specE 7 bellAddS, specE 9 bellCountS, specE 11 bellRingS, specE 27 bellAgainS, specE 14 isEqS] noC) := lookC_sound (noC_sound _) (fun x hx => by
    simp only [List.mem_cons, List.not_mem_nil, or_false] at hx
    rcases hx with rfl | rfl | rfl | rfl | rfl | rfl
    · exact specE_ok bellNew_ok
    · exact specE_ok bellAdd_ok
    · exact specE_ok bellCount_ok
    · exact specE_ok bellRing_ok
    · exact specE_ok bellAgain_ok
    · exact specE_ok isEq_ok)
  refine ⟨_, noL, 60, hC, noL_sound _, fun blk os out tape D hD => ?_⟩
  conv => lhs; whnf
  refine (hD _).2 ⟨(), rfl, fun v A1 hq => ?_⟩
  obtain ⟨s1, t, m, hv, hT1, htn, hmn⟩ : A.Sub A1 ∧ ∃ t m, v = .pointer (some ⟨t, 0, none⟩) ∧ TowerAt A1 t m [] ∧ A.blk t = none ∧ A.blk m = none := hq
  subst hv
  conv => lhs; whnf
  refine (hD _).2 ⟨(⟨t, m, []⟩, w1), ⟨rfl, hT1⟩, fun v A2 hq => ?_⟩
  have hq : TwTo A1 ⟨t, m, []⟩ (if mayD 2 pA = true then wPut w1 [] else []) A2 := hq
  rw [if_pos may_a2, put1] at hq
  have hT2 := hq
  conv => lhs; whnf
  refine (hD _).2 ⟨(⟨t, m, [w1]⟩, w2), ⟨rfl, hT2.tower⟩, fun v A3 hq => ?_⟩
  have hq : TwTo A2 ⟨t, m, [w1]⟩ (if mayD 3 pRoot = true then wPut w2 [w1] else [w1]) A3 := hq
  rw [if_pos may_r3, put2] at hq
  have hT3 := hT2.then hq
  conv => lhs; whnf
  refine (hD _).2 ⟨(⟨t, m, [w1, w2]⟩, w3), ⟨rfl, hT3.tower⟩, fun v A4 hq => ?_⟩
  have hq : TwTo A3 ⟨t, m, [w1, w2]⟩ (if mayD 3 pRoot = true then wPut w3 [w1, w2] else [w1, w2]) A4 := hq
  rw [if_pos may_r3, put3] at hq
  have hT4 := hT3.then hq
  conv => lhs; whnf
  refine (hD _).2 ⟨(⟨t, m, [w1, w2, w3]⟩, w3), ⟨rfl, hT4.tower⟩, fun v A5 hq => ?_⟩
  have hq : TwTo A4 ⟨t, m, [w1, w2, w3]⟩ (if mayD 3 pRoot = true then wPut w3 [w1, w2, w3] else [w1, w2, w3]) A5 := hq
  rw [if_pos may_r3, put4] at hq
  have hT5 := hT4.then hq
  conv => lhs; whnf
  refine (hD _).2 ⟨⟨t, m, [w1, w2, w3]⟩, ⟨rfl, hT5.tower⟩, fun v A6 hq => ?_⟩
  obtain ⟨h9, hv⟩ : A6 = A5 ∧ v = .int .i64 ((3 : Nat) : Int) := hq
  subst h9; subst hv
  have hHas5 := hHas.sub (hT5.from s1 hmn)
  obtain ⟨em, cm, hom, _⟩ := hT5.tower.map
  have hdv : DeedR Arena.void dA [.int .i64 5, .int .u8 1, .int .i64 0, .int .i64 0, .int .i64 0, .int .i64 0, .string pA, .slice none 0 0, .int .i64 0, .int .i64 0, .int .i64 1, .int .i64 0, .int .i64 0, .int .i64 0, .slice none 0 0, .slice none 0 0] := by
    unfold dA
    rw [DeedR]
    exact ⟨_, _, _, [], rfl, by decide, ⟨Sl.nil _ _, by simp⟩, ⟨Sl.nil _ _, by simp⟩, Sl.nil _ _, by simp, by rw [DeedsR]⟩
  have hok3 : WOk [w1, w2, w3] := fun w hw => by
    simp only [List.mem_cons, List.not_mem_nil, or_false] at hw
    rcases hw with rfl | rfl | rfl
    · unfold w1; decide
    · unfold w2; decide
    · unfold w3; decide
  conv => lhs; whnf
  refine (hD _).2 ⟨(⟨t, m, [w1, w2, w3]⟩, dA, Arena.void), ⟨_, rfl, hT5.tower, hok3, by show (3 : Nat) ≤ 1000000; omega, hdv, fun _ _ h => (by cases h), rfl, hHas5⟩, fun v A7 hq => ?_⟩
  obtain ⟨hT7, hG7⟩ : TwTo A6 ⟨t, m, [w1, w2, w3]⟩ (ringsW dA [w1, w2, w3]).2 A7 ∧ GrowR A6 A7 5 51 (ringsW dA [w1, w2, w3]).1.length v ((ringsW dA [w1, w2, w3]).1.flatMap RingD.cells) := hq
  rw [rings_a] at hT7 hG7
  dsimp only at hT7 hG7
  obtain ⟨q7, cp7, hv7, hq7, -⟩ := hG7.formN
  subst hv7
  conv => lhs; whnf
  refine (hD _).2 ⟨((⟨t, m, []⟩ : TwG), (⟨1, 1, pA⟩ : WatchD), 7, (⟨⟨#[]⟩, 0, 9, 0, 0, 0, 0, 0, 0, 0, 0⟩ : NdD), true), ⟨_, _, _, rfl, hT7.tower⟩, fun v A8 hq => ?_⟩
  have hag : againW ⟨1, 1, pA⟩ 7 ⟨⟨#[]⟩, 0, 9, 0, 0, 0, 0, 0, 0, 0, 0⟩ true [] = (⟨3, 1, pA, 9⟩, true, []) := by
    unfold againW
    have hk : toldK 1 7 ⟨⟨#[]⟩, 0, 9, 0, 0, 0, 0, 0, 0, 0, 0⟩ true = (3, 9) := by
      unfold toldK
      rw [if_neg (by simp), if_neg (by omega), if_neg (by omega), if_pos ⟨by omega, by show (7 : Int) < 9; omega⟩]
    dsimp only
    rw [if_pos may_a1, hk, if_neg (by decide)]
    rfl
  obtain ⟨hv, hT8⟩ : v = .tuple #[.agg (againW ⟨1, 1, pA⟩ 7 ⟨⟨#[]⟩, 0, 9, 0, 0, 0, 0, 0, 0, 0, 0⟩ true []).1.cells.toArray, .bool (againW ⟨1, 1, pA⟩ 7 ⟨⟨#[]⟩, 0, 9, 0, 0, 0, 0, 0, 0, 0, 0⟩ true []).2.1] ∧ TwTo A7 ⟨t, m, []⟩ (againW ⟨1, 1, pA⟩ 7 ⟨⟨#[]⟩, 0, 9, 0, 0, 0, 0, 0, 0, 0, 0⟩ true []).2.2 A8 := hq
  rw [hag] at hv hT8
  subst hv
  have hG8 := grow_stay hG7 fun b o h1 h2 => hT8.keep b o (fun e => by
    have e : b = m := e
    rw [e, hom] at h1; cases h1) h2
  have hAs : A.Sub A8 := fun b o hb => hT8.keep b o (fun e => by
    have e : b = m := e
    rw [e, hmn] at hb; cases hb) (hT7.keep b o (fun e => by
    have e : b = m := e
    rw [e, hmn] at hb; cases hb) (hT5.from s1 hmn b o hb))
  conv => lhs; whnf
  repeat (first | refine go_D hD rfl ?_ | refine go_dec rfl ?_
          conv => lhs; whnf)
  refine (hD _).2 fun gb A9 hN => ?_
  have hN : A8.New A9 gb #[.int .i64 1, .int .u8 1, .int .u8 2, .string pA, .int .i64 5, .int .i64 1, .int .u8 4, .int .u8 3, .string pRoot, .int .i64 5, .int .i64 2, .int .u8 4, .int .u8 3, .string pRoot, .int .i64 5] 51 := hN
  have hG9 := (hG8.sub hN.sub).sl
  have hw9 : Sl A9 5 3 (.slice (some ⟨gb, 0, none⟩) 3 3) (rA.flatMap RingD.cells) := Sl.row (Nat.le_refl _) (hN.rd (o := 0) (n := 3 * 5) (by show 0 + 3 * 5 ≤ 15; omega))
  have hT9 : TowerAt A9 t m [] := ⟨hT8.tower.top.sub fun o ho => hN.sub _ _ ho, hT8.tower.map.sub fun o ho => hN.sub _ _ ho, hT8.tower.nd, hT8.tower.ne⟩
  conv => lhs; whnf
  repeat (first | refine go_D hD rfl ?_ | refine go_dec rfl ?_
          conv => lhs; whnf)
  refine (hD _).2 ⟨rA, ⟨_, _, rfl, hG9, hw9, by show (3 : Nat) ≤ 1000000000; omega⟩, fun v AX hq => ?_⟩
  obtain ⟨hX, hv⟩ : AX = A9 ∧ v = .bool true := hq
  subst hX; subst hv
  conv => lhs; whnf
  repeat (first | refine go_D hD rfl ?_ | refine go_dec rfl ?_
          conv => lhs; whnf)
  refine (hD _).2 ⟨⟨t, m, []⟩, ⟨rfl, hT9⟩, fun v AY hq => ?_⟩
  obtain ⟨hY, hv⟩ : AY = AX ∧ v = .int .i64 ((0 : Nat) : Int) := hq
  subst hY; subst hv
  have hend : awS.post () [] A (.bool true) AY := ⟨hAs.trans hN.sub, rfl⟩
  conv => lhs; whnf
  repeat (first | refine go_D hD rfl ?_ | refine go_D hD (by kernel_rfl) ?_ | refine go_dec rfl ?_
          conv => lhs; whnf)
  exact (hD _).2 hend

end
end Go.Proofs.YtienbbhelhhfjaaGreatDoor

namespace Go.Proofs.YtienbbhelhhfjaaGreatDoor
open Go.Sx Go.RowKit
noncomputable section
open Classical

/-- A step, as plain data. -/
structure DoD where
  op : Int
  w : WatchD
  deed : DeedD
  last : Int
  node : NdD
  there : Bool

def DoR (A : Arena) (d : DoD) (cs : List Value) : Prop := ∃ dc a l k, cs = [.int .i64 d.op, .int .i64 d.w.conn, .int .u8 d.w.sort, .string d.w.path] ++ dc ++ [.int .i64 d.last] ++ d.node.cells (.slice a l k) ++ [.bool d.there] ∧ DeedR A d.deed dc ∧ d.w.path.data.toList.length ≤ 140737488351232

theorem DoR.len {A : Arena} {d : DoD} {cs : List Value} (h : DoR A d cs) : cs.length = 34 := by
  obtain ⟨dc, a, l, k, rfl, h, _⟩ := h
  simp [h.len, NdD.cells]

theorem DoR.sub {A B : Arena} (hs : B.Sub A) {d : DoD} {cs : List Value} (h : DoR B d cs) : DoR A d cs := by
  obtain ⟨dc, a, l, k, h1, h2, h3⟩ := h
  exact ⟨dc, a, l, k, h1, DeedR.sub hs _ _ h2, h3⟩

def DosS (A : Arena) (v : Value) (ds : List DoD) : Prop := ∃ rows : List (List Value), Sl A 34 ds.length v rows.flatten ∧ ds.length * 360 ≤ 140737488351232 ∧ rows.length = ds.length ∧ ∀ k (h1 : k < ds.length) (h2 : k < rows.length), DoR A ds[k] rows[k]

theorem dos_row {A : Arena} {ds : List DoD} {rows : List (List Value)} (hl : rows.length = ds.length) (hR : ∀ k (h1 : k < ds.length) (h2 : k < rows.length), DoR A ds[k] rows[k]) {g o n : Nat} (hra : A.rd g o (n * 34) = some rows.flatten) (hn : n = ds.length) {k : Nat} (hk : k < ds.length) :
    ∃ cs, DoR A ds[k] cs ∧ A.rd g (o + k * 34) 34 = some cs := by
  have hlens : ∀ r ∈ rows, r.length = 34 := fun r hr => by
    obtain ⟨i, hi, rfl⟩ := List.mem_iff_getElem.1 hr
    exact (hR i (by omega) hi).len
  exact ⟨_, hR k hk (by omega), rows_at hra hlens k (by omega) (by omega)⟩

end
end Go.Proofs.YtienbbhelhhfjaaGreatDoor

namespace Go.Proofs.YtienbbhelhhfjaaGreatDoor
open Go.Sx Go.RowKit
noncomputable section
open Classical

def pAB : ByteArray := ⟨#[47, 97, 47, 98]⟩
def pABC : ByteArray := ⟨#[47, 97, 47, 98, 47, 99]⟩
def pABB : ByteArray := ⟨#[47, 97, 47, 98, 98]⟩
def pNoA : ByteArray := ⟨#[97]⟩
def pNo : ByteArray := ⟨#[]⟩

def pthL : List ByteArray := [pRoot, pA, pAB, pABC, pABB, pNoA, pNo]
def pth (k : Nat) : ByteArray := pthL.getD k pNo

/-- The watch that is set at place k with the sort s. -/
def wAt (k s : Nat) : WatchD := ⟨-(k : Int), s, pth k⟩

/-- What stands behind n settings. -/
def addsL (n : Nat) : List WatchD := ((List.range n).map fun i => wAt (i / 5) (i % 5)).filter fun w => mayD w.sort w.path

theorem addsL_zero : addsL 0 = [] := rfl

theorem adds_succ {k s : Nat} (hs : s < 5) : addsL (k * 5 + (s + 1)) = if mayD (wAt k s).sort (wAt k s).path = true then wPut (wAt k s) (addsL (k * 5 + s)) else addsL (k * 5 + s) := by
  have h1 : (k * 5 + s) / 5 = k := by omega
  have h2 : (k * 5 + s) % 5 = s := by omega
  have hr : addsL (k * 5 + (s + 1)) = addsL (k * 5 + s) ++ [wAt k s].filter fun w => mayD w.sort w.path := by
    unfold addsL
    rw [show k * 5 + (s + 1) = (k * 5 + s) + 1 by omega, List.range_succ, List.map_append, List.filter_append, List.map_cons, List.map_nil, h1, h2]
  rw [hr]
  by_cases h : mayD (wAt k s).sort (wAt k s).path = true
  · rw [if_pos h, List.filter_cons_of_pos (p := fun w : WatchD => mayD w.sort w.path) (a := wAt k s) h, List.filter_nil]
    unfold wPut
    rw [if_neg]
    intro hm
    obtain ⟨i, hi, he⟩ := List.mem_map.1 (List.mem_filter.1 hm).1
    have hi := List.mem_range.1 hi
    have e1 : -((i / 5 : Nat) : Int) = -(k : Int) := congrArg WatchD.conn he
    have e2 : ((i % 5 : Nat) : Int) = (s : Int) := congrArg WatchD.sort he
    omega
  · rw [if_neg h, List.filter_cons_of_neg (p := fun w : WatchD => mayD w.sort w.path) (a := wAt k s) h, List.filter_nil, List.append_nil]

theorem adds_15 : (addsL (7 * 5)).length = 15 := by kernel_rfl

/-- The deeds of the first part. -/
def cl1 : List DeedD := [.mk (⟨0, 2, 0, 0, 0, 0, pAB, [], 0, 0, 0, 0, 0, 0, []⟩ : DeedH) [], .mk (⟨0, 2, 0, 0, 0, 0, pA, [], 0, 0, 0, 0, 0, 0, []⟩ : DeedH) []]
def ds8 : List DeedD := [.mk (⟨9, 1, 0, 0, 0, 0, pAB, [], 0, 0, 1, 0, 0, 0, []⟩ : DeedH) [], .mk (⟨9, 2, 0, 0, 0, 0, pAB, [], 0, 0, 0, 0, 0, 0, []⟩ : DeedH) [], .mk (⟨9, 3, 0, 0, 0, 0, pAB, [], 0, 0, 0, 0, 0, 0, []⟩ : DeedH) [], .mk (⟨9, 6, 0, 0, 0, 0, ⟨#[]⟩, [], 0, 0, 0, 0, 0, 0, []⟩ : DeedH) [],
  .mk (⟨9, 5, 0, 0, 0, 0, ⟨#[]⟩, [], 3, 0, 0, 0, 0, 0, []⟩ : DeedH) cl1, .mk (⟨0, 3, 0, 0, 0, 0, pAB, [], 0, 0, 0, 0, 0, 0, []⟩ : DeedH) [], .mk (⟨9, 3, 0, 0, 0, -1, pAB, [], 0, 0, 0, 0, 0, 0, []⟩ : DeedH) [], .mk (⟨9, 3, 0, 0, 0, 0, pAB, [], 1, 0, 0, 0, 0, 0, []⟩ : DeedH) []]

def nilV : Value := .slice none 0 0

theorem deed_nil (A : Arena) (h : DeedH) (hd : h.data = []) (hm : h.mem = []) (hp : h.path.data.toList.length ≤ 100) : DeedR A (.mk h []) (h.cells nilV nilV nilV) := by
  rw [DeedR]
  refine ⟨_, _, _, [], rfl, by omega, ⟨?_, ?_⟩, ⟨?_, ?_⟩, Sl.nil _ _, by simp, by rw [DeedsR]⟩
  · rw [hd]; exact Sl.nil _ _
  · rw [hd]; simp
  · rw [hm]; exact Sl.nil _ _
  · rw [hm]; simp

theorem pA_le : pA.data.toList.length ≤ 100 := by decide
theorem pAB_le : pAB.data.toList.length ≤ 100 := by decide
theorem pNo_le : (⟨#[]⟩ : ByteArray).data.toList.length ≤ 100 := by decide

theorem cl1_rows (A : Arena) : DeedsR A cl1 [(⟨0, 2, 0, 0, 0, 0, pAB, [], 0, 0, 0, 0, 0, 0, []⟩ : DeedH).cells nilV nilV nilV, (⟨0, 2, 0, 0, 0, 0, pA, [], 0, 0, 0, 0, 0, 0, []⟩ : DeedH).cells nilV nilV nilV] := by
  unfold cl1
  rw [DeedsR]
  refine ⟨_, _, rfl, deed_nil _ _ rfl rfl pAB_le, ?_⟩
  rw [DeedsR]
  refine ⟨_, _, rfl, deed_nil _ _ rfl rfl pA_le, ?_⟩
  rw [DeedsR]

/-- The rows of the first part's deeds; the close's parts lie at pv. -/
def rows8 (pv : Value) : List (List Value) := [(⟨9, 1, 0, 0, 0, 0, pAB, [], 0, 0, 1, 0, 0, 0, []⟩ : DeedH).cells nilV nilV nilV, (⟨9, 2, 0, 0, 0, 0, pAB, [], 0, 0, 0, 0, 0, 0, []⟩ : DeedH).cells nilV nilV nilV, (⟨9, 3, 0, 0, 0, 0, pAB, [], 0, 0, 0, 0, 0, 0, []⟩ : DeedH).cells nilV nilV nilV, (⟨9, 6, 0, 0, 0, 0, ⟨#[]⟩, [], 0, 0, 0, 0, 0, 0, []⟩ : DeedH).cells nilV nilV nilV,
  (⟨9, 5, 0, 0, 0, 0, ⟨#[]⟩, [], 3, 0, 0, 0, 0, 0, []⟩ : DeedH).cells nilV nilV pv, (⟨0, 3, 0, 0, 0, 0, pAB, [], 0, 0, 0, 0, 0, 0, []⟩ : DeedH).cells nilV nilV nilV, (⟨9, 3, 0, 0, 0, -1, pAB, [], 0, 0, 0, 0, 0, 0, []⟩ : DeedH).cells nilV nilV nilV, (⟨9, 3, 0, 0, 0, 0, pAB, [], 1, 0, 0, 0, 0, 0, []⟩ : DeedH).cells nilV nilV nilV]

theorem ds8_rows {A : Arena} {pv : Value} (h : Sl A 16 2 pv ([(⟨0, 2, 0, 0, 0, 0, pAB, [], 0, 0, 0, 0, 0, 0, []⟩ : DeedH).cells nilV nilV nilV, (⟨0, 2, 0, 0, 0, 0, pA, [], 0, 0, 0, 0, 0, 0, []⟩ : DeedH).cells nilV nilV nilV] : List (List Value)).flatten) : DeedsR A ds8 (rows8 pv) := by
  unfold ds8 rows8
  rw [DeedsR]; refine ⟨_, _, rfl, deed_nil _ _ rfl rfl pAB_le, ?_⟩
  rw [DeedsR]; refine ⟨_, _, rfl, deed_nil _ _ rfl rfl pAB_le, ?_⟩
  rw [DeedsR]; refine ⟨_, _, rfl, deed_nil _ _ rfl rfl pAB_le, ?_⟩
  rw [DeedsR]; refine ⟨_, _, rfl, deed_nil _ _ rfl rfl pNo_le, ?_⟩
  rw [DeedsR]; refine ⟨_, _, rfl, ?_, ?_⟩
  · rw [DeedR]
    exact ⟨_, _, _, _, rfl, by decide, ⟨Sl.nil _ _, by simp⟩, ⟨Sl.nil _ _, by simp⟩, h, by decide, cl1_rows A⟩
  rw [DeedsR]; refine ⟨_, _, rfl, deed_nil _ _ rfl rfl pAB_le, ?_⟩
  rw [DeedsR]; refine ⟨_, _, rfl, deed_nil _ _ rfl rfl pAB_le, ?_⟩
  rw [DeedsR]; refine ⟨_, _, rfl, deed_nil _ _ rfl rfl pAB_le, ?_⟩
  rw [DeedsR]

/-! ### Rings by hand -/

def mParts : List DeedD := [.mk (⟨0, 3, 0, 0, 0, 0, pA, [], 0, 0, 0, 0, 0, 0, []⟩ : DeedH) [], .mk (⟨0, 2, 0, 0, 0, 0, pA, [], 0, 0, 0, 0, 0, 0, []⟩ : DeedH) []]
def mDeed : DeedD := .mk (⟨3, 8, 0, 0, 0, 0, ⟨#[]⟩, [], 0, 0, 0, 0, 0, 0, []⟩ : DeedH) mParts
def dDeed : DeedD := .mk (⟨4, 2, 0, 0, 0, 0, pA, [], 0, 0, 0, 0, 0, 0, []⟩ : DeedH) []

theorem mParts_rows (A : Arena) : DeedsR A mParts [(⟨0, 3, 0, 0, 0, 0, pA, [], 0, 0, 0, 0, 0, 0, []⟩ : DeedH).cells nilV nilV nilV, (⟨0, 2, 0, 0, 0, 0, pA, [], 0, 0, 0, 0, 0, 0, []⟩ : DeedH).cells nilV nilV nilV] := by
  unfold mParts
  rw [DeedsR]; refine ⟨_, _, rfl, deed_nil _ _ rfl rfl pA_le, ?_⟩
  rw [DeedsR]; refine ⟨_, _, rfl, deed_nil _ _ rfl rfl pA_le, ?_⟩
  rw [DeedsR]

theorem hasK_l {k : Int} {i : Nat} {q : Prop} (h : hasK k i) : hasK k i ∨ q := .inl h

theorem fits_a3 : FitsD ⟨0, 3, 0, 0, 0, 0, pA, [], 0, 0, 0, 0, 0, 0, []⟩ 0 :=
  ⟨by decide, hasK_l (by unfold hasK; decide), .inr rfl, .inr rfl, .inr rfl, .inr rfl, .inr rfl, .inr rfl, .inr rfl, .inr ⟨rfl, rfl⟩, fun _ => ok_a, by decide, by decide, by decide, by decide, fun h => by revert h; decide, fun h => by revert h; decide, fun h => by revert h; decide, fun h => by revert h; decide⟩

theorem fits_a2 (z : Int) : FitsD ⟨z, 2, 0, 0, 0, 0, pA, [], 0, 0, 0, 0, 0, 0, []⟩ 0 :=
  ⟨by show (1 : Int) ≤ 2 ∧ (2 : Int) ≤ 9; omega, hasK_l (by show hasK 2 0; unfold hasK; decide), .inr rfl, .inr rfl, .inr rfl, .inr rfl, .inr rfl, .inr rfl, .inr rfl, .inr ⟨rfl, rfl⟩, fun _ => ok_a, Nat.zero_le _, Int.le_refl _, Int.le_refl _, Int.le_refl _, fun _ => by show pA.data.toList ≠ [47]; decide, fun h => absurd h (by show ¬ ((2 : Int) = 4); decide), fun h => absurd h (by show ¬ ((2 : Int) = 5); decide), fun h => absurd h (by show ¬ ((2 : Int) = 9); decide)⟩

theorem right_m : RightD mDeed := by
  refine ⟨by decide, by decide, by decide, by decide, by decide, by decide, ?_, fun h => absurd h (by decide), fun h => absurd h (by decide), fun _ => ⟨by decide, by decide, ?_⟩⟩
  · exact ⟨by decide, .inr rfl, .inr rfl, .inr rfl, .inr rfl, .inr rfl, .inr rfl, .inr rfl, hasK_l (by show hasK 8 8; unfold hasK; decide), .inr ⟨rfl, rfl⟩, fun h => absurd h (by show ¬ hasK 8 0; unfold hasK; decide), by decide, by decide, by decide, by decide, fun h => by revert h; decide, fun h => by revert h; decide, fun h => by revert h; decide, fun h => by revert h; decide⟩
  · intro p hp
    have hp : p = .mk ⟨0, 3, 0, 0, 0, 0, pA, [], 0, 0, 0, 0, 0, 0, []⟩ [] ∨ p = .mk ⟨0, 2, 0, 0, 0, 0, pA, [], 0, 0, 0, 0, 0, 0, []⟩ [] := by
      simpa [mDeed, mParts, DeedD.parts] using hp
    rcases hp with rfl | rfl
    · exact ⟨rfl, rfl, rfl, rfl, rfl, fits_a3, by decide, fun h => absurd h (by decide)⟩
    · exact ⟨rfl, rfl, rfl, rfl, rfl, fits_a2 0, by decide, fun h => absurd h (by decide)⟩

theorem right_d : RightD dDeed :=
  ⟨by decide, by decide, by decide, by decide, by decide, by decide, fits_a2 4, fun h => absurd h (by decide), fun h => absurd h (by decide), fun h => absurd h (by decide)⟩

def v1 : WatchD := ⟨1, 1, pA⟩
def v2 : WatchD := ⟨2, 1, pA⟩
def v3 : WatchD := ⟨1, 3, pA⟩
def v4 : WatchD := ⟨1, 2, pA⟩

theorem may_a3 : mayD 3 pA = true := by kernel_rfl
theorem may_aa : mayD 1 pA = true := by kernel_rfl

theorem vput1 : wPut v1 [] = [v1] := by unfold wPut; rw [if_neg (by simp)]; rfl
theorem vput2 : wPut v2 [] = [v2] := by unfold wPut; rw [if_neg (by simp)]; rfl
theorem vput3 : wPut v3 [v2] = [v2, v3] := by
  unfold wPut
  rw [if_neg]
  · rfl
  · simp [v2, v3]
theorem vput4 : wPut v4 [v2, v3] = [v2, v3, v4] := by
  unfold wPut
  rw [if_neg]
  · rfl
  · simp [v2, v3, v4]

def rM : List RingD := [⟨1, 3, 1, pA, 3⟩]
def rD : List RingD := [⟨1, 2, 2, pA, 4⟩, ⟨1, 2, 3, pA, 4⟩, ⟨2, 2, 1, pA, 4⟩]

theorem rings_m : ringsW mDeed [v1] = (rM, []) := by
  have s0 : sortW [] = [] := sortW_id .nil
  have s1 : sortW [v1] = [v1] := sortW_id (List.pairwise_singleton _ _)
  have k8 : rungK 8 ⟨#[]⟩ v1 = 0 := by unfold rungK; simp
  have k3 : rungK 3 pA v1 = 3 := by unfold rungK; simp [v1]
  have r1 : rung 8 ⟨#[]⟩ [v1] = [] := List.filter_eq_nil_iff.2 fun w hw => by
    rw [List.mem_singleton] at hw
    rw [hw, k8]; simp
  have u1 : unrung 8 ⟨#[]⟩ [v1] = [v1] := List.filter_eq_self.2 fun w hw => by
    rw [List.mem_singleton] at hw
    rw [hw, k8]; simp
  have r2 : rung 3 pA [v1] = [v1] := List.filter_eq_self.2 fun w hw => by
    rw [List.mem_singleton] at hw
    rw [hw, k3]; rfl
  have u2 : unrung 3 pA [v1] = [] := List.filter_eq_nil_iff.2 fun w hw => by
    rw [List.mem_singleton] at hw
    rw [hw, k3]; simp
  have t1 : chStep 3 ([], [v1]) mDeed = ([], [v1]) := by
    show ([] ++ chRings 8 ⟨#[]⟩ 3 [v1], unrung 8 ⟨#[]⟩ [v1]) = _
    unfold chRings
    rw [r1, u1, s0]
    rfl
  have t2 : chStep 3 ([], [v1]) (.mk ⟨0, 3, 0, 0, 0, 0, pA, [], 0, 0, 0, 0, 0, 0, []⟩ []) = (rM, []) := by
    show ([] ++ chRings 3 pA 3 [v1], unrung 3 pA [v1]) = _
    unfold chRings
    rw [r2, u2, s1]
    show ([ringOf (rungK 3 pA v1) 3 v1], _) = _
    rw [k3]
    rfl
  have t3 : chStep 3 (rM, []) (.mk ⟨0, 2, 0, 0, 0, 0, pA, [], 0, 0, 0, 0, 0, 0, []⟩ []) = (rM, []) := by
    show (rM ++ chRings 2 pA 3 [], unrung 2 pA []) = _
    unfold chRings
    rw [show rung 2 pA [] = [] from rfl, s0, List.map_nil, List.append_nil]
    rfl
  unfold ringsW
  rw [if_pos right_m]
  show chStep 3 (chStep 3 (chStep 3 ([], [v1]) mDeed) _) _ = _
  rw [t1, t2, t3]

theorem rings_d : ringsW dDeed [v2, v3, v4] = (rD, []) := by
  have k2 : ∀ w, w ∈ [v2, v3, v4] → rungK 2 pA w = 2 := fun w h => by
    simp only [List.mem_cons, List.not_mem_nil, or_false] at h
    rcases h with rfl | rfl | rfl <;> simp [rungK, v2, v3, v4]
  have h3 : sortW [v2, v3, v4] = [v4, v3, v2] := by
    rw [sortW_of_perm (vs := [v4, v3, v2]) (by
      show [v2, v3, v4].Perm [v4, v3, v2]
      exact (List.reverse_perm _).symm), sortW_id]
    simp [wLt, v2, v3, v4]
  have r2 : rung 2 pA [v2, v3, v4] = [v2, v3, v4] := List.filter_eq_self.2 fun w hw => by
    rw [k2 w hw]; rfl
  have u2 : unrung 2 pA [v2, v3, v4] = [] := List.filter_eq_nil_iff.2 fun w hw => by
    rw [k2 w hw]; simp
  unfold ringsW
  rw [if_pos right_d]
  show ([] ++ chRings 2 pA 4 [v2, v3, v4], unrung 2 pA [v2, v3, v4]) = _
  unfold chRings
  rw [r2, u2, h3]
  show ([ringOf (rungK 2 pA v4) 4 v4, ringOf (rungK 2 pA v3) 4 v3, ringOf (rungK 2 pA v2) 4 v2], _) = _
  rw [k2 v4 (by simp), k2 v3 (by simp), k2 v2 (by simp)]
  rfl

/-! ### The lives at the end -/

def d00 : DeedD := .mk ⟨0, 0, 0, 0, 0, 0, ⟨#[]⟩, [], 0, 0, 0, 0, 0, 0, []⟩ []
def nd5 : NdD := ⟨pA, 5, 7, 6, 0, 0, 0, 0, 0, 0, 0⟩

/-- A step's cells. -/
def doC (d : DoD) : List Value := [.int .i64 d.op, .int .i64 d.w.conn, .int .u8 d.w.sort, .string d.w.path] ++ d.deed.h.cells nilV nilV nilV ++ [.int .i64 d.last] ++ d.node.cells nilV ++ [.bool d.there]

theorem doR_c (A : Arena) (d : DoD) (hd : d.deed = d00) (hp : d.w.path.data.toList.length ≤ 100) : DoR A d (doC d) := by
  refine ⟨d.deed.h.cells nilV nilV nilV, none, 0, 0, rfl, ?_, by omega⟩
  rw [hd]
  exact deed_nil A _ rfl rfl pNo_le

theorem dos_c {A : Arena} {g n : Nat} {ds : List DoD} (hn : n = ds.length) (h : A.rd g 0 (n * 34) = some (ds.map doC).flatten) (hd : ∀ d ∈ ds, d.deed = d00 ∧ d.w.path.data.toList.length ≤ 100) (hl : n ≤ 1000) : DosS A (.slice (some ⟨g, 0, none⟩) n n) ds := by
  subst hn
  refine ⟨ds.map doC, Sl.row (Nat.le_refl _) h, by omega, by simp, fun k h1 h2 => ?_⟩
  rw [List.getElem_map]
  exact doR_c A _ (hd _ (List.getElem_mem h1)).1 (hd _ (List.getElem_mem h1)).2

end
end Go.Proofs.YtienbbhelhhfjaaGreatDoor

namespace Go.Proofs.YtienbbhelhhfjaaGreatDoor
open Go.Sx Go.RowKit
noncomputable section
open Classical

/-- The document's tower in block r: a cell that holds a row, which lies in S. -/
structure RtAt (A S : Arena) (r : Nat) (l : List WatchD) : Prop where
  row : ∃ v E, CellsAt A r [v] ∧ GrowR E S 3 72 l.length v (l.flatMap WatchD.cells)
  sub : S.Sub A
  off : S.blk r = none
  le : l.length ≤ 1000000

theorem RtAt.old {A S : Arena} {r : Nat} {l : List WatchD} (h : RtAt A S r l) : ∃ v, CellsAt A r [v] ∧ Sl S 3 l.length v (l.flatMap WatchD.cells) := by
  obtain ⟨v, E, h1, h2⟩ := h.row
  exact ⟨v, h1, h2.sl⟩

/-- What its calls leave. -/
structure RtTo (A S : Arena) (r : Nat) (l' : List WatchD) (A' : Arena) : Prop where
  at_ : ∃ S', RtAt A' S' r l' ∧ ∀ k o, S'.blk k = some o → S.blk k = some o ∨ A.blk k = none
  keep : ∀ k o, k ≠ r → A.blk k = some o → A'.blk k = some o
  dom : ∀ k, A'.blk k = none → A.blk k = none

theorem RtTo.same {A S : Arena} {r : Nat} {l : List WatchD} (h : RtAt A S r l) : RtTo A S r l A := ⟨⟨S, h, fun _ _ h => .inl h⟩, fun _ _ _ h => h, fun _ h => h⟩

theorem RtAt.live {A S : Arena} {r : Nat} {l : List WatchD} (h : RtAt A S r l) : ∃ o, A.blk r = some o := by
  obtain ⟨v, _, h1, _⟩ := h.row
  exact h1.dom

theorem RtTo.trans {A A' A'' S S' : Arena} {r : Nat} {l' l'' : List WatchD} (h : RtTo A S r l' A') (hS : ∀ k o, S'.blk k = some o → S.blk k = some o ∨ A.blk k = none) (k : RtTo A' S' r l'' A'') : RtTo A S r l'' A'' := by
  obtain ⟨S2, h1, h2⟩ := k.at_
  refine ⟨⟨S2, h1, fun b o hb => ?_⟩, fun b o hb ho => k.keep b o hb (h.keep b o hb ho), fun b hb => h.dom b (k.dom b hb)⟩
  rcases h2 b o hb with h3 | h3
  · exact hS b o h3
  · exact .inr (h.dom b h3)

theorem grow_minus {A A' : Arena} {es n : Nat} {e : TypeId} {v : Value} {cs : List Value} (h : GrowR A A' es e n v cs) : GrowR A (A'.minus A) es e n v cs := by
  obtain ⟨h1, h2 | ⟨g, nc, c, h3, h4, h4', h5, h6, h7⟩⟩ := h
  · exact ⟨h1, .inl h2⟩
  · exact ⟨h1, .inr ⟨g, nc, c, h3, h4, h4', h5, minus_mk h5 h6, h7⟩⟩

/-- A new row is stored. -/
theorem RtTo.store {A A1 A2 S : Arena} {r : Nat} {l l' : List WatchD} {v : Value} (h : RtAt A S r l) (s : ∀ k o, A.blk k = some o → A1.blk k = some o) (hG : GrowR A A1 3 72 l'.length v (l'.flatMap WatchD.cells)) (hP : A1.Put A2 r 0 [v]) (hl : l'.length ≤ 1000000) : RtTo A S r l' A2 := by
  obtain ⟨v0, _, h1, _⟩ := h.row
  obtain ⟨o0, ho0⟩ := h1.dom
  have hkeep : ∀ k o, k ≠ r → A1.blk k = some o → A2.blk k = some o := fun k o hk ho => by rw [hP.other k hk]; exact ho
  have hne : ∀ k o, (A1.minus A).blk k = some o → k ≠ r := fun k o hk e => by
    rw [e] at hk
    rw [(minus_blk hk).1] at ho0; cases ho0
  refine ⟨⟨A1.minus A, ⟨⟨v, A, (h1.sub fun o ho => s _ _ ho).put hP (by show 0 + 1 ≤ 1; omega), grow_minus hG⟩, fun k o hk => hkeep k o (hne k o hk) (minus_blk hk).2, ?_, hl⟩, fun k o hk => .inr (minus_blk hk).1⟩, fun k o hk ho => hkeep k o hk (s k o ho), fun k hk => ?_⟩
  · cases hb : (A1.minus A).blk r with
    | none => rfl
    | some o => exact absurd rfl (hne r o hb)
  · have h2 := (hP.dom k).1 hk
    cases hA : A.blk k with
    | none => rfl
    | some o => rw [s k o hA] at h2; cases h2

/-- No row of that value lies there. -/
def offV (S : Arena) (v : Value) : Prop := ∀ g n c, v = .slice (some ⟨g, 0, none⟩) n c → S.blk g = none

/-- What a call leaves that makes a row of its own beside. -/
structure RtToV (A S : Arena) (r : Nat) (l' : List WatchD) (A' : Arena) (v : Value) : Prop where
  at_ : ∃ S', RtAt A' S' r l' ∧ (∀ k o, S'.blk k = some o → S.blk k = some o ∨ A.blk k = none) ∧ offV S' v
  keep : ∀ k o, k ≠ r → A.blk k = some o → A'.blk k = some o
  dom : ∀ k, A'.blk k = none → A.blk k = none

theorem RtToV.to {A S A' : Arena} {r : Nat} {l' : List WatchD} {v : Value} (h : RtToV A S r l' A' v) : RtTo A S r l' A' := by
  obtain ⟨S', h1, h2, _⟩ := h.at_
  exact ⟨⟨S', h1, h2⟩, h.keep, h.dom⟩

theorem RtTo.toV {A S A' : Arena} {r : Nat} {l' : List WatchD} (h : RtTo A S r l' A') : RtToV A S r l' A' (.slice none 0 0) := by
  obtain ⟨S', h1, h2⟩ := h.at_
  exact ⟨⟨S', h1, h2, fun _ _ _ h => (by cases h)⟩, h.keep, h.dom⟩

/-- A row that lay there stays apart. -/
theorem RtToV.next {A A' A'' S S' E : Arena} {r es n : Nat} {e : TypeId} {l'' : List WatchD} {v w : Value} {cs : List Value} (hS : ∀ k o, S'.blk k = some o → S.blk k = some o ∨ A.blk k = none) (hk : ∀ k o, k ≠ r → A.blk k = some o → A'.blk k = some o) (hd : ∀ k, A'.blk k = none → A.blk k = none) (hv : offV S' v) (hG : GrowR E A' es e n v cs) (k : RtToV A' S' r l'' A'' w) : RtToV A S r l'' A'' v := by
  obtain ⟨S2, h1, h2, _⟩ := k.at_
  refine ⟨⟨S2, h1, fun b o hb => ?_, fun g n' c' e => ?_⟩, fun b o hb ho => k.keep b o hb (hk b o hb ho), fun b hb => hd b (k.dom b hb)⟩
  · rcases h2 b o hb with h3 | h3
    · exact hS b o h3
    · exact .inr (hd b h3)
  · cases hb : S2.blk g with
    | none => rfl
    | some o =>
      rcases h2 g o hb with h3 | h3
      · rw [hv g n' c' e] at h3; cases h3
      · obtain ⟨_, ⟨_, h4⟩ | ⟨g2, nc, c, h4, _, _, _, h6, _⟩⟩ := hG
        · rw [h4] at e; cases e
        · rw [h4] at e
          injection e with e
          injection e with e
          injection e with e
          rw [← e, h6] at h3; cases h3

/-- The row grows: what lies apart stays. -/
theorem RtToV.app {A S A3 A4 : Arena} {r es n c m : Nat} {e : TypeId} {l' : List WatchD} {base : Option (Nat × Nat)} {cs ys : List Value} {u : Value} {or_ : Obj} (h : RtToV A S r l' A3 (.slice (addrA base) n c)) (hr : A.blk r = some or_) (hb : base = none ∨ ∃ g, base = some (g, 0)) (ha : Appended A3 base n c es e cs ys m u A4) (hk : ∀ k o, A.blk k = some o → A4.blk k = A3.blk k) (hd : ∀ k, A4.blk k = none → A3.blk k = none) : RtToV A S r l' A4 u := by
  obtain ⟨S', h1, h2, h3⟩ := h.at_
  have key : (∀ k o, S'.blk k = some o → A4.blk k = some o) ∧ offV S' u := by
    rcases ha with ⟨_, rfl, h4⟩ | ⟨_, g', nc, c', zs, rfl, _, _, _, hN⟩
    · refine ⟨fun k o ho => ?_, fun g n' c' e => ?_⟩
      · rcases h4 with ⟨_, rfl⟩ | ⟨g, o', rfl, hP⟩
        · exact h1.sub k o ho
        · rcases hb with hb | ⟨g0, hb⟩
          · cases hb
          · injection hb with hb
            injection hb with hb1 hb2
            subst hb2
            rw [hP.other k fun e => (by
              rw [e, h3 g n c rfl] at ho; cases ho)]
            exact h1.sub k o ho
      · injection e with e
        exact h3 g n c (by rw [e])
    · refine ⟨fun k o ho => hN.sub k o (h1.sub k o ho), fun g n' c' e => ?_⟩
      injection e with e
      injection e with e
      injection e with e
      subst e
      cases hb : S'.blk g' with
      | none => rfl
      | some o => have := h1.sub g' o hb; rw [hN.none_] at this; cases this
  obtain ⟨v, E, h5, h6⟩ := h1.row
  exact ⟨⟨S', ⟨⟨v, E, h5.sub fun o ho => by rw [hk r or_ hr]; exact ho, h6⟩, key.1, h1.off, h1.le⟩, h2, key.2⟩, fun k o hkr ho => by rw [hk k o ho]; exact h.keep k o hkr ho, fun k hk' => h.dom k (hd k hk')⟩

/-! ### Two rows side by side -/

def apartV (v1 v2 : Value) : Prop := ∀ g1 g2 n1 c1 n2 c2, v1 = .slice (some ⟨g1, 0, none⟩) n1 c1 → v2 = .slice (some ⟨g2, 0, none⟩) n2 c2 → g1 ≠ g2

theorem apartV.symm {v1 v2 : Value} (h : apartV v1 v2) : apartV v2 v1 := fun g1 g2 n1 c1 n2 c2 e1 e2 => (h g2 g1 n2 c2 n1 c1 e2 e1).symm

theorem apart_nil (v : Value) : apartV (.slice none 0 0) v := fun _ _ _ _ _ _ h => by cases h

/-- A new row is stored; beside it another new row was made. -/
theorem RtTo.storeV {A A1 A2 S : Arena} {r : Nat} {l l' : List WatchD} {v v2 : Value} (h : RtAt A S r l) (s : ∀ k o, A.blk k = some o → A1.blk k = some o) (hG : GrowR A A1 3 72 l'.length v (l'.flatMap WatchD.cells)) (hP : A1.Put A2 r 0 [v]) (hl : l'.length ≤ 1000000) (hap : apartV v v2) : RtToV A S r l' A2 v2 := by
  have hto := RtTo.store h s hG hP hl
  obtain ⟨v0, _, h1, _⟩ := h.row
  obtain ⟨o0, ho0⟩ := h1.dom
  have hrow : ∀ k n c, v = .slice (some ⟨k, 0, none⟩) n c → A.blk k = none := fun k n c e => by
    obtain ⟨_, ⟨_, h4⟩ | ⟨g2, nc, c, h4, _, _, h5, _⟩⟩ := hG
    · rw [h4] at e; cases e
    · rw [h4] at e
      injection e with e
      injection e with e
      injection e with e
      rw [← e]; exact h5
  refine ⟨⟨Arena.of fun k => if ∃ n c, v = .slice (some ⟨k, 0, none⟩) n c then A1.blk k else none, ⟨⟨v, A, (h1.sub fun o ho => s _ _ ho).put hP (by show 0 + 1 ≤ 1; omega), ?_⟩, fun k o hk => ?_, ?_, hl⟩, fun k o hk => ?_, fun g n c e => ?_⟩, hto.keep, hto.dom⟩
  · obtain ⟨h3, h4 | ⟨g, nc, c, h4, h5, h5', h6, h7, h8⟩⟩ := hG
    · exact ⟨h3, .inl h4⟩
    · exact ⟨h3, .inr ⟨g, nc, c, h4, h5, h5', h6, (if_pos ⟨_, _, h4⟩).trans h7, h8⟩⟩
  · have hk : (if ∃ n c, v = .slice (some ⟨k, 0, none⟩) n c then A1.blk k else none) = some o := hk
    split at hk
    · rename_i he
      obtain ⟨n, c, he⟩ := he
      rw [hP.other k fun e => (by
        have := hrow k n c he
        rw [e, ho0] at this; cases this)]
      exact hk
    · cases hk
  · show (if ∃ n c, v = .slice (some ⟨r, 0, none⟩) n c then A1.blk r else none) = none
    split
    · rename_i he
      obtain ⟨n, c, he⟩ := he
      have := hrow r n c he
      rw [ho0] at this; cases this
    · rfl
  · have hk : (if ∃ n c, v = .slice (some ⟨k, 0, none⟩) n c then A1.blk k else none) = some o := hk
    split at hk
    · rename_i he
      obtain ⟨n, c, he⟩ := he
      exact .inr (hrow k n c he)
    · cases hk
  · show (if ∃ n c, v = .slice (some ⟨g, 0, none⟩) n c then A1.blk g else none) = none
    rw [if_neg]
    rintro ⟨n', c', he⟩
    exact hap g g n' c' n c he e rfl

/-- The one grows: the other one stays. -/
theorem two_add {A1 A A' : Arena} {es es2 n n2 c m : Nat} {e e2 : TypeId} {base : Option (Nat × Nat)} {cs cs2 ys : List Value} {v2 v' : Value} (h1 : GrowR A1 A es e n (.slice (addrA base) n c) cs) (h2 : GrowR A1 A es2 e2 n2 v2 cs2) (hap : apartV (.slice (addrA base) n c) v2) (hy : ys.length = m * es) (hd : ∀ k, A.blk k = none → A1.blk k = none) (ha : Appended A base n c es e cs ys m v' A') :
    GrowR A1 A' es e (n + m) v' (cs ++ ys) ∧ GrowR A1 A' es2 e2 n2 v2 cs2 ∧ apartV v' v2 ∧ ∀ k o, A1.blk k = some o → A'.blk k = A.blk k := by
  obtain ⟨_, hA⟩ := h1.formB
  obtain ⟨k1, k2⟩ := hA _ _ _ _ hy hd ha
  have hbase : base = none ∨ ∃ g, base = some (g, 0) := by
    obtain ⟨b, c9, e9, hb, _⟩ := h1.formN
    injection e9 with e9
    rw [addrA_inj e9]
    exact hb
  have key : apartV v' v2 ∧ ∀ g2 n2' c2, v2 = .slice (some ⟨g2, 0, none⟩) n2' c2 → A.blk g2 ≠ none → A'.blk g2 = A.blk g2 := by
    rcases ha with ⟨_, rfl, h3⟩ | ⟨_, g', nc, c', zs, rfl, _, _, _, hN⟩
    · refine ⟨fun g1 g2 n1 c1 n2 c2 e1 e2 => ?_, fun g2 n2' c2 e2 _ => ?_⟩
      · injection e1 with e1
        refine hap g1 g2 n c n2 c2 ?_ e2
        rw [e1]
      · rcases h3 with ⟨_, rfl⟩ | ⟨g, o, rfl, hP⟩
        · rfl
        · rcases hbase with hb | ⟨g0, hb⟩
          · cases hb
          · injection hb with hb
            injection hb with hb1 hb2
            subst hb2
            exact hP.other g2 (hap g g2 n c n2' c2 rfl e2).symm
    · refine ⟨fun g1 g2 n1 c1 n2 c2 e1 e2 => ?_, fun g2 n2' c2 _ hne => hN.other g2 fun e => hne (e ▸ hN.none_)⟩
      injection e1 with e1
      injection e1 with e1
      injection e1 with e1
      subst e1
      obtain ⟨_, ⟨_, h3⟩ | ⟨g3, nc3, c3, h3, _, _, _, h6, _⟩⟩ := h2
      · rw [h3] at e2; cases e2
      · rw [h3] at e2
        injection e2 with e2
        injection e2 with e2
        injection e2 with e2
        intro e
        rw [← e2] at e
        rw [← e, hN.none_] at h6; cases h6
  refine ⟨k1, ?_, key.1, k2⟩
  obtain ⟨h3, h4 | ⟨g3, nc3, c3, h4, h5, h5', h6, h7, h8⟩⟩ := h2
  · exact ⟨h3, .inl h4⟩
  · exact ⟨h3, .inr ⟨g3, nc3, c3, h4, h5, h5', h6, by rw [key.2 g3 _ _ h4 (by rw [h7]; simp)]; exact h7, h8⟩⟩

/-! ### A row of watches -/

theorem watch_at {A : Arena} {g o n : Nat} {l : List WatchD} (h : A.rd g o (n * 3) = some (l.flatMap WatchD.cells)) (k : Nat) (hk : k < l.length) (hn : n = l.length) : A.rd g (o + k * 3) 3 = some l[k].cells := by
  have h' : A.rd g o (n * 3) = some (l.map WatchD.cells).flatten := by rw [h, List.flatMap_def]
  have := rows_at h' (fun r hr => by obtain ⟨w, _, rfl⟩ := List.mem_map.1 hr; rfl) k (by simpa using hk) (by simpa using hn)
  rw [this]
  simp

theorem watches_one (l : List WatchD) : ∀ v ∈ l.flatMap WatchD.cells, v.oneCell' = true := fun v hv => by
  obtain ⟨r, _, h⟩ := List.mem_flatMap.1 hv
  simp only [WatchD.cells, List.mem_cons, List.not_mem_nil, or_false] at h
  rcases h with rfl | rfl | rfl <;> rfl

theorem watches_len : ∀ l : List WatchD, (l.flatMap WatchD.cells).length = l.length * 3
  | [] => rfl
  | r :: rs => by rw [List.flatMap_cons, List.length_append, watches_len rs, List.length_cons, Nat.succ_mul]; show 3 + _ = _; omega

end
end Go.Proofs.YtienbbhelhhfjaaGreatDoor

namespace Go.Proofs.YtienbbhelhhfjaaGreatDoor
open Go.Sx Go.RowKit
noncomputable section
open Classical

theorem splitL_ne : ∀ l : List UInt8, splitL l ≠ []
  | [] => by simp [splitL]
  | b :: l => by
    simp only [splitL]
    cases hb : b == 47 with
    | true => simp
    | false =>
      simp only [cond_false]
      split <;> simp

theorem splitL_len : ∀ l : List UInt8, (splitL l).length = l.count 47 + 1
  | [] => rfl
  | b :: l => by
    have ih := splitL_len l
    simp only [splitL]
    cases hb : b == 47 with
    | true =>
      have e : b = 47 := by simpa using hb
      subst e
      simp [ih]
    | false =>
      have e : b ≠ 47 := by simpa using hb
      simp only [cond_false]
      rw [List.count_cons_of_ne e]
      cases hs : splitL l with
      | nil => exact absurd hs (splitL_ne l)
      | cons x xs => rw [hs] at ih; simpa using ih

/-- Where there is more than one part, the first one is cut off. -/
theorem splitL_step {l : List UInt8} (h : 2 ≤ (splitL l).length) : ∃ a b, l = a ++ 47 :: b ∧ Lib.index l [47] = a.length ∧ splitL l = a :: splitL b := by
  rcases index_cases l with ⟨_, h2⟩ | ⟨a, b, h1, h2, h3⟩
  · rw [splitL_none l h2] at h
    simp at h
  · exact ⟨a, b, h1, h3, by rw [h1, splitL_cut a b h2]⟩

theorem splitL_last : ∀ (a b : List UInt8), (∀ x ∈ b, x ≠ 47) → splitL (a ++ 47 :: b) = splitL a ++ [b]
  | [], b, h => by simp [splitL, splitL_none b h]
  | x :: a, b, h => by
    have ih := splitL_last a b h
    simp only [List.cons_append, splitL]
    cases hb : x == 47 with
    | true => simp [ih]
    | false =>
      simp only [cond_false, ih]
      cases hs : splitL a with
      | nil => exact absurd hs (splitL_ne a)
      | cons y ys => simp

theorem join_cons2 (x : List UInt8) (xs : List (List UInt8)) (h : xs ≠ []) : Lib.join (x :: xs) [47] = x ++ 47 :: Lib.join xs [47] := by
  cases xs with
  | nil => exact absurd rfl h
  | cons y ys =>
    rw [Lib.join_cons, Lib.join_cons]
    simp [Lib.joinTail]

theorem join_split : ∀ l : List UInt8, Lib.join (splitL l) [47] = l
  | [] => by simp [splitL, Lib.join_one]
  | b :: l => by
    have ih := join_split l
    simp only [splitL]
    cases hb : b == 47 with
    | true =>
      have e : b = 47 := by simpa using hb
      subst e
      rw [cond_true, join_cons2 [] _ (splitL_ne l), ih]
      rfl
    | false =>
      simp only [cond_false]
      cases hs : splitL l with
      | nil => exact absurd hs (splitL_ne l)
      | cons x xs =>
        rw [hs] at ih
        simp only
        by_cases hx : xs = []
        · subst hx
          rw [Lib.join_one] at ih ⊢
          rw [ih]
        · rw [join_cons2 _ _ hx] at ih ⊢
          rw [List.cons_append, ih]

theorem last_split : ∀ l : List UInt8, (∀ x ∈ l, x ≠ 47) ∨ ∃ a b, l = a ++ 47 :: b ∧ ∀ x ∈ b, x ≠ 47
  | [] => .inl (by simp)
  | x :: l => by
    rcases last_split l with h | ⟨a, b, h1, h2⟩
    · by_cases hx : x = 47
      · exact .inr ⟨[], l, by rw [hx]; rfl, h⟩
      · refine .inl fun y hy => ?_
        rcases List.mem_cons.1 hy with rfl | hy
        · exact hx
        · exact h y hy
    · exact .inr ⟨x :: a, b, by rw [h1]; rfl, h2⟩

theorem lastUp_app (a b : List UInt8) (hb : ∀ x ∈ b, x ≠ 47) : ∀ n, n ≤ b.length → lastUp (a ++ 47 :: b) 47 (a.length + 1 + n) = a.length
  | 0, _ => by
    rw [Nat.add_zero, lastUp, if_pos]
    simp
  | n + 1, h => by
    rw [show a.length + 1 + (n + 1) = (a.length + 1 + n) + 1 by omega, lastUp, if_neg]
    · exact lastUp_app a b hb n (by omega)
    · rw [List.getElem?_append_right (by omega), show a.length + 1 + n - a.length = n + 1 by omega, List.getElem?_cons_succ, List.getElem?_eq_getElem (by omega)]
      intro e
      injection e with e
      exact hb _ (List.getElem_mem _) e

theorem lastIdx_app (a b : List UInt8) (hb : ∀ x ∈ b, x ≠ 47) : lastIdx (a ++ 47 :: b) 47 = a.length := by
  unfold lastIdx
  have := lastUp_app a b hb b.length (Nat.le_refl _)
  rw [List.length_append, List.length_cons, show a.length + (b.length + 1) = a.length + 1 + b.length by omega]
  exact this

/-- What stands over a path: by its parts. -/
theorem parent_parts {q : List UInt8} (hk : pathOk (47 :: q) = true) (hq : q ≠ []) : (cutP (47 :: q)).1 = 47 :: Lib.join ((splitL q).dropLast) [47] ∧ some (cutP (47 :: q)).2 = (splitL q).getLast? := by
  have hc : pathOk (47 :: q) = true ∧ (47 :: q : List UInt8) ≠ [47] := ⟨hk, fun e => hq (by injection e)⟩
  rw [cutP, if_pos hc]
  rcases last_split q with h | ⟨a, b, h1, h2⟩
  · have hi : lastIdx (47 :: q) 47 = ((([] : List UInt8).length : Nat) : Int) := lastIdx_app [] q h
    have e0 : (max ((([] : List UInt8).length : Nat) : Int) 1).toNat = 1 := rfl
    have e1 : (((([] : List UInt8).length : Nat) : Int) + 1).toNat = 1 := rfl
    rw [hi, splitL_none q h, e0, e1]
    simp [Lib.join_nil]
  · have hi : lastIdx (47 :: q) 47 = (((47 :: a).length : Nat) : Int) := by rw [h1]; exact lastIdx_app (47 :: a) b h2
    rw [hi, h1, splitL_last a b h2, List.dropLast_concat, join_split]
    have e : (max (((47 :: a : List UInt8).length : Nat) : Int) 1).toNat = a.length + 1 := by
      rw [List.length_cons]; omega
    have e2 : ((((47 :: a : List UInt8).length : Nat) : Int) + 1).toNat = a.length + 2 := by
      rw [List.length_cons]; omega
    rw [e, e2]
    refine ⟨?_, ?_⟩
    · simp
    · simp

end
end Go.Proofs.YtienbbhelhhfjaaGreatDoor

namespace Go.Proofs.YtienbbhelhhfjaaGreatDoor
open Go.Sx Go.RowKit
noncomputable section
open Classical

def strV (l : List UInt8) : Value := .string ⟨l.toArray⟩

/-- A slice of texts. -/
def SlT (A : Arena) (v : Value) (l : List (List UInt8)) : Prop := Sl A 1 l.length v (l.map strV) ∧ l.length ≤ 140737488351232

theorem text_at {A : Arena} {g o n : Nat} {ls : List (List UInt8)} (h : A.rd g o (n * 1) = some (ls.map strV)) (k : Nat) (hk : k < ls.length) (hn : n = ls.length) : A.rd g (o + k * 1) 1 = some [.string ⟨ls[k].toArray⟩] := by
  rw [rd_at h (i := k * 1) (m := 1) (by omega)]
  congr 1
  refine List.ext_getElem? fun i => ?_
  cases i with
  | zero => simp [hk, strV]
  | succ i =>
    simp
    omega

end
end Go.Proofs.YtienbbhelhhfjaaGreatDoor

namespace Go.Proofs.YtienbbhelhhfjaaGreatDoor
open Go.Sx Go.RowKit
noncomputable section
open Classical

theorem wrapI2 (k : Nat) (h : k < 1000000) : IntKind.i64.wrap ((k : Int) + 1) = ((k + 1 : Nat) : Int) := by
  rw [Sx.wrap_i64 (by omega) (by omega)]; rfl

def ctCnt : CT := fun args h K => match args with
  | [.v (.string s), .v (.int .u8 c)] => K (.v (.int .i64 (Lib.countByte s.data.toList c.toNat.toUInt8 : Nat))) h
  | [.str l, .v (.int .u8 c)] => K (.v (.int .i64 (Lib.countByte l c.toNat.toUInt8 : Nat))) h
  | _ => false

set_option maxRecDepth 100000 in
theorem cnt_sound : (⟨125, ctCnt⟩ : CEnt).Ok Tryz.prog := fun args h0 K hk ρ w H hargs => by
  have key : ∀ (s : ByteArray) (c : Int), (callFunc 125 #[.string s, .int .u8 c]).run Tryz.prog w = .ok (.value (.int .i64 (Lib.countByte s.data.toList c.toNat.toUInt8 : Nat))) w := fun s c => by
    rw [run_callFunc_extern Tryz.func125 (by kernel_rfl) (by kernel_rfl) (by kernel_rfl) (e := Extern.BytealgCount.count) (by kernel_rfl), Lib.run_countString]
    rfl
  change ctCnt args h0 K = true at hk
  unfold ctCnt at hk
  split at hk
  · rename_i s c
    exact goes_of_entry (key s c) H hk rfl trivial
  · rename_i l c
    exact goes_of_entry (key ⟨l.toArray⟩ c) H hk rfl trivial
  · exact absurd hk Bool.false_ne_true

def indexS : FSpec := ⟨ByteArray, fun s vs _ => vs = [.string s, .string ⟨#[47]⟩], fun s _ A v A' => A' = A ∧ v = .int .i64 (Lib.index s.data.toList [47])⟩

theorem index_ok : FOk Tryz.prog 111 indexS := by
  intro s vs A w hA hp
  obtain rfl : vs = [.string s, .string ⟨#[47]⟩] := hp
  refine goes_of_calls Tryz.func111 ⟨by kernel_rfl, by kernel_rfl⟩ ?_
  refine (idx2 s w).mono fun e w' ⟨he, hw⟩ => ?_
  subst hw
  exact ⟨_, he, A, ⟨rfl, rfl⟩, rfl, rfl, rfl, fun _ _ _ => rfl, hA, fun k o ho => .inl ⟨o, ho⟩⟩

theorem bnd_to {x : Int} {c k : Nat} (hx : x = k) (hk : k ≤ c) : ((decide ((0 : Int) ≤ 0) && decide ((0 : Int) ≤ x)) && (false || decide (x ≤ (c : Int)))) = true := by
  subst hx
  exact Bool.and_eq_true_iff.2 ⟨Bool.and_eq_true_iff.2 ⟨decide_eq_true (by omega), decide_eq_true (by omega)⟩, Bool.or_eq_true_iff.2 (.inr (decide_eq_true (by omega)))⟩

theorem bnd_from {x : Int} {c k : Nat} {t : Bool} (hx : x = k) (hk : k ≤ c) : ((decide ((0 : Int) ≤ x) && decide (x ≤ (c : Int))) && (true || t)) = true := by
  subst hx
  exact Bool.and_eq_true_iff.2 ⟨Bool.and_eq_true_iff.2 ⟨decide_eq_true (by omega), decide_eq_true (by omega)⟩, rfl⟩

structure SpG where
  i : Nat
  A : Arena
  rest : List UInt8
  parts : List (List UInt8)

structure SpI (A1 : Arena) (g N : Nat) (l : List UInt8) (s : SpG) : Prop where
  num : s.parts.length = s.i
  le : s.i ≤ N - 1
  split : splitL l = s.parts ++ splitL s.rest
  row : ∃ c, s.A.blk g = some (.cells c 9 (0, 0)) ∧ c.size = N ∧ c.toList.take s.i = s.parts.map strV
  oth : ∀ k, k ≠ g → s.A.blk k = A1.blk k
  len : s.rest.length ≤ l.length

def spInv (A1 : Arena) (g N : Nat) (l : List UInt8) : LInv := { γ := SpG, G := SpI A1 g N l, keepS := [1, 2], keepB := [], sl := fun s => [(0, .str s.rest), (3, .v (.int .i64 (N - 1 : Nat))), (9, .v (.slice (some ⟨g, 0, none⟩) N N)), (10, .v (.int .i64 s.i))], bl := fun _ => [], ar := fun s => s.A, mu := fun s => N - s.i }

def genS : FSpec := ⟨List UInt8, fun l vs _ => vs = [strV l, strV [47], .int .i64 0, .int .i64 (-1)] ∧ l.length ≤ 1000,
  fun l _ A v A' => A.Sub A' ∧ Sl (A'.minus A) 1 (splitL l).length v ((splitL l).map strV)⟩

set_option maxRecDepth 100000 in
set_option maxHeartbeats 0 in
theorem gen_ok : FOk Tryz.prog 100 genS := by
  refine fok_of_run mixed fun (l : List UInt8) vs A hp => ?_
  obtain ⟨rfl, hl⟩ : vs = [strV l, strV [47], .int .i64 0, .int .i64 (-1)] ∧ l.length ≤ 1000 := hp
  have hC : CTSound Tryz.prog (lookC [specE 111 indexS, ⟨125, ctCnt⟩] noC) := lookC_sound (noC_sound _) (fun x hx => by
    simp only [List.mem_cons, List.not_mem_nil, or_false] at hx
    rcases hx with rfl | rfl
    · exact specE_ok index_ok
    · exact cnt_sound)
  refine ⟨_, tabO Tryz.prog _ noL 60 [(100, 0)], 60, [.str l, .str [47], .v (.int .i64 0), .v (.int .i64 (-1))], hC, tabO_sound mixed hC (noL_sound _) _ _, rfl, fun ρ x hx => ?_, fun blk os out tape D hD => ?_⟩
  · simp only [List.mem_cons, List.not_mem_nil, or_false] at hx
    rcases hx with rfl | rfl | rfl | rfl <;> trivial
  conv => lhs; whnf
  have hcnt := splitL_len l
  have hcl : l.count 47 ≤ l.length := List.count_le_length
  have w1 : IntKind.i64.wrap (((Lib.countByte l (((([47] : List UInt8).getD (Int.toNat 0) 0).toNat : Int)).toNat.toUInt8 : Nat) : Int) + 1) = (((splitL l).length : Nat) : Int) := by
    rw [hcnt]; exact wrapI2 (l.count 47) (by omega)
  have w2 : IntKind.i64.wrap ((l.length : Int) + 1) = ((l.length + 1 : Nat) : Int) := wrapI2 l.length (by omega)
  have hM : (bif false then bif decide (IntKind.i64.wrap (((Lib.countByte l (((([47] : List UInt8).getD (Int.toNat 0) 0).toNat : Int)).toNat.toUInt8 : Nat) : Int) + 1) < IntKind.i64.wrap ((l.length : Int) + 1)) then IntKind.i64.wrap ((l.length : Int) + 1) else IntKind.i64.wrap (((Lib.countByte l (((([47] : List UInt8).getD (Int.toNat 0) 0).toNat : Int)).toNat.toUInt8 : Nat) : Int) + 1)
      else bif decide (IntKind.i64.wrap ((l.length : Int) + 1) < IntKind.i64.wrap (((Lib.countByte l (((([47] : List UInt8).getD (Int.toNat 0) 0).toNat : Int)).toNat.toUInt8 : Nat) : Int) + 1)) then IntKind.i64.wrap ((l.length : Int) + 1) else IntKind.i64.wrap (((Lib.countByte l (((([47] : List UInt8).getD (Int.toNat 0) 0).toNat : Int)).toNat.toUInt8 : Nat) : Int) + 1)) = (((splitL l).length : Nat) : Int) := by
    rw [w1, w2, decide_eq_false (show ¬ ((l.length + 1 : Nat) : Int) < (((splitL l).length : Nat) : Int) by omega)]; rfl
  have hMn := congrArg Int.toNat hM
  rw [Int.toNat_natCast] at hMn
  refine (hD _).2 ⟨Int.le_trans (Int.natCast_nonneg _) (Int.le_of_eq hM.symm), Int.le_refl _, Int.le_trans (Int.le_of_eq hM) (by omega), ?_, rfl, fun g A1 c hc hN => ?_⟩
  · refine Nat.le_trans (Nat.mul_le_mul_left 16 (Nat.le_of_eq hMn)) ?_
    omega
  have hN : A.New A1 g c 9 := hN
  conv => lhs; whnf
  obtain ⟨N, hN0⟩ : ∃ N, N = (splitL l).length := ⟨_, rfl⟩
  rw [← hN0] at hM hMn hcnt
  have hc : c.toList = (List.replicate N [Value.string ⟨#[]⟩]).flatten := hc.trans (congrArg (fun z => (List.replicate z [Value.string ⟨#[]⟩]).flatten) hMn)
  have hcs : c.size = N := by
    have h := congrArg List.length hc
    simpa using h
  have hn1 : IntKind.i64.wrap ((N : Int) - 1) = ((N - 1 : Nat) : Int) := by
    rw [Sx.wrap_i64 (by omega) (by omega)]; omega
  have hI0 : SpI A1 g N l ⟨0, A1, l, []⟩ := ⟨rfl, by show 0 ≤ N - 1; omega, rfl, ⟨c, hN.at_, hcs, rfl⟩, fun _ _ => rfl, Nat.le_refl _⟩
  refine (hD _).2 ⟨spInv A1 g N l, ⟨(⟨0, A1, l, []⟩ : SpG), hI0, ⟨rfl, congrArg (fun z : Int => some (SV.v (.int .i64 z))) ((congrArg (fun z : Int => IntKind.i64.wrap (z - 1)) hM).trans hn1), congrArg (fun z : Nat => some (SV.v (.slice (some ⟨g, 0, none⟩) z z))) hMn, rfl, trivial⟩, trivial, rfl⟩, fun (s : SpG) hG => ⟨⟨trivial, trivial, trivial, trivial, trivial⟩, trivial, ?_⟩⟩
  obtain ⟨i, Ai, rest, parts⟩ := s
  obtain ⟨hpl, hi, hsp, ⟨ci, hci, hcis, hcit⟩, hoth, hrl⟩ : SpI A1 g N l ⟨i, Ai, rest, parts⟩ := hG
  dsimp only at hpl hi hsp hci hcis hcit hoth hrl
  have hroom : ∀ n, i + n ≤ N → Ai.Room g (0 + i * 1) n := fun n hn => ⟨ci, _, _, hci, by omega, .inl rfl⟩
  conv => lhs; whnf
  refine split_dec (fun hlt => ?_) (fun hlt => ?_) <;> (conv => lhs; whnf)
  · have hi1 : i < N - 1 := by
      have hlt : (i : Int) < ((N - 1 : Nat) : Int) := hlt
      omega
    have h2 : 2 ≤ (splitL rest).length := by
      have := congrArg List.length hsp
      rw [List.length_append] at this
      omega
    obtain ⟨a, b, hab, hix, hsr⟩ := splitL_step h2
    have hal : rest.length = a.length + 1 + b.length := by rw [hab]; simp; omega
    refine (hD _).2 ⟨(⟨rest.toArray⟩ : ByteArray), rfl, fun v A9 hq => ?_⟩
    have hq : A9 = Ai ∧ v = .int .i64 (Lib.index rest [47]) := hq
    have h9 := hq.1.symm
    have hv := hq.2
    rw [hix] at hv
    subst h9
    subst hv
    conv => lhs; whnf
    have hx1 : IntKind.i64.wrap ((a.length : Int) + 0) = ((a.length : Nat) : Int) := by
      rw [Int.add_zero, Sx.wrap_i64 (by omega) (by omega)]
    have hx2 : IntKind.i64.wrap ((a.length : Int) + 1) = ((a.length + 1 : Nat) : Int) := wrapI2 a.length (by omega)
    refine go_b (bnd_to hx1 (show a.length ≤ rest.length by omega)) ?_
    conv => lhs; whnf
    have i0 : (0 : Int) ≤ (i : Int) ∧ (i : Int) < (N : Int) := by omega
    refine go_in i0 ?_
    conv => lhs; whnf
    refine (hD _).2 ⟨hroom 1 (by omega), fun A7 hP => ?_⟩
    have hP : Ai.Put A7 g (0 + i * 1) [.string ⟨((rest.drop 0).take ((IntKind.i64.wrap ((a.length : Int) + 0)).toNat - 0)).toArray⟩] := hP
    have hta : (rest.drop 0).take ((IntKind.i64.wrap ((a.length : Int) + 0)).toNat - 0) = a := by
      rw [hx1, Int.toNat_natCast, Nat.sub_zero, List.drop_zero, hab, List.take_left']
      rfl
    rw [hta] at hP
    conv => lhs; whnf
    refine go_b (bnd_from hx2 (show a.length + 1 ≤ rest.length by omega)) ?_
    conv => lhs; whnf
    have hrest : (rest.drop (IntKind.i64.wrap ((a.length : Int) + 1)).toNat).take (rest.length - (IntKind.i64.wrap ((a.length : Int) + 1)).toNat) = b := by
      rw [hx2, Int.toNat_natCast, hab]
      simp
      exact List.take_of_length_le (by omega)
    have hI : SpI A1 g N l ⟨i + 1, A7, b, parts ++ [a]⟩ := by
      obtain ⟨c0, t0, fz0, c7, k1, k2, k3⟩ := hP.at_
      rw [hci] at k1
      injection k1 with k1
      injection k1 with k1 k1' k1''
      subst k1; subst k1'; subst k1''
      refine ⟨by show (parts ++ [a]).length = i + 1; rw [List.length_append, hpl]; rfl, by show i + 1 ≤ N - 1; omega, by show splitL l = (parts ++ [a]) ++ splitL b; rw [hsp, hsr]; simp, ⟨c7, k2, ?_, ?_⟩, fun k hk => (hP.other k hk).trans (hoth k hk), by show b.length ≤ l.length; omega⟩
      · rw [← Array.length_toList, k3]
        simp only [List.length_append, List.length_take, List.length_drop, Array.length_toList, List.length_singleton]
        omega
      · show c7.toList.take (i + 1) = (parts ++ [a]).map strV
        have e : 0 + i * 1 = i := by omega
        rw [k3, e, List.map_append, ← hcit, List.take_append_of_le_length (by simp; omega)]
        rw [List.take_of_length_le (by simp; omega)]
        rfl
    exact (hD _).2 ⟨(⟨i + 1, A7, b, parts ++ [a]⟩ : SpG), ⟨hI, ⟨congrArg (fun z => some (SV.str z)) hrest, rfl, rfl, inc_slot (k := i) (by omega), trivial⟩, trivial, rfl⟩, by show N - (i + 1) < N - i; omega, ⟨same1 rfl rfl, same1 rfl rfl, trivial⟩, trivial⟩
  · have hi1 : i = N - 1 := by
      have hlt : ¬ (i : Int) < ((N - 1 : Nat) : Int) := hlt
      omega
    have hone : splitL rest = [rest] := by
      have h1 : (splitL rest).length = 1 := by
        have := congrArg List.length hsp
        rw [List.length_append] at this
        omega
      rcases index_cases rest with ⟨_, h2⟩ | ⟨a, b, h1', h2, h3⟩
      · exact splitL_none rest h2
      · rw [h1', splitL_cut a b h2, List.length_cons] at h1
        have := splitL_len b
        omega
    have i0 : (0 : Int) ≤ (i : Int) ∧ (i : Int) < (N : Int) := by omega
    refine go_in i0 ?_
    conv => lhs; whnf
    refine (hD _).2 ⟨hroom 1 (by omega), fun A7 hP => ?_⟩
    have hP : Ai.Put A7 g (0 + i * 1) [.string ⟨rest.toArray⟩] := hP
    conv => lhs; whnf
    have hx3 : IntKind.i64.wrap ((i : Int) + 1) = ((N : Nat) : Int) := by
      rw [wrapI2 i (by omega)]; omega
    have hend : genS.post l [strV l, strV [47], .int .i64 0, .int .i64 (-1)] A (.slice (some ⟨g, 0 + bif Nat.beq N 0 then 0 else 0 * 1, none⟩) ((IntKind.i64.wrap ((i : Int) + 1)).toNat - 0) (N - 0)) A7 := by
      have e0 : (0 + bif Nat.beq N 0 then 0 else 0 * 1) = 0 := by cases Nat.beq N 0 <;> rfl
      rw [hx3, Int.toNat_natCast, Nat.sub_zero, e0]
      have hg := hN.none_
      refine ⟨fun k o hk => ?_, ?_⟩
      · have hkg : k ≠ g := fun e => by rw [e, hg] at hk; cases hk
        rw [hP.other k hkg, hoth k hkg]
        exact hN.sub k o hk
      · obtain ⟨c0, t0, fz0, c7, k1, k2, k3⟩ := hP.at_
        rw [hci] at k1
        injection k1 with k1
        injection k1 with k1 k1' k1''
        subst k1; subst k1'; subst k1''
        have e : 0 + i * 1 = i := by omega
        have hl7 : c7.toList = (splitL l).map strV := by
          rw [k3, e, hcit, hsp, hone, List.map_append, List.drop_eq_nil_of_le (by simp; omega), List.append_nil]
          rfl
        have hs7 : c7.size = N := by rw [← Array.length_toList, hl7, List.length_map, hN0]
        show Sl (A7.minus A) 1 (splitL l).length _ _
        rw [← hN0]
        refine Sl.row (Nat.le_refl _) (rd_minus ?_ hg)
        rw [rd_mk k2 (by omega), List.drop_zero, Nat.mul_one, ← hl7, List.take_of_length_le (by rw [Array.length_toList]; omega)]
    refine go_b (bnd_to hx3 (Nat.le_refl _)) ?_
    conv => lhs; whnf
    exact (hD _).2 hend

def splitS : FSpec := ⟨List UInt8, fun l vs _ => vs = [strV l, strV [47]] ∧ l.length ≤ 1000,
  fun l _ A v A' => A.Sub A' ∧ Sl (A'.minus A) 1 (splitL l).length v ((splitL l).map strV)⟩

set_option maxRecDepth 100000 in
set_option maxHeartbeats 0 in
theorem split_ok : FOk Tryz.prog 78 splitS := by
  refine fok_v mixed fun (l : List UInt8) vs A hp => ?_
  obtain ⟨rfl, hl⟩ : vs = [.string ⟨l.toArray⟩, .string ⟨#[47]⟩] ∧ l.length ≤ 1000 := hp
  have hC : CTSound Tryz.prog (lookC [specE 100 genS] noC) := lookC_sound (noC_sound _) (fun x hx => by
    simp only [List.mem_singleton] at hx
    subst hx; exact specE_ok gen_ok)
  refine ⟨_, noL, 60, hC, noL_sound _, fun blk os out tape D hD => ?_⟩
  conv => lhs; whnf
  refine (hD _).2 ⟨l, ⟨rfl, hl⟩, fun v A' hq => ?_⟩
  have hq : splitS.post l [.string ⟨l.toArray⟩, .string ⟨#[47]⟩] A v A' := hq
  conv => lhs; whnf
  exact (hD _).2 hq

end
end Go.Proofs.YtienbbhelhhfjaaGreatDoor

namespace Go.Proofs.YtienbbhelhhfjaaGreatDoor
open Go.Sx Go.RowKit Go.Shelf
noncomputable section

def joinRen : Go.Shelf.Ren := ⟨fun | 156 => 107 | 165 => 116 | 166 => 117 | 169 => 118 | 240 => 126 | 241 => 127 | 276 => 131 | 277 => 132 | n => n, fun | 31 => 37 | 9 => 9 | 3 => 3 | 4 => 4 | 0 => 0 | 20 => 20 | 72 => 164 | 76 => 167 | 70 => 162 | 37 => 24 | 75 => 166 | 127 => 174 | 164 => 177 | 5 => 5 | 80 => 169 | n => n, fun | n => n⟩
theorem joinLays : Lays.n156 Tryz.prog joinRen where
  mixed := by kernel_rfl
  f156 := Tryz.func107.trans (congrArg some (by kernel_rfl))
  f165 := Tryz.func116.trans (congrArg some (by kernel_rfl))
  f166 := Tryz.func117.trans (congrArg some (by kernel_rfl))
  f169 := Tryz.func118.trans (congrArg some (by kernel_rfl))
  f240 := Tryz.func126.trans (congrArg some (by kernel_rfl))
  f241 := Tryz.func127.trans (congrArg some (by kernel_rfl))
  f276 := Tryz.func131.trans (congrArg some (by kernel_rfl))
  f277 := Tryz.func132.trans (congrArg some (by kernel_rfl))
  t0 := Tryz.underlying0
  a0 := Tryz.isAgg0
  z0 := Tryz.sizeOf0
  v0 := Tryz.zeroValue0
  t3 := Tryz.underlying3
  a3 := Tryz.isAgg3
  z3 := Tryz.sizeOf3
  v3 := Tryz.zeroValue3
  t4 := Tryz.underlying4
  a4 := Tryz.isAgg4
  z4 := Tryz.sizeOf4
  v4 := Tryz.zeroValue4
  t9 := Tryz.underlying9
  a9 := Tryz.isAgg9
  z9 := Tryz.sizeOf9
  v9 := Tryz.zeroValue9
  t20 := Tryz.underlying20
  a20 := Tryz.isAgg20
  z20 := Tryz.sizeOf20
  v20 := Tryz.zeroValue20
  t31 := Tryz.underlying37
  a31 := Tryz.isAgg37
  z31 := Tryz.sizeOf37
  v31 := Tryz.zeroValue37
  t37 := Tryz.underlying24
  a37 := Tryz.isAgg24
  z37 := Tryz.sizeOf24
  v37 := Tryz.zeroValue24
  t70 := Tryz.underlying162
  a70 := Tryz.isAgg162
  z70 := Tryz.sizeOf162
  v70 := Tryz.zeroValue162
  t72 := Tryz.underlying164
  a72 := Tryz.isAgg164
  z72 := Tryz.sizeOf164
  v72 := Tryz.zeroValue164
  t75 := Tryz.underlying166
  a75 := Tryz.isAgg166
  z75 := Tryz.sizeOf166
  v75 := Tryz.zeroValue166
  t76 := Tryz.underlying167
  a76 := Tryz.isAgg167
  z76 := Tryz.sizeOf167
  v76 := Tryz.zeroValue167
  t127 := Tryz.underlying174
  a127 := Tryz.isAgg174
  z127 := Tryz.sizeOf174
  v127 := Tryz.zeroValue174
  t164 := Tryz.underlying177
  a164 := Tryz.isAgg177
  z164 := Tryz.sizeOf177
  v164 := Tryz.zeroValue177

theorem joinExtra : Builder.Extra Tryz.prog joinRen where
  sizeBuilder := by kernel_rfl
  liesBuilder := by kernel_rfl
  t5 := Tryz.underlying5
  a5 := Tryz.isAgg5
  z5 := Tryz.sizeOf5
  v5 := Tryz.zeroValue5
  infoByte := by kernel_rfl
  cellsByte := by kernel_rfl
  sizeByte := by kernel_rfl
  neB5 := by decide

def joinS : FSpec := ⟨List (List UInt8), fun ls vs A => ∃ x, vs = [x, strV [47]] ∧ Sl A 1 ls.length x (ls.map strV) ∧ ls.length ≤ 1000 ∧ (Lib.join ls [47]).length ≤ 1000, fun ls _ A v A' => A' = A ∧ v = strV (Lib.join ls [47])⟩

theorem cell_at {A : Arena} {w : World} (hA : ∀ k o, A.blk k = some o → w.heap[k]? = some o) {g o n : Nat} {cs : List Value} (h : A.rd g o n = some cs) {j : Nat} {v : Value} (hj : cs[j]? = some v) : w.cell? ⟨g, o + j, none⟩ = some v ∧ g < w.heap.size := by
  obtain ⟨c, t, fz, hb, hle, rfl⟩ := rd_some h
  have hw := hA _ _ hb
  have hjn : j < n := by
    have := (List.getElem?_eq_some_iff.1 hj).1
    simp at this; omega
  rw [List.getElem?_take_of_lt hjn, List.getElem?_drop, Array.getElem?_toList] at hj
  refine ⟨?_, (Array.getElem?_eq_some_iff.1 hw).1⟩
  unfold World.cell?
  rw [hw]
  simp only [Option.isSome_none, Bool.false_eq_true, if_false]
  rw [hj]

theorem join_ok : FOk Tryz.prog 107 joinS := by
  intro (ls : List (List UInt8)) vs A w hA hp
  obtain ⟨x, rfl, ⟨ao, c, rfl, hc, hl, ha1, ha2, ha3⟩, hN, hlen⟩ : ∃ x, vs = [x, strV [47]] ∧ Sl A 1 ls.length x (ls.map strV) ∧ ls.length ≤ 1000 ∧ (Lib.join ls [47]).length ≤ 1000 := hp
  refine goes_of_calls joinLays.f156 ⟨by kernel_rfl, by kernel_rfl⟩ ?_
  have hlt : ∀ k o, A.blk k = some o → k < w.heap.size := fun k o hk => (Array.getElem?_eq_some_iff.1 (hA k o hk)).1
  by_cases h0 : ls = []
  · subst h0
    intro cs
    obtain ⟨e, w', fr, ⟨k1, k2⟩, k3⟩ := Any.strings_Join_none joinLays joinExtra ao c ⟨#[47]⟩ w cs
    subst k2
    exact ⟨e, w', fr, ⟨_, k1, A, ⟨rfl, rfl⟩, rfl, rfl, rfl, fun _ _ _ => rfl, hA, fun k o ho => .inl ⟨o, ho⟩⟩, k3⟩
  · have hpos : 0 < ls.length := by
      cases ls with
      | nil => exact absurd rfl h0
      | cons y ys => simp
    obtain ⟨g, o, rfl, hr⟩ := Sl.at_ hc ha1 ha2 ha3 hpos
    have hm : (ls.map fun l => (⟨l.toArray⟩ : ByteArray)).map (·.data.toList) = ls := by
      rw [List.map_map]
      conv => rhs; rw [← List.map_id ls]
      exact List.map_congr_left fun l _ => by simp
    have hcells : ∀ (j : Nat) x, (ls.map fun l => (⟨l.toArray⟩ : ByteArray))[j]? = some x → w.cell? ⟨g, o + j, none⟩ = some (.string x) := fun j x hx => by
      refine (cell_at hA hr (j := j) (v := .string x) ?_).1
      rw [List.getElem?_map] at hx ⊢
      cases h : ls[j]? with
      | none => rw [h] at hx; cases hx
      | some l =>
        rw [h] at hx
        injection hx with hx
        rw [← hx]; rfl
    have hg : g < w.heap.size := by
      have h1 : (ls.map strV)[0]? = some (strV ls[0]) := by rw [List.getElem?_map, List.getElem?_eq_getElem hpos]; rfl
      exact (cell_at hA hr h1).2
    have key := Any.strings_Join joinLays joinExtra g o c (ls.map fun l => (⟨l.toArray⟩ : ByteArray)) ⟨#[47]⟩ w hcells hg (by rw [List.length_map]; omega) (by rw [List.length_map]; exact hc) (by rw [hm]; show (Lib.join ls [47]).length ≤ _; omega)
    rw [hm, List.length_map] at key
    intro cs
    obtain ⟨e, w', fr, ⟨k1, b1, b2, b3, _, b5⟩, k3⟩ := key cs
    exact ⟨e, w', fr, ⟨_, k1, A, ⟨rfl, rfl⟩, b1, b3, b2, fun k _ hk => b5 k hk, fun k o hk => (b5 k (hlt k o hk)).trans (hA k o hk), fun k o ho => .inl ⟨o, ho⟩⟩, k3⟩

end
end Go.Proofs.YtienbbhelhhfjaaGreatDoor
