/-
  Contracts: has a deed what its kind may have? Are deeds parts? Is a deed right?
  Contracts: are deeds parts? Is a deed right?
  Rows that are made by append: many elements at once.
  Contracts: bell: Ring.
  Plain: what is rung of one connection's watches, among others.
  Contracts: the law's is: rows of rings that are the same are told so.
  Contracts: bell: Again.
  Contracts: the chapter's first example.
  Steps of a tower's life, as plain data.
  Contracts: bell: Drop.
  Contracts: beadlekit.Pick.
  BellFirst: the law's text over plain data.
-/
import Derived.Test.YtpgpbnalgjbfbaaDoorG09
import Derived.Test.YtpgpbnalgjbfbaaDoorG10
import Derived.Test.YtpgpbnalgjbfbaaDoorG11
import Derived.Test.YtpgpbnalgjbfbaaDoorG07
import Derived.Test.YtpgpbnalgjbfbaaDoorG08
namespace Go.Proofs.YtpgpbnalgjbfbaaDoor
open Go.Sx Go.RowKit
noncomputable section
open Classical

set_option maxRecDepth 100000 in
set_option maxHeartbeats 0 in
theorem fits_ok : FOk Tryd.prog 24 fitsS := by
  refine fok_v mixed fun d vs A hp => ?_
  obtain ⟨cs, rfl, hR, hA⟩ : ∃ cs, vs = [deedV cs] ∧ DeedR A d cs ∧ HasA A := hp
  obtain ⟨⟨zxid, kind, ses, turn, xid, time, path, data, owner, ver, cver, tmo, err, cfg, mem⟩, parts⟩ := d
  rw [DeedR] at hR
  dsimp only [DeedH.cells] at hR
  obtain ⟨vd, vm, vp, rows, rfl, -, ⟨⟨a7, k7, rfl, -⟩, -⟩, ⟨⟨a14, k14, rfl, -⟩, -⟩, ⟨a15, k15, rfl, -⟩, -⟩ := hR
  refine ⟨C0, noL, 60, C0_sound, noL_sound _, ?_⟩
  by_cases hk : kind = 1 ∨ kind = 2 ∨ kind = 3 ∨ kind = 4 ∨ kind = 5 ∨ kind = 6 ∨ kind = 7 ∨ kind = 8 ∨ kind = 9
  · rcases hk with rfl | rfl | rfl | rfl | rfl | rfl | rfl | rfl | rfl
    · exact fitsK1 hA _ _ _ _ _ _ _ _ _ _ _ _ _ _ _ _ _ _ _ _ _
    · exact fitsK2 hA _ _ _ _ _ _ _ _ _ _ _ _ _ _ _ _ _ _ _ _ _
    · exact fitsK3 hA _ _ _ _ _ _ _ _ _ _ _ _ _ _ _ _ _ _ _ _ _
    · exact fitsK4 hA _ _ _ _ _ _ _ _ _ _ _ _ _ _ _ _ _ _ _ _ _
    · exact fitsK5 hA _ _ _ _ _ _ _ _ _ _ _ _ _ _ _ _ _ _ _ _ _
    · exact fitsK6 hA _ _ _ _ _ _ _ _ _ _ _ _ _ _ _ _ _ _ _ _ _
    · exact fitsK7 hA _ _ _ _ _ _ _ _ _ _ _ _ _ _ _ _ _ _ _ _ _
    · exact fitsK8 hA _ _ _ _ _ _ _ _ _ _ _ _ _ _ _ _ _ _ _ _ _
    · exact fitsK9 hA _ _ _ _ _ _ _ _ _ _ _ _ _ _ _ _ _ _ _ _ _
  · have bad : Value.bool false = .bool (decide (FitsD ⟨zxid, kind, ses, turn, xid, time, path, data, owner, ver, cver, tmo, err, cfg, mem⟩ parts.length)) := by
      rw [decide_eq_false fun h => hk (by have := h.1; dsimp only at this; omega)]
    intro blk os out tape D hD
    conv => lhs; whnf
    refine split_dec (fun h1 => ?_) (fun h1 => ?_) <;> (conv => lhs; whnf)
    · exact (hD _).2 ⟨rfl, bad⟩
    refine split_dec (fun h2 => ?_) (fun h2 => ?_) <;> (conv => lhs; whnf)
    · exact (hD _).2 ⟨rfl, bad⟩
    exact absurd (by omega) hk

end
end Go.Proofs.YtpgpbnalgjbfbaaDoor

namespace Go.Proofs.YtpgpbnalgjbfbaaDoor
open Go.Sx Go.RowKit
noncomputable section
open Classical

/-- May a deed be a part? -/
def PartD (last : Int) (p : DeedD) : Prop :=
  p.h.zxid = 0 ∧ p.h.ses = 0 ∧ p.h.turn = 0 ∧ p.h.xid = 0 ∧ p.h.time = 0 ∧ FitsD p.h p.parts.length ∧ p.h.kind ≤ last ∧ (last = 2 → p.h.kind = 2)

def PartsD (ds : List DeedD) (least most last : Int) : Prop := least ≤ ds.length ∧ (ds.length : Int) ≤ most ∧ ∀ p ∈ ds, PartD last p

def partsS : FSpec := ⟨List DeedD × Int × Int × Int, fun g vs A => ∃ v, vs = [v, .int .i64 g.2.1, .int .i64 g.2.2.1, .int .u8 g.2.2.2] ∧ DeedsS A v g.1 ∧ HasA A, fun g _ A v A' => A' = A ∧ v = .bool (decide (PartsD g.1 g.2.1 g.2.2.1 g.2.2.2))⟩

def partsInv (A : Arena) (ds : List DeedD) (last : Int) : LInv := { γ := Nat, G := fun k => k ≤ ds.length ∧ ∀ p ∈ ds.take k, PartD last p, keepS := [3, 21, 22], keepB := [], sl := fun k => [(23, .v (.int .i64 k))], bl := fun _ => [], ar := fun _ => A, mu := fun k => ds.length - k }

set_option maxRecDepth 100000 in
set_option maxHeartbeats 0 in
theorem parts_ok : FOk Tryd.prog 25 partsS := by
  refine fok_v mixed fun ⟨ds, least, most, last⟩ vs A hp => ?_
  obtain ⟨v, rfl, ⟨rows, ⟨ao, c, rfl, hc, hl, ha1, ha2, ha3⟩, hsz, hR⟩, hA⟩ : ∃ v, vs = [v, .int .i64 least, .int .i64 most, .int .u8 last] ∧ DeedsS A v ds ∧ HasA A := hp
  have hC : CTSound Tryd.prog (lookC [specE 24 fitsS] noC) := lookC_sound (noC_sound _) (fun x hx => by
    simp only [List.mem_singleton] at hx
    subst hx; exact specE_ok fits_ok)
  refine ⟨_, tabO Tryd.prog _ noL 60 [(25, 0)], 60, hC, tabO_sound mixed hC (noL_sound _) _ _, fun blk os out tape D hD => ?_⟩
  have bad : ¬ PartsD ds least most last → Value.bool false = .bool (decide (PartsD ds least most last)) := fun h => by rw [decide_eq_false h]
  conv => lhs; whnf
  refine split_dec (fun h1 => ?_) (fun h1 => ?_) <;> (conv => lhs; whnf)
  · have h1 : (ds.length : Int) < least := h1
    exact (hD _).2 ⟨rfl, bad fun h => by have := h.1; omega⟩
  have h1 : ¬ (ds.length : Int) < least := h1
  refine split_dec (fun h2 => ?_) (fun h2 => ?_) <;> (conv => lhs; whnf)
  · have h2 : most < (ds.length : Int) := h2
    exact (hD _).2 ⟨rfl, bad fun h => by have := h.2.1; omega⟩
  have h2 : ¬ most < (ds.length : Int) := h2
  refine (hD _).2 ⟨partsInv A ds last, ⟨(0 : Nat), ⟨Nat.zero_le _, by simp⟩, ⟨rfl, trivial⟩, trivial, rfl⟩, fun (k : Nat) hG => ⟨⟨trivial, trivial⟩, trivial, ?_⟩⟩
  obtain ⟨hk, hall⟩ : k ≤ ds.length ∧ ∀ p ∈ ds.take k, PartD last p := hG
  conv => lhs; whnf
  refine split_dec (fun hlt => ?_) (fun hlt => ?_)
  · have hlt : (k : Int) < ds.length := hlt
    have hkn : k < ds.length := by omega
    obtain ⟨g, o, rfl, hra⟩ := Sl.at_ hc ha1 ha2 ha3 (by omega)
    obtain ⟨cs, hcs, hd⟩ := deed_at hra hR k hkn rfl
    conv => lhs; whnf
    refine go_in ⟨by omega, hlt⟩ ?_
    conv => lhs; whnf
    have hbad : ¬ PartD last ds[k] → ¬ PartsD ds least most last := fun h hp => h (hp.2.2 _ (List.getElem_mem hkn))
    have hgood : PartD last ds[k] → ∀ p ∈ ds.take (k + 1), PartD last p := fun h p hp => by
      rw [List.take_succ_eq_append_getElem hkn, List.mem_append] at hp
      rcases hp with hp | hp
      · exact hall p hp
      · rw [List.mem_singleton] at hp
        subst hp; exact h
    generalize ds[k] = d at hd hbad hgood
    obtain ⟨⟨zxid, kind, ses, turn, xid, time, path, data, owner, ver, cver, tmo, err, cfg, mem⟩, parts⟩ := d
    obtain ⟨a7, l7, k7, a14, l14, k14, a15, l15, k15, rfl⟩ := hd.form
    dsimp only [DeedD.h, DeedH.cells] at hcs hd
    simp only [PartD, DeedD.h, DeedD.parts] at hbad hgood
    refine go_rd hcs ?_
    conv => lhs; whnf
    refine split_b (fun h => ?_) (fun h3 => ?_) <;> (conv => lhs; whnf)
    · simp at h; exact (hD _).2 ⟨rfl, bad (hbad fun hP => by omega)⟩
    refine split_b (fun h => ?_) (fun h4 => ?_) <;> (conv => lhs; whnf)
    · simp at h; exact (hD _).2 ⟨rfl, bad (hbad fun hP => by omega)⟩
    refine split_b (fun h => ?_) (fun h5 => ?_) <;> (conv => lhs; whnf)
    · simp at h; exact (hD _).2 ⟨rfl, bad (hbad fun hP => by omega)⟩
    refine split_b (fun h => ?_) (fun h6 => ?_) <;> (conv => lhs; whnf)
    · simp at h; exact (hD _).2 ⟨rfl, bad (hbad fun hP => by omega)⟩
    refine split_b (fun h => ?_) (fun h7 => ?_) <;> (conv => lhs; whnf)
    · simp at h; exact (hD _).2 ⟨rfl, bad (hbad fun hP => by omega)⟩
    refine (hD _).2 ⟨_, ⟨_, rfl, hd, hA⟩, fun v A' hq => ?_⟩
    obtain ⟨rfl, rfl⟩ : A' = A ∧ v = .bool (decide (FitsD ⟨zxid, kind, ses, turn, xid, time, path, data, owner, ver, cver, tmo, err, cfg, mem⟩ parts.length)) := hq
    simp at h3 h4 h5 h6 h7
    conv => lhs; whnf
    refine split_nd (fun h8 => ?_) (fun h8 => ?_) <;> (conv => lhs; whnf)
    rotate_left
    · exact (hD _).2 ⟨rfl, bad (hbad fun hP => h8 hP.2.2.2.2.2.1)⟩
    refine split_dec (fun h9 => ?_) (fun h9 => ?_) <;> (conv => lhs; whnf)
    · exact (hD _).2 ⟨rfl, bad (hbad fun hP => by omega)⟩
    refine split_dec (fun h10 => ?_) (fun h10 => ?_) <;> (conv => lhs; whnf)
    · refine split_b (fun h => ?_) (fun h => ?_) <;> (conv => lhs; whnf)
      · simp at h
        exact (hD _).2 ⟨rfl, bad (hbad fun hP => by omega)⟩
      · simp at h
        exact (hD _).2 ⟨(k + 1 : Nat), ⟨⟨by omega, hgood ⟨h3, h4, h5, h6, h7, h8, by omega, fun _ => by omega⟩⟩, ⟨inc_slot (by omega), trivial⟩, trivial, rfl⟩, by show ds.length - (k + 1) < ds.length - k; omega, ⟨rfl, rfl, rfl, trivial⟩, trivial⟩
    · refine (hD _).2 ⟨(k + 1 : Nat), ⟨⟨by omega, hgood ⟨h3, h4, h5, h6, h7, h8, by omega, fun h => absurd h h10⟩⟩, ⟨inc_slot (by omega), trivial⟩, trivial, rfl⟩, by show ds.length - (k + 1) < ds.length - k; omega, ⟨rfl, rfl, rfl, trivial⟩, trivial⟩
  · have hlt : ¬ (k : Int) < ds.length := hlt
    conv => lhs; whnf
    refine (hD _).2 ⟨rfl, ?_⟩
    have hkn : k = ds.length := by omega
    rw [hkn, List.take_length] at hall
    have h9 : PartsD ds least most last := ⟨by omega, by omega, hall⟩
    show Value.bool true = .bool (decide (PartsD ds least most last))
    rw [decide_eq_true h9]

/-- Is a deed right? -/
def RightD (d : DeedD) : Prop :=
  1 ≤ d.h.zxid ∧ d.h.zxid / 4294967296 ≤ 1073741824 ∧ 0 ≤ d.h.ses ∧ 0 ≤ d.h.turn ∧ 0 ≤ d.h.xid ∧ 0 ≤ d.h.time ∧ FitsD d.h d.parts.length ∧
  (d.h.kind = 5 → PartsD d.parts 0 500 2) ∧ (d.h.kind = 7 → ensD d.h.cfg d.h.mem = 0 ∧ d.h.cfg = d.h.zxid) ∧ (d.h.kind = 8 → PartsD d.parts 1 16 3)

def rightS : FSpec := ⟨DeedD, fun d vs A => ∃ cs, vs = [deedV cs] ∧ DeedR A d cs ∧ HasA A, fun d _ A v A' => A' = A ∧ v = .bool (decide (RightD d))⟩

set_option maxRecDepth 100000 in
set_option maxHeartbeats 0 in
theorem right_ok : FOk Tryd.prog 19 rightS := by
  refine fok_v mixed fun d vs A hp => ?_
  obtain ⟨cs, rfl, hR, hA⟩ : ∃ cs, vs = [deedV cs] ∧ DeedR A d cs ∧ HasA A := hp
  have hC : CTSound Tryd.prog (lookC [specE 24 fitsS, specE 25 partsS, specE 26 ensS] noC) := lookC_sound (noC_sound _) (fun x hx => by
    simp only [List.mem_cons, List.not_mem_nil, or_false] at hx
    rcases hx with rfl | rfl | rfl
    · exact specE_ok fits_ok
    · exact specE_ok parts_ok
    · exact specE_ok ens_ok)
  refine ⟨_, noL, 60, hC, noL_sound _, fun blk os out tape D hD => ?_⟩
  have hR0 := hR
  obtain ⟨⟨zxid, kind, ses, turn, xid, time, path, data, owner, ver, cver, tmo, err, cfg, mem⟩, parts⟩ := d
  rw [DeedR] at hR
  dsimp only [DeedH.cells] at hR
  obtain ⟨vd, vm, vp, rows, rfl, -, ⟨⟨a7, k7, rfl, -⟩, -⟩, hM, hS, hlen, hRows⟩ := hR
  obtain ⟨a14, k14, rfl⟩ := hM.1.form
  obtain ⟨a15, k15, rfl⟩ := hS.form
  have bad : ¬ RightD (.mk ⟨zxid, kind, ses, turn, xid, time, path, data, owner, ver, cver, tmo, err, cfg, mem⟩ parts) → Value.bool false = .bool (decide (RightD (.mk ⟨zxid, kind, ses, turn, xid, time, path, data, owner, ver, cver, tmo, err, cfg, mem⟩ parts))) := fun h => by rw [decide_eq_false h]
  have fin : ∀ {b : Bool}, (b = true ↔ RightD (.mk ⟨zxid, kind, ses, turn, xid, time, path, data, owner, ver, cver, tmo, err, cfg, mem⟩ parts)) → Value.bool b = .bool (decide (RightD (.mk ⟨zxid, kind, ses, turn, xid, time, path, data, owner, ver, cver, tmo, err, cfg, mem⟩ parts))) := fun {b} h => by
    congr 1
    rw [Bool.eq_iff_iff, decide_eq_true_eq]
    exact h
  simp only [RightD, DeedD.h, DeedD.parts] at bad fin
  conv => lhs; whnf
  refine split_dec (fun h1 => ?_) (fun h1 => ?_) <;> (conv => lhs; whnf)
  · exact (hD _).2 ⟨rfl, bad fun h => by omega⟩
  have hz : zxid.fdiv (2 ^ min (Int.toNat 32) IntKind.i64.bits) = zxid / 4294967296 := by
    show zxid.fdiv 4294967296 = _
    rw [Int.fdiv_eq_ediv_of_nonneg _ (by decide)]
  refine split_dec (fun h2 => ?_) (fun h2 => ?_) <;> (conv => lhs; whnf)
  rotate_left
  · exact (hD _).2 ⟨rfl, bad fun h => by omega⟩
  refine split_nd (fun h3 => ?_) (fun h3 => ?_) <;> (conv => lhs; whnf)
  rotate_left
  · rw [hz] at h3
    exact (hD _).2 ⟨rfl, bad fun h => by omega⟩
  rw [hz] at h3
  refine split_dec (fun h4 => ?_) (fun h4 => ?_) <;> (conv => lhs; whnf)
  · exact (hD _).2 ⟨rfl, bad fun h => by omega⟩
  refine split_dec (fun h5 => ?_) (fun h5 => ?_) <;> (conv => lhs; whnf)
  · exact (hD _).2 ⟨rfl, bad fun h => by omega⟩
  refine split_dec (fun h6 => ?_) (fun h6 => ?_) <;> (conv => lhs; whnf)
  · exact (hD _).2 ⟨rfl, bad fun h => by omega⟩
  refine split_dec (fun h7 => ?_) (fun h7 => ?_) <;> (conv => lhs; whnf)
  · exact (hD _).2 ⟨rfl, bad fun h => by omega⟩
  refine (hD _).2 ⟨_, ⟨_, rfl, hR0, hA⟩, fun v A' hq => ?_⟩
  obtain ⟨rfl, rfl⟩ : A' = A ∧ v = .bool (decide (FitsD ⟨zxid, kind, ses, turn, xid, time, path, data, owner, ver, cver, tmo, err, cfg, mem⟩ parts.length)) := hq
  conv => lhs; whnf
  refine split_nd (fun h8 => ?_) (fun h8 => ?_) <;> (conv => lhs; whnf)
  rotate_left
  · exact (hD _).2 ⟨rfl, bad fun h => h8 h.2.2.2.2.2.2.1⟩
  refine split_dec (fun h9 => ?_) (fun h9 => ?_) <;> (conv => lhs; whnf)
  · refine (hD _).2 ⟨(parts, 0, 500, 2), ⟨_, rfl, ⟨rows, hS, hlen, hRows⟩, hA⟩, fun v A'' hq => ?_⟩
    obtain ⟨rfl, rfl⟩ : A'' = A' ∧ v = .bool (decide (PartsD parts 0 500 2)) := hq
    conv => lhs; whnf
    exact (hD _).2 ⟨rfl, fin (by
      rw [decide_eq_true_eq]
      exact ⟨fun h => ⟨by omega, by omega, by omega, by omega, by omega, by omega, h8, fun _ => h, fun h => by omega, fun h => by omega⟩, fun h => h.2.2.2.2.2.2.2.1 h9⟩)⟩
  refine split_dec (fun h10 => ?_) (fun h10 => ?_) <;> (conv => lhs; whnf)
  · refine (hD _).2 ⟨(cfg, mem), ⟨_, rfl, hM⟩, fun v A'' hq => ?_⟩
    obtain ⟨rfl, rfl⟩ : A'' = A' ∧ v = .int .i64 (ensD cfg mem) := hq
    conv => lhs; whnf
    refine split_dec (fun h11 => ?_) (fun h11 => ?_) <;> (conv => lhs; whnf)
    · exact (hD _).2 ⟨rfl, fin (by
        rw [cond_true, decide_eq_true_eq]
        exact ⟨fun h => ⟨by omega, by omega, by omega, by omega, by omega, by omega, h8, fun h => by omega, fun _ => ⟨h11, h⟩, fun h => by omega⟩, fun h => (h.2.2.2.2.2.2.2.2.1 h10).2⟩)⟩
    · exact (hD _).2 ⟨rfl, bad fun h => h11 (h.2.2.2.2.2.2.2.2.1 h10).1⟩
  refine split_dec (fun h12 => ?_) (fun h12 => ?_) <;> (conv => lhs; whnf)
  · refine (hD _).2 ⟨(parts, 1, 16, 3), ⟨_, rfl, ⟨rows, hS, hlen, hRows⟩, hA⟩, fun v A'' hq => ?_⟩
    obtain ⟨rfl, rfl⟩ : A'' = A' ∧ v = .bool (decide (PartsD parts 1 16 3)) := hq
    conv => lhs; whnf
    exact (hD _).2 ⟨rfl, fin (by
      rw [decide_eq_true_eq]
      exact ⟨fun h => ⟨by omega, by omega, by omega, by omega, by omega, by omega, h8, fun h => by omega, fun h => by omega, fun _ => h⟩, fun h => h.2.2.2.2.2.2.2.2.2 h12⟩)⟩
  · exact (hD _).2 ⟨rfl, fin (iff_of_true rfl ⟨by omega, by omega, by omega, by omega, by omega, by omega, h8, fun h => by omega, fun h => by omega, fun h => by omega⟩)⟩

end
end Go.Proofs.YtpgpbnalgjbfbaaDoor

namespace Go.Sx
noncomputable section

/-- What an append of m elements to it asks. -/
structure GrowM (A : Arena) (base : Option (Nat × Nat)) (n m c es bytes : Nat) (cs : List Value) : Prop where
  rd : baseRd A base (n * es) = some cs
  cap : c < n + m → Builtin.nextslicecap (n + m) c * bytes ≤ 281474976710656
  none_ : base = none → n = 0 ∧ c = 0
  room : ∀ (k : Nat), k = m * es → ∀ g o, base = some (g, o) → n + m ≤ c → A.Room g (o + n * es) k

theorem GrowR.formN {A1 A : Arena} {es : Nat} {e : TypeId} {n : Nat} {v : Value} {cs : List Value} (h : GrowR A1 A es e n v cs) :
    ∃ base c, v = .slice (addrA base) n c ∧ (base = none ∨ ∃ g, base = some (g, 0)) ∧ (∀ m bytes, bytes ≤ 65536 → n + m ≤ 1000000000 → GrowM A base n m c es bytes cs) ∧
    ∀ m ys v' A', ys.length = m * es → (∀ k, A.blk k = none → A1.blk k = none) → Appended A base n c es e cs ys m v' A' → GrowR A1 A' es e (n + m) v' (cs ++ ys) ∧ ∀ k o, A1.blk k = some o → A'.blk k = A.blk k := by
  obtain ⟨hl, ⟨rfl, rfl⟩ | ⟨g, nc, c, rfl, hn, hpos, hg, hb, hsz, ht⟩⟩ := h
  · have hcs : cs = [] := List.length_eq_zero_iff.1 (by rw [hl]; simp)
    subst hcs
    refine ⟨none, 0, rfl, .inl rfl, fun m bytes hby hn => ⟨by simp [baseRd], fun h => ?_, fun _ => ⟨rfl, rfl⟩, fun _ _ _ _ h => (by cases h)⟩, fun m ys v' A' hy hd ha => ?_⟩
    · have := nextcap_le h
      calc _ ≤ (2 * (0 + m) + 768) * 65536 := Nat.mul_le_mul this hby
        _ ≤ _ := by omega
    · rcases ha with ⟨h0, rfl, h3⟩ | ⟨hlt, g, nc, c, zs, rfl, hnc, hc, hz, hN⟩
      · have hm : m = 0 := by omega
        subst hm
        have hys : ys = [] := List.length_eq_zero_iff.1 (by rw [hy]; simp)
        subst hys
        rcases h3 with ⟨_, rfl⟩ | ⟨g, o, h, _⟩
        · exact ⟨GrowR.nil _ _ _ _, fun _ _ _ => rfl⟩
        · cases h
      · refine ⟨⟨by simp [hy], .inr ⟨g, nc, c, rfl, hnc, by omega, hd g hN.none_, hN.at_, ?_, ?_⟩⟩, fun k o hk => hN.other k fun e => (by subst e; rw [hd _ hN.none_] at hk; cases hk)⟩
        · rw [← Array.length_toList, hc]
          simp only [List.nil_append, List.length_append, hy, hz, Nat.zero_add]
          rw [← Nat.add_mul]; congr 1; omega
        · rw [hc, Nat.zero_add, List.nil_append, List.take_append_of_le_length (by omega), List.take_of_length_le (by omega)]
  · have hle : n * es ≤ nc * es := Nat.mul_le_mul_right _ hn
    refine ⟨some (g, 0), nc, rfl, .inr ⟨g, rfl⟩, fun m bytes hby hnb => ⟨?_, fun h => ?_, fun h => (by cases h), fun k hk g' o' h hlt => ?_⟩, fun m ys v' A' hy hd ha => ?_⟩
    · show (if n * es = 0 then some [] else A.rd g 0 (n * es)) = some cs
      by_cases h0 : n * es = 0
      · rw [if_pos h0]
        rw [h0] at hl; rw [List.length_eq_zero_iff.1 hl]
      · rw [if_neg h0, rd_mk hb (by omega)]; simp [ht]
    · have := nextcap_le h
      calc _ ≤ (2 * (n + m) + 768) * 65536 := Nat.mul_le_mul this hby
        _ ≤ _ := by omega
    · injection h with h; injection h with h1 h2; subst h1; subst h2; subst hk
      refine ⟨c, e, (0, 0), hb, ?_, .inl rfl⟩
      have := Nat.mul_le_mul_right es hlt
      rw [Nat.add_mul] at this; omega
    · rcases ha with ⟨h0, rfl, h3⟩ | ⟨h0, g', nc', c', zs, rfl, hnc, hc, hz, hN⟩
      · obtain ⟨c', k1, k2, k3⟩ : ∃ c', A'.blk g = some (.cells c' e (0, 0)) ∧ (∀ k, k ≠ g → A'.blk k = A.blk k) ∧ c'.toList = c.toList.take (n * es) ++ ys ++ c.toList.drop (n * es + ys.length) := by
          rcases h3 with ⟨rfl, rfl⟩ | ⟨g', o', h, hP⟩
          · exact ⟨c, hb, fun _ _ => rfl, by simp⟩
          · injection h with h; injection h with h1 h2; subst h1; subst h2
            obtain ⟨c0, t0, fz0, c', k1, k2, k3⟩ := hP.at_
            rw [hb] at k1
            injection k1 with k1; injection k1 with k1 k1' k1''
            subst k1; subst k1'; subst k1''
            exact ⟨c', k2, hP.other, by rw [k3]; simp⟩
        have hlen : n * es + m * es ≤ nc * es := by rw [← Nat.add_mul]; exact Nat.mul_le_mul_right _ h0
        have hcl : (cs ++ ys).length = (n + m) * es := by rw [List.length_append, hl, hy, Nat.add_mul]
        refine ⟨⟨hcl, .inr ⟨g, nc, c', rfl, h0, hpos, hg, k1, ?_, ?_⟩⟩, fun k o hk => k2 k fun e => (by subst e; rw [hg] at hk; cases hk)⟩
        · rw [← Array.length_toList, k3]
          simp only [List.length_append, List.length_take, List.length_drop, Array.length_toList, hsz, hy]
          omega
        · rw [k3, ht, List.take_append_of_le_length (by omega), List.take_of_length_le (by omega)]
      · have hcl : (cs ++ ys).length = (n + m) * es := by rw [List.length_append, hl, hy, Nat.add_mul]
        refine ⟨⟨hcl, .inr ⟨g', nc', c', rfl, hnc, by omega, hd g' hN.none_, hN.at_, ?_, ?_⟩⟩, fun k o hk => hN.other k fun e => (by subst e; rw [hd _ hN.none_] at hk; cases hk)⟩
        · rw [← Array.length_toList, hc]
          simp only [List.length_append, hl, hy, hz]
          rw [← Nat.add_mul, ← Nat.add_mul]; congr 1; omega
        · rw [hc, List.take_append_of_le_length (by omega), List.take_of_length_le (by omega)]

theorem addrA_inj {b b' : Option (Nat × Nat)} (h : addrA b = addrA b') : b = b' := by
  cases b with
  | none => cases b' with
    | none => rfl
    | some y => cases h
  | some x => cases b' with
    | none => cases h
    | some y =>
      obtain ⟨g, o⟩ := x
      obtain ⟨g', o'⟩ := y
      injection h with h
      injection h with h1 h2
      rw [h1, h2]

/-- The same, where the slice is spelled out. -/
theorem GrowR.formB {A1 A : Arena} {es : Nat} {e : TypeId} {n c : Nat} {base : Option (Nat × Nat)} {cs : List Value} (h : GrowR A1 A es e n (.slice (addrA base) n c) cs) :
    (∀ m bytes, bytes ≤ 65536 → n + m ≤ 1000000000 → GrowM A base n m c es bytes cs) ∧
    ∀ m ys v' A', ys.length = m * es → (∀ k, A.blk k = none → A1.blk k = none) → Appended A base n c es e cs ys m v' A' → GrowR A1 A' es e (n + m) v' (cs ++ ys) ∧ ∀ k o, A1.blk k = some o → A'.blk k = A.blk k := by
  obtain ⟨b', c', hv, _, h1, h2⟩ := h.formN
  injection hv with hv1 hv2 hv3
  have e := addrA_inj hv1
  subst e; subst hv3
  exact ⟨h1, h2⟩

theorem GrowR.cap_le {A1 A : Arena} {es : Nat} {e : TypeId} {n m c : Nat} {ao : Option Addr} {cs : List Value} (h : GrowR A1 A es e n (.slice ao m c) cs) : n ≤ c := by
  obtain ⟨_, ⟨rfl, h⟩ | ⟨g, nc, _, h, hn, _⟩⟩ := h
  · omega
  · injection h with h1 h2 h3
    omega

/-- What lies at the front of a row. -/
theorem src_take {A : Arena} {g o n q : Nat} {α : Type} {f : α → Value} {l : List α} (h : A.rd g 0 (n * 1) = some (l.map f)) (hq : q ≤ n) (ho : o = 0) : (if q = 0 then some [] else A.rd g o (q * 1)) = some ((l.take q).map f) := by
  subst ho
  by_cases h0 : q = 0
  · rw [if_pos h0, h0, List.take_zero]; rfl
  · rw [if_neg h0]
    have := rd_at h (i := 0) (m := q * 1) (by omega)
    rw [Nat.add_zero, List.drop_zero, Nat.mul_one, ← List.map_take] at this
    rw [Nat.mul_one]
    exact this

/-- What lies behind. -/
theorem src_drop {A : Arena} {g o n q : Nat} {α : Type} {f : α → Value} {l : List α} (h : A.rd g 0 (n * 1) = some (l.map f)) (hn : n = l.length) (ho : q < n → o = q) : (if n - q = 0 then some [] else A.rd g o ((n - q) * 1)) = some ((l.drop q).map f) := by
  by_cases h0 : n - q = 0
  · rw [if_pos h0, List.drop_eq_nil_of_le (by omega)]; rfl
  · rw [if_neg h0, ho (by omega)]
    have := rd_at h (i := q) (m := (n - q) * 1) (by omega)
    rw [Nat.zero_add] at this
    rw [this, ← List.map_drop, List.take_of_length_le (by rw [List.length_map, List.length_drop]; omega)]

/-- A row made by append, as a slice. -/
theorem GrowR.sl {A1 A : Arena} {es : Nat} {e : TypeId} {n : Nat} {v : Value} {cs : List Value} (h : GrowR A1 A es e n v cs) : Sl A es n v cs := by
  obtain ⟨h1, ⟨rfl, rfl⟩ | ⟨g, nc, c, rfl, h4, h4', h5, h6, h7, h8⟩⟩ := h
  · have hc : cs = [] := List.length_eq_zero_iff.1 (by rw [h1]; simp)
    subst hc
    exact Sl.nil _ _
  · have hle : n * es ≤ nc * es := Nat.mul_le_mul_right _ h4
    refine Sl.row h4 ?_
    rw [rd_mk h6 (by omega), List.drop_zero, h8]

end
end Go.Sx

namespace Go.Proofs.YtpgpbnalgjbfbaaDoor
open Go.Sx Go.RowKit
noncomputable section
open Classical

/-- A deed's head rings: what was rung so far, what is left. -/
def chStep (z : Int) (s : List RingD × List WatchD) (d : DeedD) : List RingD × List WatchD := (s.1 ++ chRings d.h.kind d.h.path z s.2, unrung d.h.kind d.h.path s.2)

/-- What a deed rings, and what is left. -/
def ringsW (d : DeedD) (ws : List WatchD) : List RingD × List WatchD := if RightD d then d.parts.foldl (chStep d.h.zxid) (chStep d.h.zxid ([], ws) d) else ([], ws)

theorem rung_len (k : Int) (p : ByteArray) (z : Int) (ws : List WatchD) : (chRings k p z ws).length + (unrung k p ws).length = ws.length := by
  rw [chRings, List.length_map, sortW_length, rung, unrung]
  induction ws with
  | nil => rfl
  | cons w ws ih =>
    by_cases h : rungK k p w = 0
    · rw [List.filter_cons, List.filter_cons, if_neg (by simp [h]), if_pos (by simp [h]), List.length_cons, List.length_cons]
      omega
    · rw [List.filter_cons, List.filter_cons, if_pos (by simp [h]), if_neg (by simp [h]), List.length_cons, List.length_cons]
      omega

theorem chStep_len (z : Int) (s : List RingD × List WatchD) (d : DeedD) : (chStep z s d).1.length + (chStep z s d).2.length = s.1.length + s.2.length := by
  have := rung_len d.h.kind d.h.path z s.2
  simp only [chStep, List.length_append]
  omega

theorem chSteps_len (z : Int) : ∀ (ds : List DeedD) (s : List RingD × List WatchD), (ds.foldl (chStep z) s).1.length + (ds.foldl (chStep z) s).2.length = s.1.length + s.2.length
  | [], _ => rfl
  | d :: ds, s => by rw [List.foldl_cons, chSteps_len z ds, chStep_len]

theorem unrung_ok {k : Int} {p : ByteArray} {ws : List WatchD} (h : WOk ws) : WOk (unrung k p ws) := fun w hw => h w (List.mem_filter.1 hw).1

theorem chSteps_ok (z : Int) : ∀ (ds : List DeedD) (s : List RingD × List WatchD), WOk s.2 → WOk (ds.foldl (chStep z) s).2
  | [], _, h => h
  | d :: ds, s, h => by rw [List.foldl_cons]; exact chSteps_ok z ds _ (unrung_ok h)

theorem chSteps_snoc (z : Int) (ds : List DeedD) (s : List RingD × List WatchD) {k : Nat} (hk : k < ds.length) : (ds.take (k + 1)).foldl (chStep z) s = chStep z ((ds.take k).foldl (chStep z) s) ds[k] := by
  rw [List.take_succ_eq_append_getElem hk, List.foldl_append]
  rfl

/-- A row made by append, as a source. -/
theorem grow_src {A1 A : Arena} {es n c : Nat} {e : TypeId} {base : Option (Nat × Nat)} {cs : List Value} (h : GrowR A1 A es e n (.slice (addrA base) n c) cs) :
    (base = none → n = 0 ∧ cs = []) ∧ ∀ g, base = some (g, 0) → (if n = 0 then some [] else A.rd g 0 (n * es)) = some cs := by
  obtain ⟨h1, h2 | ⟨g, nc, c', h3, h4, h4', h5, h6, h7, h8⟩⟩ := h
  · obtain ⟨rfl, h2⟩ := h2
    have hc : cs = [] := List.length_eq_zero_iff.1 (by rw [h1]; simp)
    exact ⟨fun _ => ⟨rfl, hc⟩, fun g _ => by rw [if_pos rfl, hc]⟩
  · injection h3 with h31 _ h33
    have e := addrA_inj (b := some (g, 0)) h31
    subst e
    refine ⟨fun h => (by cases h), fun g' hg' => ?_⟩
    injection hg' with hg'
    injection hg' with hg' _
    subst hg'
    by_cases h0 : n = 0
    · subst h0
      rw [if_pos rfl]
      have hc : cs = [] := List.length_eq_zero_iff.1 (by rw [h1]; simp)
      rw [hc]
    · have := Nat.mul_le_mul_right es h4
      rw [if_neg h0, rd_mk h6 (by omega), List.drop_zero, h8]

theorem ring_one (rs : List RingD) : ∀ v ∈ rs.flatMap RingD.cells, v.oneCell' = true := fun v hv => by
  obtain ⟨r, _, h⟩ := List.mem_flatMap.1 hv
  simp only [RingD.cells, List.mem_cons, List.not_mem_nil, or_false] at h
  rcases h with rfl | rfl | rfl | rfl | rfl <;> rfl

theorem rings_len : ∀ rs : List RingD, (rs.flatMap RingD.cells).length = rs.length * 5
  | [] => rfl
  | r :: rs => by rw [List.flatMap_cons, List.length_append, rings_len rs, List.length_cons, Nat.succ_mul]; show 5 + _ = _; omega

structure RiG where
  k : Nat
  A : Arena
  v : Value

def ringsInv (A0 : Arena) (t m : Nat) (s0 : List RingD × List WatchD) (z : Int) (ds : List DeedD) : LInv :=
  { γ := RiG, G := fun g => g.k ≤ ds.length ∧ TwTo A0 ⟨t, m, []⟩ ((ds.take g.k).foldl (chStep z) s0).2 g.A ∧ GrowR A0 g.A 5 56 ((ds.take g.k).foldl (chStep z) s0).1.length g.v (((ds.take g.k).foldl (chStep z) s0).1.flatMap RingD.cells),
    keepS := [0, 1, 3, 21, 22], keepB := [0], sl := fun g => [(5, .v g.v), (23, .v (.int .i64 g.k))], bl := fun _ => [], ar := fun g => g.A, mu := fun g => ds.length - g.k }

def bellRingS : FSpec := ⟨TwG × DeedD × Arena, fun g vs A => ∃ cs, vs = [.pointer (some ⟨g.1.t, 0, none⟩), deedV cs] ∧ TowerAt A g.1.t g.1.m g.1.ws ∧ WOk g.1.ws ∧ g.1.ws.length ≤ 1000000 ∧ DeedR g.2.2 g.2.1 cs ∧ g.2.2.Sub A ∧ g.2.2.blk g.1.m = none ∧ HasA A,
  fun g _ A v A' => TwTo A g.1 (ringsW g.2.1 g.1.ws).2 A' ∧ GrowR A A' 5 56 (ringsW g.2.1 g.1.ws).1.length v ((ringsW g.2.1 g.1.ws).1.flatMap RingD.cells)⟩

set_option maxRecDepth 100000 in
set_option maxHeartbeats 0 in
theorem bellRing_ok : FOk Tryd.prog 10 bellRingS := by
  refine fok_v mixed fun ⟨⟨t, m, ws⟩, d, B⟩ vs A hp => ?_
  obtain ⟨cs, rfl, hT, hok, hlen, hD0, hBA, hBm, hHas⟩ : ∃ cs, vs = [.pointer (some ⟨t, 0, none⟩), deedV cs] ∧ TowerAt A t m ws ∧ WOk ws ∧ ws.length ≤ 1000000 ∧ DeedR B d cs ∧ B.Sub A ∧ B.blk m = none ∧ HasA A := hp
  have hC : CTSound Tryd.prog (lookC [specE 20 bellChangeS, specE 19 rightS] noC) := lookC_sound (noC_sound _) (fun x hx => by
    simp only [List.mem_cons, List.not_mem_nil, or_false] at hx
    rcases hx with rfl | rfl
    · exact specE_ok bellChange_ok
    · exact specE_ok right_ok)
  have hDA := DeedR.sub hBA _ _ hD0
  obtain ⟨ot, hot⟩ := hT.top.dom
  obtain ⟨hd, parts⟩ := d
  have hD1 := hD0
  rw [DeedR] at hD0
  obtain ⟨vd, vm, vp, rows, rfl, _, ⟨hs1, _⟩, ⟨hs2, _⟩, hs3, hpl, hps⟩ := hD0
  obtain ⟨a7, k7, rfl⟩ := hs1.form
  obtain ⟨a14, k14, rfl⟩ := hs2.form
  obtain ⟨ao, c, rfl, hc, _, ha1, ha2, ha3⟩ := hs3
  refine ⟨_, tabO Tryd.prog _ noL 60 [(10, 0)], 60, hC, tabO_sound mixed hC (noL_sound _) _ _, fun blk os out tape D hD => ?_⟩
  conv => lhs; whnf
  refine (hD _).2 ⟨.mk hd parts, ⟨_, rfl, hDA, hHas⟩, fun v A1 hq => ?_⟩
  obtain ⟨h9, hv⟩ : A1 = A ∧ v = .bool (decide (RightD (.mk hd parts))) := hq
  subst h9; subst hv
  by_cases hr : RightD (.mk hd parts)
  · rw [decide_eq_true hr]
    conv => lhs; whnf
    refine (hD _).2 ⟨(⟨t, m, ws⟩, hd, hd.zxid), ⟨_, _, _, _, _, _, _, _, _, rfl, hT, hok, hlen⟩, fun v A2 hq => ?_⟩
    obtain ⟨hT2, hG2⟩ : TwTo A1 ⟨t, m, ws⟩ (unrung hd.kind hd.path ws) A2 ∧ GrowR A1 A2 5 56 (chRings hd.kind hd.path hd.zxid ws).length v ((chRings hd.kind hd.path hd.zxid ws).flatMap RingD.cells) := hq
    have hse : ringsW (.mk hd parts) ws = parts.foldl (chStep hd.zxid) (chRings hd.kind hd.path hd.zxid ws, unrung hd.kind hd.path ws) := by
      unfold ringsW
      rw [if_pos hr]
      rfl
    obtain ⟨s0, hs0⟩ : ∃ s0, s0 = (chRings hd.kind hd.path hd.zxid ws, unrung hd.kind hd.path ws) := ⟨_, rfl⟩
    rw [← hs0] at hse
    have hsl : s0.1.length + s0.2.length = ws.length := by rw [hs0]; exact rung_len _ _ _ _
    have hsk : WOk s0.2 := by rw [hs0]; exact unrung_ok hok
    have hT2 : TwTo A1 ⟨t, m, []⟩ s0.2 A2 := by rw [hs0]; exact ⟨hT2.tower, hT2.keep, hT2.dom⟩
    have hG2 : GrowR A1 A2 5 56 s0.1.length v (s0.1.flatMap RingD.cells) := by rw [hs0]; exact hG2
    conv => lhs; whnf
    refine (hD _).2 ⟨ringsInv A1 t m s0 hd.zxid parts, ⟨(⟨0, A2, v⟩ : RiG), ⟨⟨Nat.zero_le _, hT2, hG2⟩, ⟨rfl, rfl, trivial⟩, trivial, rfl⟩⟩, fun (g : RiG) hG => ⟨⟨trivial, trivial, trivial⟩, trivial, ?_⟩⟩
    obtain ⟨k, As, v1⟩ := g
    obtain ⟨hk, hTs, hGs⟩ : k ≤ parts.length ∧ TwTo A1 ⟨t, m, []⟩ ((parts.take k).foldl (chStep hd.zxid) s0).2 As ∧ GrowR A1 As 5 56 ((parts.take k).foldl (chStep hd.zxid) s0).1.length v1 (((parts.take k).foldl (chStep hd.zxid) s0).1.flatMap RingD.cells) := hG
    have hnl := chSteps_len hd.zxid (parts.take k) s0
    have hok2 := chSteps_ok hd.zxid (parts.take k) s0 hsk
    have hsn := fun h => chSteps_snoc hd.zxid parts s0 (k := k) h
    generalize hsg : (parts.take k).foldl (chStep hd.zxid) s0 = sg at hTs hGs hnl hok2 hsn
    obtain ⟨rs, wk⟩ := sg
    dsimp only at hTs hGs hnl hok2 hsn
    conv => lhs; whnf
    refine split_dec (fun hlt => ?_) (fun hlt => ?_)
    rotate_left
    · have hkl : k = parts.length := by
        have hlt : ¬ ((k : Int) < (parts.length : Int)) := hlt
        omega
      have hend : bellRingS.post (⟨t, m, ws⟩, .mk hd parts, B) [] A1 v1 As := by
        show TwTo A1 _ (ringsW _ _).2 As ∧ GrowR A1 As 5 _ (ringsW _ _).1.length _ _
        rw [hse]
        rw [hkl, List.take_length] at hsg
        rw [hsg]
        exact ⟨⟨hTs.tower, hTs.keep, hTs.dom⟩, hGs⟩
      conv => lhs; whnf
      exact (hD _).2 hend
    have hlt : (k : Int) < (parts.length : Int) := hlt
    have hkl : k < parts.length := by omega
    have i0 : (0 : Int) ≤ (k : Int) ∧ (k : Int) < (parts.length : Int) := by omega
    have hsn := hsn hkl
    have hBs : B.Sub As := fun b o hb => hTs.keep b o (fun e => by
      have e : b = m := e
      rw [e, hBm] at hb; cases hb) (hBA b o hb)
    obtain ⟨g, o, rfl, hra⟩ := Sl.at_ hc ha1 ha2 ha3 (by omega)
    obtain ⟨ck, hck, hdk⟩ := deed_at hra hps k hkl rfl
    have hck := rd_sub hBs hck
    obtain ⟨_, _, _, _, _, _, _, _, _, rfl⟩ := hdk.form
    obtain ⟨dk, hdk9⟩ : ∃ dk, dk = parts[k] := ⟨_, rfl⟩
    rw [← hdk9] at hck hdk hsn
    obtain ⟨⟨zxid, kind, ses, turn, xid, time, path, data, owner, ver, cver, tmo, err, cfg, mem⟩, pp⟩ := dk
    conv => lhs; whnf
    repeat (first | refine go_in i0 ?_ | refine go_rd hck ?_ | refine go_D hD rfl ?_
            conv => lhs; whnf)
    refine (hD _).2 ⟨(⟨t, m, wk⟩, ⟨zxid, kind, ses, turn, xid, time, path, data, owner, ver, cver, tmo, err, cfg, mem⟩, hd.zxid), ⟨_, _, _, _, _, _, _, _, _, rfl, hTs.tower, hok2, by show wk.length ≤ _; omega⟩, fun v A3 hq => ?_⟩
    obtain ⟨hT3, hG3⟩ : TwTo As ⟨t, m, wk⟩ (unrung kind path wk) A3 ∧ GrowR As A3 5 56 (chRings kind path hd.zxid wk).length v ((chRings kind path hd.zxid wk).flatMap RingD.cells) := hq
    have hrl := rung_len kind path hd.zxid wk
    have hsn : (parts.take (k + 1)).foldl (chStep hd.zxid) s0 = (rs ++ chRings kind path hd.zxid wk, unrung kind path wk) := hsn
    generalize chRings kind path hd.zxid wk = qs at hG3 hrl hsn
    generalize unrung kind path wk = wk3 at hT3 hrl hsn
    obtain ⟨em, cm, hom, _⟩ := hT.map
    have hGs3 : GrowR A1 A3 5 56 rs.length v1 (rs.flatMap RingD.cells) := grow_stay hGs fun b o h1 h2 => hT3.keep b o (fun e => by
      have e : b = m := e
      rw [e, hom] at h1; cases h1) h2
    have hT13 : TwTo A1 ⟨t, m, []⟩ wk3 A3 := ⟨hT3.tower, fun b o hb ho => hT3.keep b o hb (hTs.keep b o hb ho), fun b hb => hTs.dom b (hT3.dom b hb)⟩
    obtain ⟨n1, hn1⟩ : ∃ n, n = rs.length := ⟨_, rfl⟩
    obtain ⟨n2, hn2⟩ : ∃ n, n = qs.length := ⟨_, rfl⟩
    rw [← hn1] at hGs3
    rw [← hn2] at hG3
    obtain ⟨base, cp, rfl, hbase, -⟩ := hGs3.formN
    obtain ⟨b2, cp2, rfl, hb2, -⟩ := hG3.formN
    obtain ⟨hP, hA⟩ := hGs3.formB
    have hP := hP n2 40 (by omega) (by omega)
    obtain ⟨hsrc0, hsrc⟩ := grow_src hG3
    have hql := rings_len qs
    rw [← hn2] at hql
    have hfin : ∀ u A4, Appended A3 base n1 cp 5 56 (rs.flatMap RingD.cells) (qs.flatMap RingD.cells) n2 u A4 → (ringsInv A1 t m s0 hd.zxid parts).G ⟨k + 1, A4, u⟩ := fun u A4 hAp => by
      obtain ⟨hG4, hk4⟩ := hA _ _ _ _ hql hT13.dom hAp
      show k + 1 ≤ parts.length ∧ TwTo A1 ⟨t, m, []⟩ ((parts.take (k + 1)).foldl (chStep hd.zxid) s0).2 A4 ∧ GrowR A1 A4 5 56 ((parts.take (k + 1)).foldl (chStep hd.zxid) s0).1.length u (((parts.take (k + 1)).foldl (chStep hd.zxid) s0).1.flatMap RingD.cells)
      rw [hsn]
      refine ⟨hkl, ⟨hT13.tower.keep (hk4 t _ hot) (hk4 m _ hom), fun b o hb ho => by rw [hk4 b o ho]; exact hT13.keep b o hb ho, fun b hb => hT13.dom b (app_dom hAp b hb)⟩, ?_⟩
      show GrowR A1 A4 5 _ (rs ++ qs).length u ((rs ++ qs).flatMap RingD.cells)
      rw [List.length_append, List.flatMap_append, ← hn1, ← hn2]
      exact hG4
    rcases hbase with rfl | ⟨g1, rfl⟩ <;> rcases hb2 with rfl | ⟨g2, rfl⟩ <;> (conv => lhs; whnf)
    all_goals
      refine (hD _).2 ⟨rs.flatMap RingD.cells, qs.flatMap RingD.cells, hP.rd, by first | exact hsrc _ rfl | (show (if n2 = 0 then some [] else none) = _; rw [if_pos (hsrc0 rfl).1, (hsrc0 rfl).2]), hql, ring_one qs, by show n1 + n2 ≤ 9223372036854775807; omega, hP.cap, rfl, hP.none_, fun g' o' he' hle' _ => hP.room _ hql g' o' he' hle', fun u A4 hAp => ?_⟩
      have hG4 := hfin u A4 hAp
      conv => lhs; whnf
      exact (hD _).2 ⟨(⟨k + 1, A4, u⟩ : RiG), ⟨hG4, ⟨rfl, inc_slot (by omega), trivial⟩, trivial, rfl⟩, by show parts.length - (k + 1) < parts.length - k; omega, ⟨same1 rfl rfl, same1 rfl rfl, same1 rfl rfl, same1 rfl rfl, same1 rfl rfl, trivial⟩, ⟨same1 rfl rfl, trivial⟩⟩
  · rw [decide_eq_false hr]
    have hend : bellRingS.post (⟨t, m, ws⟩, .mk hd parts, B) [] A1 (.slice none 0 0) A1 := by
      show TwTo A1 _ (ringsW _ _).2 A1 ∧ GrowR A1 A1 5 _ (ringsW _ _).1.length _ _
      unfold ringsW
      rw [if_neg hr]
      exact ⟨.same hT, GrowR.nil _ _ _ _⟩
    conv => lhs; whnf
    exact (hD _).2 hend

end
end Go.Proofs.YtpgpbnalgjbfbaaDoor

namespace Go.Proofs.YtpgpbnalgjbfbaaDoor
open Go.Sx Go.RowKit
noncomputable section
open Classical

/-- A watch, a ring of the connection -1. -/
def ownP (w : WatchD) : Bool := decide (w.conn = -1)
def ownQ (r : RingD) : Bool := decide (r.conn = -1)

theorem filter_comm' {α : Type} (f g : α → Bool) (l : List α) : (l.filter f).filter g = (l.filter g).filter f := by
  rw [List.filter_filter, List.filter_filter]
  exact List.filter_congr fun _ _ => Bool.and_comm _ _

theorem sortW_filter (ws : List WatchD) (f : WatchD → Bool) : sortW (ws.filter f) = (sortW ws).filter f :=
  sorted_eq (sortW_pw _) ((sortW_pw ws).filter f) ((sortW_perm _).trans ((sortW_perm ws).filter f).symm)

theorem chRings_own (k : Int) (p : ByteArray) (z : Int) (ws : List WatchD) : chRings k p z (ws.filter ownP) = (chRings k p z ws).filter ownQ := by
  unfold chRings rung
  rw [filter_comm', sortW_filter, List.filter_map]
  rfl

theorem unrung_own (k : Int) (p : ByteArray) (ws : List WatchD) : unrung k p (ws.filter ownP) = (unrung k p ws).filter ownP := by
  unfold unrung
  rw [filter_comm']

theorem chSteps_own (z : Int) : ∀ (ds : List DeedD) (s : List RingD × List WatchD), ds.foldl (chStep z) (s.1.filter ownQ, s.2.filter ownP) = ((ds.foldl (chStep z) s).1.filter ownQ, (ds.foldl (chStep z) s).2.filter ownP)
  | [], _ => rfl
  | d :: ds, s => by
    rw [List.foldl_cons, List.foldl_cons, ← chSteps_own z ds]
    congr 1
    unfold chStep
    dsimp only
    rw [chRings_own, unrung_own, List.filter_append]

theorem ringsW_own (d : DeedD) (ws : List WatchD) : ringsW d (ws.filter ownP) = ((ringsW d ws).1.filter ownQ, (ringsW d ws).2.filter ownP) := by
  unfold ringsW
  by_cases hr : RightD d
  · rw [if_pos hr, if_pos hr, ← chSteps_own]
    congr 1
    unfold chStep
    dsimp only
    rw [chRings_own, unrung_own, List.filter_append]
    rfl
  · rw [if_neg hr, if_neg hr]
    rfl

theorem wPut_own {w : WatchD} (h : w.conn ≠ -1) (ws : List WatchD) : (wPut w ws).filter ownP = ws.filter ownP := by
  unfold wPut
  split
  · rfl
  · have : ownP w = false := decide_eq_false h
    rw [List.filter_append, List.filter_cons_of_neg (by rw [this]; exact Bool.false_ne_true), List.filter_nil, List.append_nil]

theorem ringsW_tot (d : DeedD) (ws : List WatchD) : (ringsW d ws).1.length + (ringsW d ws).2.length = ws.length := by
  unfold ringsW
  split
  · have h1 := chSteps_len d.h.zxid d.parts (chStep d.h.zxid ([], ws) d)
    have h2 := chStep_len d.h.zxid ([], ws) d
    have h3 : ([] : List RingD).length + ws.length = ws.length := by simp
    dsimp only at h2
    omega
  · simp

theorem ringsW_ok {d : DeedD} {ws : List WatchD} (h : WOk ws) : WOk (ringsW d ws).2 := by
  unfold ringsW
  split
  · exact chSteps_ok _ _ _ (unrung_ok h)
  · exact h

theorem wPut_ok {w : WatchD} {ws : List WatchD} (h : WOk ws) (hw : 1 ≤ w.sort ∧ w.sort ≤ 3) : WOk (wPut w ws) := by
  unfold wPut
  split
  · exact h
  · intro x hx
    rcases List.mem_append.1 hx with hx | hx
    · exact h x hx
    · rw [List.mem_singleton] at hx
      subst hx
      exact hw

theorem wPut_len (w : WatchD) (ws : List WatchD) : (wPut w ws).length ≤ ws.length + 1 := by
  unfold wPut
  split
  · omega
  · rw [List.length_append, List.length_singleton]; omega

/-- Two towers side by side. -/
structure TwTwo (A0 A : Arena) (t1 m1 : Nat) (ws1 : List WatchD) (t2 m2 : Nat) (ws2 : List WatchD) : Prop where
  sub : A0.Sub A
  a : TowerAt A t1 m1 ws1
  b : TowerAt A t2 m2 ws2
  a0 : A0.blk m1 = none
  b0 : A0.blk m2 = none
  ne1 : m1 ≠ t2
  ne2 : m1 ≠ m2
  ne3 : t1 ≠ m2

theorem TwTwo.stepA {A0 A A' : Arena} {t1 m1 t2 m2 : Nat} {ws1 ws2 ws1' : List WatchD} (h : TwTwo A0 A t1 m1 ws1 t2 m2 ws2) {ws : List WatchD} (k : TwTo A ⟨t1, m1, ws⟩ ws1' A') : TwTwo A0 A' t1 m1 ws1' t2 m2 ws2 := by
  refine ⟨fun b o hb => k.keep b o (fun e => ?_) (h.sub b o hb), k.tower, ⟨h.b.top.sub fun o ho => k.keep t2 o h.ne1.symm ho, h.b.map.sub fun o ho => k.keep m2 o h.ne2.symm ho, h.b.nd, h.b.ne⟩, h.a0, h.b0, h.ne1, h.ne2, h.ne3⟩
  have e : b = m1 := e
  rw [e, h.a0] at hb; cases hb

theorem TwTwo.stepB {A0 A A' : Arena} {t1 m1 t2 m2 : Nat} {ws1 ws2 ws2' : List WatchD} (h : TwTwo A0 A t1 m1 ws1 t2 m2 ws2) {ws : List WatchD} (k : TwTo A ⟨t2, m2, ws⟩ ws2' A') : TwTwo A0 A' t1 m1 ws1 t2 m2 ws2' := by
  refine ⟨fun b o hb => k.keep b o (fun e => ?_) (h.sub b o hb), ⟨h.a.top.sub fun o ho => k.keep t1 o h.ne3 ho, h.a.map.sub fun o ho => k.keep m1 o h.ne2 ho, h.a.nd, h.a.ne⟩, k.tower, h.a0, h.b0, h.ne1, h.ne2, h.ne3⟩
  have e : b = m2 := e
  rw [e, h.b0] at hb; cases hb

theorem TwTwo.more {A0 A A' : Arena} {t1 m1 t2 m2 : Nat} {ws1 ws2 : List WatchD} (h : TwTwo A0 A t1 m1 ws1 t2 m2 ws2) (s : A.Sub A') : TwTwo A0 A' t1 m1 ws1 t2 m2 ws2 :=
  ⟨h.sub.trans s, ⟨h.a.top.sub fun _ ho => s _ _ ho, h.a.map.sub fun _ ho => s _ _ ho, h.a.nd, h.a.ne⟩, ⟨h.b.top.sub fun _ ho => s _ _ ho, h.b.map.sub fun _ ho => s _ _ ho, h.b.nd, h.b.ne⟩, h.a0, h.b0, h.ne1, h.ne2, h.ne3⟩

end
end Go.Proofs.YtpgpbnalgjbfbaaDoor

namespace Go.Proofs.YtpgpbnalgjbfbaaDoor
open Go.Sx Go.RowKit
noncomputable section
open Classical

theorem ring_at {A : Arena} {g o n : Nat} {l : List RingD} (h : A.rd g o (n * 5) = some (l.flatMap RingD.cells)) (k : Nat) (hk : k < l.length) (hn : n = l.length) : A.rd g (o + k * 5) 5 = some l[k].cells := by
  have h' : A.rd g o (n * 5) = some (l.map RingD.cells).flatten := by rw [h, List.flatMap_def]
  have := rows_at h' (fun r hr => by obtain ⟨w, _, rfl⟩ := List.mem_map.1 hr; rfl) k (by simpa using hk) (by simpa using hn)
  rw [this]
  simp

def isEqS : FSpec := ⟨List RingD, fun l vs A => ∃ x y, vs = [x, y] ∧ Sl A 5 l.length x (l.flatMap RingD.cells) ∧ Sl A 5 l.length y (l.flatMap RingD.cells) ∧ l.length ≤ 1000000000, fun _ _ A v A' => A' = A ∧ v = .bool true⟩

set_option maxRecDepth 100000 in
set_option maxHeartbeats 0 in
theorem isEq_ok : FOk Tryd.prog 11 isEqS := by
  refine fok_v mixed fun (l : List RingD) vs A hp => ?_
  obtain ⟨x, y, rfl, ⟨ao, c, rfl, hc, _, ha1, ha2, ha3⟩, ⟨bo, d, rfl, hd, _, hb1, hb2, hb3⟩, hl⟩ : ∃ x y, vs = [x, y] ∧ Sl A 5 l.length x (l.flatMap RingD.cells) ∧ Sl A 5 l.length y (l.flatMap RingD.cells) ∧ l.length ≤ 1000000000 := hp
  refine ⟨noC, tabO Tryd.prog noC noL 60 [(11, 0)], 60, noC_sound _, tabO_sound mixed (noC_sound _) (noL_sound _) _ _, fun blk os out tape D hD => ?_⟩
  have hend : isEqS.post l [] A (.bool true) A := ⟨rfl, rfl⟩
  conv => lhs; whnf
  refine split_nd (fun _ => ?_) (fun h => absurd rfl h)
  conv => lhs; whnf
  refine (hD _).2 ⟨cnt A 5 [0, 1] [] l.length fun _ => True, ⟨(0 : Nat), ⟨Nat.zero_le _, trivial⟩, ⟨rfl, trivial⟩, trivial, rfl⟩, fun (k : Nat) hk => ⟨⟨trivial, trivial⟩, trivial, ?_⟩⟩
  simp only [cnt] at hk
  conv => lhs; whnf
  refine split_dec (fun hlt => ?_) (fun hlt => ?_)
  rotate_left
  · conv => lhs; whnf
    exact (hD _).2 hend
  have hlt : (k : Int) < (l.length : Int) := hlt
  have hkl : k < l.length := by omega
  have i0 : (0 : Int) ≤ (k : Int) ∧ (k : Int) < (l.length : Int) := by omega
  obtain ⟨g, o, rfl, hra⟩ := Sl.at_ hc ha1 ha2 ha3 (by omega)
  obtain ⟨g', o', rfl, hrb⟩ := Sl.at_ hd hb1 hb2 hb3 (by omega)
  have h1 := ring_at hra k hkl rfl
  have h2 := ring_at hrb k hkl rfl
  obtain ⟨w, hw⟩ : ∃ w, w = l[k] := ⟨_, rfl⟩
  rw [← hw] at h1 h2
  obtain ⟨cn, kd, so, p, z⟩ := w
  have hbb : beqL p.data.toList p.data.toList = true := beqL_iff.2 rfl
  conv => lhs; whnf
  repeat (first | refine go_in i0 ?_ | refine go_rd h1 ?_ | refine go_rd h2 ?_ | refine go_D hD rfl ?_ | refine go_D hD (by kernel_rfl) ?_
          conv => lhs; whnf)
  refine split_b (fun hb => ?_) (fun hb => ?_)
  · rw [hbb] at hb
    simp at hb
  conv => lhs; whnf
  exact (hD _).2 ⟨(k + 1 : Nat), ⟨⟨hkl, trivial⟩, ⟨inc_slot (by omega), trivial⟩, trivial, rfl⟩, by show l.length - (k + 1) < l.length - k; omega, ⟨same1 rfl rfl, same1 rfl rfl, trivial⟩, trivial⟩

end
end Go.Proofs.YtpgpbnalgjbfbaaDoor

namespace Go.Proofs.YtpgpbnalgjbfbaaDoor
open Go.Sx Go.RowKit
noncomputable section
open Classical

/-- A node, as far as watches look at it. -/
structure NdD where
  path : ByteArray
  czxid : Int
  mzxid : Int
  pzxid : Int
  ctime : Int
  mtime : Int
  ver : Int
  cver : Int
  owner : Int
  len : Int
  kids : Int

def NdD.cells (n : NdD) (vd : Value) : List Value := [.string n.path, vd, .int .i64 n.czxid, .int .i64 n.mzxid, .int .i64 n.pzxid, .int .i64 n.ctime, .int .i64 n.mtime, .int .i64 n.ver, .int .i64 n.cver, .int .i64 n.owner, .int .i64 n.len, .int .i64 n.kids]

structure EvD where
  kind : Int
  sort : Int
  path : ByteArray
  z : Int
deriving DecidableEq

def EvD.cells (e : EvD) : List Value := [.int .u8 e.kind, .int .u8 e.sort, .string e.path, .int .i64 e.z]

def noEv : EvD := ⟨0, 0, ⟨#[]⟩, 0⟩

def mxI (a b : Int) : Int := bif decide (a < b) then b else a

/-- What a watch tells as it is set again: its kind (0: nothing) and zxid. -/
def toldK (sort last : Int) (n : NdD) (there : Bool) : Int × Int :=
  if there = false then (if sort = 2 then (0, 0) else (2, 0))
  else if sort = 3 ∧ last < mxI n.czxid n.pzxid then (4, mxI n.czxid n.pzxid)
  else if sort = 2 ∧ last < n.czxid then (1, n.czxid)
  else if sort ≠ 3 ∧ last < n.mzxid then (3, n.mzxid)
  else (0, 0)

def againW (w : WatchD) (last : Int) (n : NdD) (there : Bool) (ws : List WatchD) : EvD × Bool × List WatchD :=
  if mayD w.sort w.path = true then
    if (toldK w.sort last n there).1 = 0 then (noEv, false, wPut w ws) else (⟨(toldK w.sort last n there).1, w.sort, w.path, (toldK w.sort last n there).2⟩, true, ws.erase w)
  else (noEv, false, ws)

def bellAgainS : FSpec := ⟨TwG × WatchD × Int × NdD × Bool, fun g vs A => ∃ a l k, vs = [.pointer (some ⟨g.1.t, 0, none⟩), .int .i64 g.2.1.conn, .int .u8 g.2.1.sort, .string g.2.1.path, .int .i64 g.2.2.1, .agg (g.2.2.2.1.cells (.slice a l k)).toArray, .bool g.2.2.2.2] ∧ TowerAt A g.1.t g.1.m g.1.ws,
  fun g _ A v A' => v = .tuple #[.agg (againW g.2.1 g.2.2.1 g.2.2.2.1 g.2.2.2.2 g.1.ws).1.cells.toArray, .bool (againW g.2.1 g.2.2.1 g.2.2.2.1 g.2.2.2.2 g.1.ws).2.1] ∧ TwTo A g.1 (againW g.2.1 g.2.2.1 g.2.2.2.1 g.2.2.2.2 g.1.ws).2.2 A'⟩

set_option maxRecDepth 100000 in
set_option maxHeartbeats 0 in
theorem bellAgain_ok : FOk Tryd.prog 16 bellAgainS := by
  refine fok_v mixed fun ⟨⟨t, m, ws⟩, ⟨conn, sort, p⟩, last, ⟨np, cz, mz, pz, ct, mt, ve, cv, ow, le, ki⟩, there⟩ vs A hp => ?_
  obtain ⟨a, l, k, rfl, hT⟩ : ∃ a l k, vs = [.pointer (some ⟨t, 0, none⟩), .int .i64 conn, .int .u8 sort, .string p, .int .i64 last, .agg (NdD.cells ⟨np, cz, mz, pz, ct, mt, ve, cv, ow, le, ki⟩ (.slice a l k)).toArray, .bool there] ∧ TowerAt A t m ws := hp
  have hC : CTSound Tryd.prog (lookC [specE 18 mayS, specE 9 bellAddS] noC) := lookC_sound (noC_sound _) (fun x hx => by
    simp only [List.mem_cons, List.not_mem_nil, or_false] at hx
    rcases hx with rfl | rfl
    · exact specE_ok may_ok
    · exact specE_ok bellAdd_ok)
  refine ⟨_, noL, 60, hC, noL_sound _, fun blk os out tape D hD => ?_⟩
  have htop : A.rd t 0 1 = some [.map (some m)] := hT.top.rd (o := 0) (n := 1) (by show 0 + 1 ≤ 1; omega)
  conv => lhs; whnf
  refine (hD _).2 ⟨((⟨t, m, ws⟩ : TwG), sort, p), ⟨rfl, hT⟩, fun v A1 hq => ?_⟩
  obtain ⟨h9, hv⟩ : A1 = A ∧ v = .bool (mayD sort p) := hq
  subst h9
  have hag : mayD sort p = true → againW ⟨conn, sort, p⟩ last ⟨np, cz, mz, pz, ct, mt, ve, cv, ow, le, ki⟩ there ws = if (toldK sort last ⟨np, cz, mz, pz, ct, mt, ve, cv, ow, le, ki⟩ there).1 = 0 then (noEv, false, wPut ⟨conn, sort, p⟩ ws) else (⟨(toldK sort last ⟨np, cz, mz, pz, ct, mt, ve, cv, ow, le, ki⟩ there).1, sort, p, (toldK sort last ⟨np, cz, mz, pz, ct, mt, ve, cv, ow, le, ki⟩ there).2⟩, true, ws.erase ⟨conn, sort, p⟩) := fun h => if_pos h
  cases hm : mayD sort p with
  | false =>
    rw [hm] at hv
    subst hv
    have hend : bellAgainS.post ((⟨t, m, ws⟩ : TwG), ⟨conn, sort, p⟩, last, ⟨np, cz, mz, pz, ct, mt, ve, cv, ow, le, ki⟩, there) [] A1 (.tuple #[.agg #[.int .u8 0, .int .u8 0, .string ⟨#[]⟩, .int .i64 0], .bool false]) A1 := by
      have : againW ⟨conn, sort, p⟩ last ⟨np, cz, mz, pz, ct, mt, ve, cv, ow, le, ki⟩ there ws = (noEv, false, ws) := if_neg (by rw [hm]; exact Bool.false_ne_true)
      show _ = Value.tuple #[.agg (againW _ _ _ _ _).1.cells.toArray, .bool (againW _ _ _ _ _).2.1] ∧ TwTo A1 _ (againW _ _ _ _ _).2.2 A1
      rw [this]
      exact ⟨rfl, .same hT⟩
    conv => lhs; whnf
    exact (hD _).2 hend
  | true =>
    rw [hm] at hv
    subst hv
    have hag := hag hm
    -- LEAVES
    cases there with
    | false =>
      by_cases h2 : sort = 2
      · subst h2
        have htk : toldK 2 last ⟨np, cz, mz, pz, ct, mt, ve, cv, ow, le, ki⟩ false = (0, 0) := by
          unfold toldK
          rfl
        rw [htk] at hag
        conv => lhs; whnf
        repeat (first | refine go_rd htop ?_ | refine go_D hD rfl ?_
                conv => lhs; whnf)
        refine (hD _).2 ⟨((⟨t, m, ws⟩ : TwG), ⟨conn, 2, p⟩), ⟨rfl, hT⟩, fun v A2 hq => ?_⟩
        have hq : TwTo A1 ⟨t, m, ws⟩ (if mayD 2 p = true then wPut ⟨conn, 2, p⟩ ws else ws) A2 := hq
        rw [if_pos hm] at hq
        have hend : bellAgainS.post ((⟨t, m, ws⟩ : TwG), ⟨conn, 2, p⟩, last, ⟨np, cz, mz, pz, ct, mt, ve, cv, ow, le, ki⟩, false) [] A1 (.tuple #[.agg #[.int .u8 0, .int .u8 0, .string ⟨#[]⟩, .int .i64 0], .bool false]) A2 := by
          show _ = Value.tuple #[.agg (againW _ _ _ _ _).1.cells.toArray, .bool (againW _ _ _ _ _).2.1] ∧ TwTo A1 _ (againW _ _ _ _ _).2.2 A2
          rw [hag]
          exact ⟨rfl, hq⟩
        conv => lhs; whnf
        exact (hD _).2 hend
      · have htk : toldK sort last ⟨np, cz, mz, pz, ct, mt, ve, cv, ow, le, ki⟩ false = (2, 0) := by
          unfold toldK
          rw [if_pos rfl, if_neg h2]
        rw [htk] at hag
        conv => lhs; whnf
        repeat (first | refine no_dec h2 ?_ | refine go_rd htop ?_ | refine go_D hD rfl ?_
                conv => lhs; whnf)
        refine (hD _).2 ⟨by kernel_rfl, _, hT.map, wL_alike ⟨conn, sort, p⟩ ws, fun A2 hM ho _ => ?_⟩
        have hM : MapAt A2 m (delL (wKey ⟨conn, sort, p⟩) (wL ws)) := hM
        rw [wL_del] at hM
        have hend : bellAgainS.post ((⟨t, m, ws⟩ : TwG), ⟨conn, sort, p⟩, last, ⟨np, cz, mz, pz, ct, mt, ve, cv, ow, le, ki⟩, false) [] A1 (.tuple #[.agg #[.int .u8 2, .int .u8 sort, .string p, .int .i64 0], .bool true]) A2 := by
          show _ = Value.tuple #[.agg (againW _ _ _ _ _).1.cells.toArray, .bool (againW _ _ _ _ _).2.1] ∧ TwTo A1 _ (againW _ _ _ _ _).2.2 A2
          rw [hag]
          exact ⟨rfl, .of_set hT hM ho (hT.nd.erase _)⟩
        conv => lhs; whnf
        exact (hD _).2 hend
    | true =>
      by_cases h3 : sort = 3
      · subst h3
        by_cases hl : last < mxI cz pz
        · have htk : toldK 3 last ⟨np, cz, mz, pz, ct, mt, ve, cv, ow, le, ki⟩ true = (4, (mxI cz pz)) := by
            unfold toldK
            rw [if_neg (by simp), if_pos ⟨rfl, hl⟩]
          rw [htk] at hag
          conv => lhs; whnf
          repeat (first | refine go_dec hl ?_ | refine go_rd htop ?_ | refine go_D hD rfl ?_
                  conv => lhs; whnf)
          refine (hD _).2 ⟨by kernel_rfl, _, hT.map, wL_alike ⟨conn, 3, p⟩ ws, fun A2 hM ho _ => ?_⟩
          have hM : MapAt A2 m (delL (wKey ⟨conn, 3, p⟩) (wL ws)) := hM
          rw [wL_del] at hM
          have hend : bellAgainS.post ((⟨t, m, ws⟩ : TwG), ⟨conn, 3, p⟩, last, ⟨np, cz, mz, pz, ct, mt, ve, cv, ow, le, ki⟩, true) [] A1 (.tuple #[.agg #[.int .u8 4, .int .u8 3, .string p, .int .i64 (mxI cz pz)], .bool true]) A2 := by
            show _ = Value.tuple #[.agg (againW _ _ _ _ _).1.cells.toArray, .bool (againW _ _ _ _ _).2.1] ∧ TwTo A1 _ (againW _ _ _ _ _).2.2 A2
            rw [hag]
            exact ⟨rfl, .of_set hT hM ho (hT.nd.erase _)⟩
          conv => lhs; whnf
          exact (hD _).2 hend
        · have htk : toldK 3 last ⟨np, cz, mz, pz, ct, mt, ve, cv, ow, le, ki⟩ true = (0, 0) := by
            unfold toldK
            rw [if_neg (by simp), if_neg (fun h => hl h.2), if_neg (by omega), if_neg (by omega)]
          rw [htk] at hag
          conv => lhs; whnf
          repeat (first | refine no_dec hl ?_ | refine go_rd htop ?_ | refine go_D hD rfl ?_
                  conv => lhs; whnf)
          refine (hD _).2 ⟨((⟨t, m, ws⟩ : TwG), ⟨conn, 3, p⟩), ⟨rfl, hT⟩, fun v A2 hq => ?_⟩
          have hq : TwTo A1 ⟨t, m, ws⟩ (if mayD 3 p = true then wPut ⟨conn, 3, p⟩ ws else ws) A2 := hq
          rw [if_pos hm] at hq
          have hend : bellAgainS.post ((⟨t, m, ws⟩ : TwG), ⟨conn, 3, p⟩, last, ⟨np, cz, mz, pz, ct, mt, ve, cv, ow, le, ki⟩, true) [] A1 (.tuple #[.agg #[.int .u8 0, .int .u8 0, .string ⟨#[]⟩, .int .i64 0], .bool false]) A2 := by
            show _ = Value.tuple #[.agg (againW _ _ _ _ _).1.cells.toArray, .bool (againW _ _ _ _ _).2.1] ∧ TwTo A1 _ (againW _ _ _ _ _).2.2 A2
            rw [hag]
            exact ⟨rfl, hq⟩
          conv => lhs; whnf
          exact (hD _).2 hend
      · by_cases h2 : sort = 2
        · subst h2
          by_cases hc : last < cz
          · have htk : toldK 2 last ⟨np, cz, mz, pz, ct, mt, ve, cv, ow, le, ki⟩ true = (1, cz) := by
              unfold toldK
              rw [if_neg (by simp), if_neg (by omega), if_pos ⟨rfl, hc⟩]
            rw [htk] at hag
            conv => lhs; whnf
            repeat (first | refine go_dec hc ?_ | refine go_rd htop ?_ | refine go_D hD rfl ?_
                    conv => lhs; whnf)
            refine (hD _).2 ⟨by kernel_rfl, _, hT.map, wL_alike ⟨conn, 2, p⟩ ws, fun A2 hM ho _ => ?_⟩
            have hM : MapAt A2 m (delL (wKey ⟨conn, 2, p⟩) (wL ws)) := hM
            rw [wL_del] at hM
            have hend : bellAgainS.post ((⟨t, m, ws⟩ : TwG), ⟨conn, 2, p⟩, last, ⟨np, cz, mz, pz, ct, mt, ve, cv, ow, le, ki⟩, true) [] A1 (.tuple #[.agg #[.int .u8 1, .int .u8 2, .string p, .int .i64 cz], .bool true]) A2 := by
              show _ = Value.tuple #[.agg (againW _ _ _ _ _).1.cells.toArray, .bool (againW _ _ _ _ _).2.1] ∧ TwTo A1 _ (againW _ _ _ _ _).2.2 A2
              rw [hag]
              exact ⟨rfl, .of_set hT hM ho (hT.nd.erase _)⟩
            conv => lhs; whnf
            exact (hD _).2 hend
          · by_cases hl : last < mz
            · have htk : toldK 2 last ⟨np, cz, mz, pz, ct, mt, ve, cv, ow, le, ki⟩ true = (3, mz) := by
                unfold toldK
                rw [if_neg (by simp), if_neg (by omega), if_neg (fun h => hc h.2), if_pos ⟨by omega, hl⟩]
              rw [htk] at hag
              conv => lhs; whnf
              repeat (first | refine no_dec hc ?_ | refine go_dec hl ?_ | refine go_rd htop ?_ | refine go_D hD rfl ?_
                      conv => lhs; whnf)
              refine (hD _).2 ⟨by kernel_rfl, _, hT.map, wL_alike ⟨conn, 2, p⟩ ws, fun A2 hM ho _ => ?_⟩
              have hM : MapAt A2 m (delL (wKey ⟨conn, 2, p⟩) (wL ws)) := hM
              rw [wL_del] at hM
              have hend : bellAgainS.post ((⟨t, m, ws⟩ : TwG), ⟨conn, 2, p⟩, last, ⟨np, cz, mz, pz, ct, mt, ve, cv, ow, le, ki⟩, true) [] A1 (.tuple #[.agg #[.int .u8 3, .int .u8 2, .string p, .int .i64 mz], .bool true]) A2 := by
                show _ = Value.tuple #[.agg (againW _ _ _ _ _).1.cells.toArray, .bool (againW _ _ _ _ _).2.1] ∧ TwTo A1 _ (againW _ _ _ _ _).2.2 A2
                rw [hag]
                exact ⟨rfl, .of_set hT hM ho (hT.nd.erase _)⟩
              conv => lhs; whnf
              exact (hD _).2 hend
            · have htk : toldK 2 last ⟨np, cz, mz, pz, ct, mt, ve, cv, ow, le, ki⟩ true = (0, 0) := by
                unfold toldK
                rw [if_neg (by simp), if_neg (by omega), if_neg (fun h => hc h.2), if_neg (fun h => hl h.2)]
              rw [htk] at hag
              conv => lhs; whnf
              repeat (first | refine no_dec hc ?_ | refine no_dec hl ?_ | refine go_rd htop ?_ | refine go_D hD rfl ?_
                      conv => lhs; whnf)
              refine (hD _).2 ⟨((⟨t, m, ws⟩ : TwG), ⟨conn, 2, p⟩), ⟨rfl, hT⟩, fun v A2 hq => ?_⟩
              have hq : TwTo A1 ⟨t, m, ws⟩ (if mayD 2 p = true then wPut ⟨conn, 2, p⟩ ws else ws) A2 := hq
              rw [if_pos hm] at hq
              have hend : bellAgainS.post ((⟨t, m, ws⟩ : TwG), ⟨conn, 2, p⟩, last, ⟨np, cz, mz, pz, ct, mt, ve, cv, ow, le, ki⟩, true) [] A1 (.tuple #[.agg #[.int .u8 0, .int .u8 0, .string ⟨#[]⟩, .int .i64 0], .bool false]) A2 := by
                show _ = Value.tuple #[.agg (againW _ _ _ _ _).1.cells.toArray, .bool (againW _ _ _ _ _).2.1] ∧ TwTo A1 _ (againW _ _ _ _ _).2.2 A2
                rw [hag]
                exact ⟨rfl, hq⟩
              conv => lhs; whnf
              exact (hD _).2 hend
        · by_cases hl : last < mz
          · have htk : toldK sort last ⟨np, cz, mz, pz, ct, mt, ve, cv, ow, le, ki⟩ true = (3, mz) := by
              unfold toldK
              rw [if_neg (by simp), if_neg (fun h => h3 h.1), if_neg (fun h => h2 h.1), if_pos ⟨h3, hl⟩]
            rw [htk] at hag
            conv => lhs; whnf
            repeat (first | refine no_dec h2 ?_ | refine no_dec h3 ?_ | refine split_nd (fun h => absurd h h3) (fun _ => ?_) | refine go_dec hl ?_ | refine go_rd htop ?_ | refine go_D hD rfl ?_
                    conv => lhs; whnf)
            refine (hD _).2 ⟨by kernel_rfl, _, hT.map, wL_alike ⟨conn, sort, p⟩ ws, fun A2 hM ho _ => ?_⟩
            have hM : MapAt A2 m (delL (wKey ⟨conn, sort, p⟩) (wL ws)) := hM
            rw [wL_del] at hM
            have hend : bellAgainS.post ((⟨t, m, ws⟩ : TwG), ⟨conn, sort, p⟩, last, ⟨np, cz, mz, pz, ct, mt, ve, cv, ow, le, ki⟩, true) [] A1 (.tuple #[.agg #[.int .u8 3, .int .u8 sort, .string p, .int .i64 mz], .bool true]) A2 := by
              show _ = Value.tuple #[.agg (againW _ _ _ _ _).1.cells.toArray, .bool (againW _ _ _ _ _).2.1] ∧ TwTo A1 _ (againW _ _ _ _ _).2.2 A2
              rw [hag]
              exact ⟨rfl, .of_set hT hM ho (hT.nd.erase _)⟩
            conv => lhs; whnf
            exact (hD _).2 hend
          · have htk : toldK sort last ⟨np, cz, mz, pz, ct, mt, ve, cv, ow, le, ki⟩ true = (0, 0) := by
              unfold toldK
              rw [if_neg (by simp), if_neg (fun h => h3 h.1), if_neg (fun h => h2 h.1), if_neg (fun h => hl h.2)]
            rw [htk] at hag
            conv => lhs; whnf
            repeat (first | refine no_dec h2 ?_ | refine no_dec h3 ?_ | refine split_nd (fun h => absurd h h3) (fun _ => ?_) | refine no_dec hl ?_ | refine go_rd htop ?_ | refine go_D hD rfl ?_
                    conv => lhs; whnf)
            refine (hD _).2 ⟨((⟨t, m, ws⟩ : TwG), ⟨conn, sort, p⟩), ⟨rfl, hT⟩, fun v A2 hq => ?_⟩
            have hq : TwTo A1 ⟨t, m, ws⟩ (if mayD sort p = true then wPut ⟨conn, sort, p⟩ ws else ws) A2 := hq
            rw [if_pos hm] at hq
            have hend : bellAgainS.post ((⟨t, m, ws⟩ : TwG), ⟨conn, sort, p⟩, last, ⟨np, cz, mz, pz, ct, mt, ve, cv, ow, le, ki⟩, true) [] A1 (.tuple #[.agg #[.int .u8 0, .int .u8 0, .string ⟨#[]⟩, .int .i64 0], .bool false]) A2 := by
              show _ = Value.tuple #[.agg (againW _ _ _ _ _).1.cells.toArray, .bool (againW _ _ _ _ _).2.1] ∧ TwTo A1 _ (againW _ _ _ _ _).2.2 A2
              rw [hag]
              exact ⟨rfl, hq⟩
            conv => lhs; whnf
            exact (hD _).2 hend

end
end Go.Proofs.YtpgpbnalgjbfbaaDoor

namespace Go.Proofs.YtpgpbnalgjbfbaaDoor
open Go.Sx Go.RowKit
noncomputable section
open Classical

def pRoot : ByteArray := ⟨#[47]⟩
def pA : ByteArray := ⟨#[47, 97]⟩

theorem may_a2 : mayD 2 pA = true := by kernel_rfl
theorem may_a1 : mayD 1 pA = true := by kernel_rfl
theorem may_r3 : mayD 3 pRoot = true := by kernel_rfl
theorem parent_a : parentP pA = pRoot := by kernel_rfl
theorem ok_a : pathOk pA.data.toList = true := by kernel_rfl
theorem ne_ra : ¬ pRoot = pA := by
  intro h
  have := congrArg (fun b : ByteArray => b.data.toList.length) h
  revert this
  decide

def w1 : WatchD := ⟨1, 2, pA⟩
def w2 : WatchD := ⟨2, 3, pRoot⟩
def w3 : WatchD := ⟨1, 3, pRoot⟩

theorem put1 : wPut w1 [] = [w1] := by unfold wPut; rw [if_neg (by simp)]; rfl
theorem put2 : wPut w2 [w1] = [w1, w2] := by
  unfold wPut
  rw [if_neg]
  · rfl
  · intro h
    rw [List.mem_singleton] at h
    injection h with h
    exact absurd h (by decide)
theorem put3 : wPut w3 [w1, w2] = [w1, w2, w3] := by
  unfold wPut
  rw [if_neg]
  · rfl
  · intro h
    simp only [List.mem_cons, List.not_mem_nil, or_false] at h
    rcases h with h | h
    · injection h with _ h
      exact absurd h (by decide)
    · injection h with h
      exact absurd h (by decide)
theorem put4 : wPut w3 [w1, w2, w3] = [w1, w2, w3] := by unfold wPut; rw [if_pos (by simp)]

def dA : DeedD := .mk ⟨5, 1, 0, 0, 0, 0, pA, [], 0, 0, 1, 0, 0, 0, []⟩ []

theorem right_a : RightD dA := by
  refine ⟨by decide, by decide, by decide, by decide, by decide, by decide, ?_, fun h => absurd h (by decide), fun h => absurd h (by decide), fun h => absurd h (by decide)⟩
  have hk : ∀ (i : Nat) {q : Prop}, hasK 1 i → hasK dA.h.kind i ∨ q := fun _ _ h => .inl h
  refine ⟨by decide, hk 0 (by unfold hasK; decide), .inr rfl, .inr rfl, .inr rfl, hk 4 (by unfold hasK; decide), .inr rfl, .inr rfl, .inr rfl, .inr ⟨rfl, rfl⟩, fun _ => ok_a, by decide, by decide, by decide, by decide, fun _ => by decide, fun h => absurd h (by decide), fun h => absurd h (by decide), fun h => absurd h (by decide)⟩

def rA : List RingD := [⟨1, 1, 2, pA, 5⟩, ⟨1, 4, 3, pRoot, 5⟩, ⟨2, 4, 3, pRoot, 5⟩]

theorem rungK1 : rungK 1 pA w1 = 1 := by
  unfold rungK w1
  simp
theorem rungK2 : rungK 1 pA w2 = 4 := by
  unfold rungK w2
  simp [parent_a]
theorem rungK3 : rungK 1 pA w3 = 4 := by
  unfold rungK w3
  simp [parent_a]

theorem rings_a : ringsW dA [w1, w2, w3] = (rA, []) := by
  unfold ringsW
  rw [if_pos right_a]
  show (([] : List RingD) ++ chRings 1 pA 5 [w1, w2, w3], unrung 1 pA [w1, w2, w3]) = (rA, [])
  have h1 : rung 1 pA [w1, w2, w3] = [w1, w2, w3] := List.filter_eq_self.2 fun w hw => by
    simp only [List.mem_cons, List.not_mem_nil, or_false] at hw
    rcases hw with rfl | rfl | rfl
    · rw [rungK1]; rfl
    · rw [rungK2]; rfl
    · rw [rungK3]; rfl
  have h2 : unrung 1 pA [w1, w2, w3] = [] := List.filter_eq_nil_iff.2 fun w hw => by
    simp only [List.mem_cons, List.not_mem_nil, or_false] at hw
    rcases hw with rfl | rfl | rfl
    · rw [rungK1]; simp
    · rw [rungK2]; simp
    · rw [rungK3]; simp
  have h3 : sortW [w1, w2, w3] = [w1, w3, w2] := by
    rw [sortW_of_perm (vs := [w1, w3, w2]) ((List.Perm.swap w3 w2 []).cons w1), sortW_id]
    simp [wLt, w1, w2, w3]
  unfold chRings
  rw [h1, h2, h3]
  simp only [List.map_cons, List.map_nil, List.nil_append, rungK1, rungK2, rungK3]
  rfl

def awS : FSpec := ⟨Unit, fun _ vs A => vs = [] ∧ HasA A, fun _ _ A v A' => A.Sub A' ∧ v = .bool true⟩

theorem TwTo.then {A A' A'' : Arena} {t m : Nat} {ws ws' ws'' : List WatchD} (h : TwTo A ⟨t, m, ws⟩ ws' A') (k : TwTo A' ⟨t, m, ws'⟩ ws'' A'') : TwTo A ⟨t, m, ws⟩ ws'' A'' :=
  ⟨k.tower, fun b o hb ho => k.keep b o hb (h.keep b o hb ho), fun b hb => h.dom b (k.dom b hb)⟩

theorem TwTo.from {A A1 A' : Arena} {t m : Nat} {ws ws' : List WatchD} (h : TwTo A1 ⟨t, m, ws⟩ ws' A') (s : A.Sub A1) (hm : A.blk m = none) : A.Sub A' := fun k o hk => h.keep k o (fun e => by
  have e : k = m := e
  rw [e, hm] at hk; cases hk) (s k o hk)

set_option maxRecDepth 100000 in
set_option maxHeartbeats 0 in
theorem aw_ok : FOk Tryd.prog 5 awS := by
  refine fok_v mixed fun _ vs A hp => ?_
  obtain ⟨rfl, hHas⟩ : vs = [] ∧ HasA A := hp
  have hC : CTSound Tryd.prog (lookC [specE 8 bellNewS, specE 9 bellAddS, specE 14 bellCountS, specE 10 bellRingS, specE 16 bellAgainS, specE 11 isEqS] noC) := lookC_sound (noC_sound _) (fun x hx => by
    simp only [List.mem_cons, List.not_mem_nil, or_false] at hx
    rcases hx with rfl | rfl | rfl | rfl | rfl | rfl
    · exact specE_ok bellNew_ok
    · exact specE_ok bellAdd_ok
    · exact specE_ok bellCount_ok
    · exact specE_ok bellRing_ok
    · exact specE_ok bellAgain_ok
    · exact specE_ok isEq_ok)
  refine ⟨_, noL, 60, hC, noL_sound _, fun blk os out tape D hD => ?_⟩
  conv => lhs; whnf
  refine (hD _).2 ⟨(), rfl, fun v A1 hq => ?_⟩
  obtain ⟨s1, t, m, hv, hT1, htn, hmn⟩ : A.Sub A1 ∧ ∃ t m, v = .pointer (some ⟨t, 0, none⟩) ∧ TowerAt A1 t m [] ∧ A.blk t = none ∧ A.blk m = none := hq
  subst hv
  conv => lhs; whnf
  refine (hD _).2 ⟨(⟨t, m, []⟩, w1), ⟨rfl, hT1⟩, fun v A2 hq => ?_⟩
  have hq : TwTo A1 ⟨t, m, []⟩ (if mayD 2 pA = true then wPut w1 [] else []) A2 := hq
  rw [if_pos may_a2, put1] at hq
  have hT2 := hq
  conv => lhs; whnf
  refine (hD _).2 ⟨(⟨t, m, [w1]⟩, w2), ⟨rfl, hT2.tower⟩, fun v A3 hq => ?_⟩
  have hq : TwTo A2 ⟨t, m, [w1]⟩ (if mayD 3 pRoot = true then wPut w2 [w1] else [w1]) A3 := hq
  rw [if_pos may_r3, put2] at hq
  have hT3 := hT2.then hq
  conv => lhs; whnf
  refine (hD _).2 ⟨(⟨t, m, [w1, w2]⟩, w3), ⟨rfl, hT3.tower⟩, fun v A4 hq => ?_⟩
  have hq : TwTo A3 ⟨t, m, [w1, w2]⟩ (if mayD 3 pRoot = true then wPut w3 [w1, w2] else [w1, w2]) A4 := hq
  rw [if_pos may_r3, put3] at hq
  have hT4 := hT3.then hq
  conv => lhs; whnf
  refine (hD _).2 ⟨(⟨t, m, [w1, w2, w3]⟩, w3), ⟨rfl, hT4.tower⟩, fun v A5 hq => ?_⟩
  have hq : TwTo A4 ⟨t, m, [w1, w2, w3]⟩ (if mayD 3 pRoot = true then wPut w3 [w1, w2, w3] else [w1, w2, w3]) A5 := hq
  rw [if_pos may_r3, put4] at hq
  have hT5 := hT4.then hq
  conv => lhs; whnf
  refine (hD _).2 ⟨⟨t, m, [w1, w2, w3]⟩, ⟨rfl, hT5.tower⟩, fun v A6 hq => ?_⟩
  obtain ⟨h9, hv⟩ : A6 = A5 ∧ v = .int .i64 ((3 : Nat) : Int) := hq
  subst h9; subst hv
  have hHas5 := hHas.sub (hT5.from s1 hmn)
  obtain ⟨em, cm, hom, _⟩ := hT5.tower.map
  have hdv : DeedR Arena.void dA [.int .i64 5, .int .u8 1, .int .i64 0, .int .i64 0, .int .i64 0, .int .i64 0, .string pA, .slice none 0 0, .int .i64 0, .int .i64 0, .int .i64 1, .int .i64 0, .int .i64 0, .int .i64 0, .slice none 0 0, .slice none 0 0] := by
    unfold dA
    rw [DeedR]
    exact ⟨_, _, _, [], rfl, by decide, ⟨Sl.nil _ _, by simp⟩, ⟨Sl.nil _ _, by simp⟩, Sl.nil _ _, by simp, by rw [DeedsR]⟩
  have hok3 : WOk [w1, w2, w3] := fun w hw => by
    simp only [List.mem_cons, List.not_mem_nil, or_false] at hw
    rcases hw with rfl | rfl | rfl
    · unfold w1; decide
    · unfold w2; decide
    · unfold w3; decide
  conv => lhs; whnf
  refine (hD _).2 ⟨(⟨t, m, [w1, w2, w3]⟩, dA, Arena.void), ⟨_, rfl, hT5.tower, hok3, by show (3 : Nat) ≤ 1000000; omega, hdv, fun _ _ h => (by cases h), rfl, hHas5⟩, fun v A7 hq => ?_⟩
  obtain ⟨hT7, hG7⟩ : TwTo A6 ⟨t, m, [w1, w2, w3]⟩ (ringsW dA [w1, w2, w3]).2 A7 ∧ GrowR A6 A7 5 56 (ringsW dA [w1, w2, w3]).1.length v ((ringsW dA [w1, w2, w3]).1.flatMap RingD.cells) := hq
  rw [rings_a] at hT7 hG7
  dsimp only at hT7 hG7
  obtain ⟨q7, cp7, hv7, hq7, -⟩ := hG7.formN
  subst hv7
  conv => lhs; whnf
  refine (hD _).2 ⟨((⟨t, m, []⟩ : TwG), (⟨1, 1, pA⟩ : WatchD), 7, (⟨⟨#[]⟩, 0, 9, 0, 0, 0, 0, 0, 0, 0, 0⟩ : NdD), true), ⟨_, _, _, rfl, hT7.tower⟩, fun v A8 hq => ?_⟩
  have hag : againW ⟨1, 1, pA⟩ 7 ⟨⟨#[]⟩, 0, 9, 0, 0, 0, 0, 0, 0, 0, 0⟩ true [] = (⟨3, 1, pA, 9⟩, true, []) := by
    unfold againW
    have hk : toldK 1 7 ⟨⟨#[]⟩, 0, 9, 0, 0, 0, 0, 0, 0, 0, 0⟩ true = (3, 9) := by
      unfold toldK
      rw [if_neg (by simp), if_neg (by omega), if_neg (by omega), if_pos ⟨by omega, by show (7 : Int) < 9; omega⟩]
    dsimp only
    rw [if_pos may_a1, hk, if_neg (by decide)]
    rfl
  obtain ⟨hv, hT8⟩ : v = .tuple #[.agg (againW ⟨1, 1, pA⟩ 7 ⟨⟨#[]⟩, 0, 9, 0, 0, 0, 0, 0, 0, 0, 0⟩ true []).1.cells.toArray, .bool (againW ⟨1, 1, pA⟩ 7 ⟨⟨#[]⟩, 0, 9, 0, 0, 0, 0, 0, 0, 0, 0⟩ true []).2.1] ∧ TwTo A7 ⟨t, m, []⟩ (againW ⟨1, 1, pA⟩ 7 ⟨⟨#[]⟩, 0, 9, 0, 0, 0, 0, 0, 0, 0, 0⟩ true []).2.2 A8 := hq
  rw [hag] at hv hT8
  subst hv
  have hG8 := grow_stay hG7 fun b o h1 h2 => hT8.keep b o (fun e => by
    have e : b = m := e
    rw [e, hom] at h1; cases h1) h2
  have hAs : A.Sub A8 := fun b o hb => hT8.keep b o (fun e => by
    have e : b = m := e
    rw [e, hmn] at hb; cases hb) (hT7.keep b o (fun e => by
    have e : b = m := e
    rw [e, hmn] at hb; cases hb) (hT5.from s1 hmn b o hb))
  conv => lhs; whnf
  repeat (first | refine go_D hD rfl ?_ | refine go_dec rfl ?_
          conv => lhs; whnf)
  refine (hD _).2 fun gb A9 hN => ?_
  have hN : A8.New A9 gb #[.int .i64 1, .int .u8 1, .int .u8 2, .string pA, .int .i64 5, .int .i64 1, .int .u8 4, .int .u8 3, .string pRoot, .int .i64 5, .int .i64 2, .int .u8 4, .int .u8 3, .string pRoot, .int .i64 5] 56 := hN
  have hG9 := (hG8.sub hN.sub).sl
  have hw9 : Sl A9 5 3 (.slice (some ⟨gb, 0, none⟩) 3 3) (rA.flatMap RingD.cells) := Sl.row (Nat.le_refl _) (hN.rd (o := 0) (n := 3 * 5) (by show 0 + 3 * 5 ≤ 15; omega))
  have hT9 : TowerAt A9 t m [] := ⟨hT8.tower.top.sub fun o ho => hN.sub _ _ ho, hT8.tower.map.sub fun o ho => hN.sub _ _ ho, hT8.tower.nd, hT8.tower.ne⟩
  conv => lhs; whnf
  repeat (first | refine go_D hD rfl ?_ | refine go_dec rfl ?_
          conv => lhs; whnf)
  refine (hD _).2 ⟨rA, ⟨_, _, rfl, hG9, hw9, by show (3 : Nat) ≤ 1000000000; omega⟩, fun v AX hq => ?_⟩
  obtain ⟨hX, hv⟩ : AX = A9 ∧ v = .bool true := hq
  subst hX; subst hv
  conv => lhs; whnf
  repeat (first | refine go_D hD rfl ?_ | refine go_dec rfl ?_
          conv => lhs; whnf)
  refine (hD _).2 ⟨⟨t, m, []⟩, ⟨rfl, hT9⟩, fun v AY hq => ?_⟩
  obtain ⟨hY, hv⟩ : AY = AX ∧ v = .int .i64 ((0 : Nat) : Int) := hq
  subst hY; subst hv
  have hend : awS.post () [] A (.bool true) AY := ⟨hAs.trans hN.sub, rfl⟩
  conv => lhs; whnf
  repeat (first | refine go_D hD rfl ?_ | refine go_D hD (by kernel_rfl) ?_ | refine go_dec rfl ?_
          conv => lhs; whnf)
  exact (hD _).2 hend

end
end Go.Proofs.YtpgpbnalgjbfbaaDoor

namespace Go.Proofs.YtpgpbnalgjbfbaaDoor
open Go.Sx Go.RowKit
noncomputable section
open Classical

/-- A step, as plain data. -/
structure DoD where
  op : Int
  w : WatchD
  deed : DeedD
  last : Int
  node : NdD
  there : Bool

def DoR (A : Arena) (d : DoD) (cs : List Value) : Prop := ∃ dc a l k, cs = [.int .i64 d.op, .int .i64 d.w.conn, .int .u8 d.w.sort, .string d.w.path] ++ dc ++ [.int .i64 d.last] ++ d.node.cells (.slice a l k) ++ [.bool d.there] ∧ DeedR A d.deed dc ∧ d.w.path.data.toList.length ≤ 140737488351232

theorem DoR.len {A : Arena} {d : DoD} {cs : List Value} (h : DoR A d cs) : cs.length = 34 := by
  obtain ⟨dc, a, l, k, rfl, h, _⟩ := h
  simp [h.len, NdD.cells]

theorem DoR.sub {A B : Arena} (hs : B.Sub A) {d : DoD} {cs : List Value} (h : DoR B d cs) : DoR A d cs := by
  obtain ⟨dc, a, l, k, h1, h2, h3⟩ := h
  exact ⟨dc, a, l, k, h1, DeedR.sub hs _ _ h2, h3⟩

def DosS (A : Arena) (v : Value) (ds : List DoD) : Prop := ∃ rows : List (List Value), Sl A 34 ds.length v rows.flatten ∧ ds.length * 360 ≤ 140737488351232 ∧ rows.length = ds.length ∧ ∀ k (h1 : k < ds.length) (h2 : k < rows.length), DoR A ds[k] rows[k]

theorem dos_row {A : Arena} {ds : List DoD} {rows : List (List Value)} (hl : rows.length = ds.length) (hR : ∀ k (h1 : k < ds.length) (h2 : k < rows.length), DoR A ds[k] rows[k]) {g o n : Nat} (hra : A.rd g o (n * 34) = some rows.flatten) (hn : n = ds.length) {k : Nat} (hk : k < ds.length) :
    ∃ cs, DoR A ds[k] cs ∧ A.rd g (o + k * 34) 34 = some cs := by
  have hlens : ∀ r ∈ rows, r.length = 34 := fun r hr => by
    obtain ⟨i, hi, rfl⟩ := List.mem_iff_getElem.1 hr
    exact (hR i (by omega) hi).len
  exact ⟨_, hR k hk (by omega), rows_at hra hlens k (by omega) (by omega)⟩

end
end Go.Proofs.YtpgpbnalgjbfbaaDoor

namespace Go.Proofs.YtpgpbnalgjbfbaaDoor
open Go.Sx Go.RowKit
noncomputable section
open Classical

structure DrG where
  A : Arena
  ws : List WatchD
  sk : List WatchD

def dropInv (A0 : Arena) (m i : Nat) (ws0 : List WatchD) (out : WatchD → Bool) : LInv :=
  { γ := DrG, G := fun g => WalkW (fun _ => False) A0 g.A m i ws0 g.ws g.sk out, keepS := [0, 1, 11], keepB := [], sl := fun _ => [], bl := fun _ => [], ar := fun g => g.A, mu := fun g => ws0.length - g.sk.length }

def bellDropS : FSpec := ⟨TwG × Int, fun g vs A => vs = [.pointer (some ⟨g.1.t, 0, none⟩), .int .i64 g.2] ∧ TowerAt A g.1.t g.1.m g.1.ws, fun g _ A _ A' => TwTo A g.1 (g.1.ws.filter fun w => !decide (w.conn = g.2)) A'⟩

set_option maxRecDepth 100000 in
set_option maxHeartbeats 0 in
theorem bellDrop_ok : FOk Tryd.prog 13 bellDropS := by
  refine fok_v mixed fun ⟨⟨t, m, ws⟩, conn⟩ vs A hp => ?_
  obtain ⟨rfl, hT⟩ : vs = [.pointer (some ⟨t, 0, none⟩), .int .i64 conn] ∧ TowerAt A t m ws := hp
  refine ⟨noC, tabO Tryd.prog noC noL 60 [(13, 0)], 60, noC_sound _, tabO_sound mixed (noC_sound _) (noL_sound _) _ _, fun blk os out tape D hD => ?_⟩
  have htop : A.rd t 0 1 = some [.map (some m)] := hT.top.rd (o := 0) (n := 1) (by show 0 + 1 ≤ 1; omega)
  obtain ⟨ot, hot⟩ := hT.top.dom
  conv => lhs; whnf
  repeat (first | refine go_rd htop ?_ | refine go_D hD rfl ?_
          conv => lhs; whnf)
  refine (hD _).2 ⟨_, hT.map, wL_nodup hT.nd, fun i A1 hi hA1 hI => ?_⟩
  have hA1 : ∀ k, k ≠ i → A1.blk k = A.blk k := hA1
  have hi : A.blk i = none := hi
  have hI0 : IterAt A1 i m (wL ws) [] := hI
  have hW0 : WalkW (fun _ => False) A A1 m i ws ws [] fun w => decide (w.conn = conn) := .start hT.map hT.nd hi hA1 hI0
  conv => lhs; whnf
  refine (hD _).2 ⟨dropInv A m i ws fun w => decide (w.conn = conn), ⟨(⟨A1, ws, []⟩ : DrG), ⟨hW0, trivial, trivial, rfl⟩⟩, fun (s : DrG) hG => ⟨trivial, trivial, ?_⟩⟩
  obtain ⟨As, wk, sk⟩ := s
  have hW : WalkW (fun _ => False) A As m i ws wk sk fun w => decide (w.conn = conn) := hG
  have htk : ∀ A2 : Arena, (∀ b, b ≠ i → A2.blk b = As.blk b) → A2.rd t 0 1 = some [.map (some m)] := fun A2 h2 => by
    have hti : t ≠ i := fun e => by rw [e, hi] at hot; cases hot
    exact (hT.top.sub (A' := A2) fun o ho => by rw [h2 t hti]; exact hW.keep t o (Ne.symm hT.ne) id ho).rd (o := 0) (n := 1) (by show 0 + 1 ≤ 1; omega)
  conv => lhs; whnf
  refine (hD _).2 (.inl ⟨m, _, _, hW.iter, fun e he hn A2 hA2 hI2 hent => ?_, fun hall => ?_⟩)
  · have hA2 : ∀ b, b ≠ i → A2.blk b = As.blk b := hA2
    obtain ⟨w, rfl, hw, hns⟩ := WalkW.open_ he hn
    obtain ⟨c, so, p⟩ := w
    have ht2 := htk A2 hA2
    have hlen := (hW.snoc hw hns).2.2
    have hent : A2.ent i = some (.tuple #[.agg #[.int .i64 c, .int .u8 so, .string p], .int .i64 1]) := hent
    have hI2 : IterAt A2 i m (wL wk) (sk.map wKey ++ [wKey ⟨c, so, p⟩]) := hI2
    conv => lhs; whnf
    split
    rotate_left
    · rename_i hv
      exact absurd (hent.symm.trans hv) (by simp)
    rename_i v hv
    obtain rfl := Option.some.inj (hent.symm.trans hv)
    conv => lhs; whnf
    refine split_dec (fun hc => ?_) (fun hc => ?_)
    · conv => lhs; whnf
      repeat (first | refine go_rd ht2 ?_ | refine go_D hD rfl ?_
              conv => lhs; whnf)
      refine (hD _).2 ⟨by kernel_rfl, _, hI2.map, wL_alike ⟨c, so, p⟩ wk, fun A3 hM ho hIt => ?_⟩
      have hI3 : IterAt A3 i m (delL (wKey ⟨c, so, p⟩) (wL wk)) (sk.map wKey ++ [wKey ⟨c, so, p⟩]) := hIt i _ hI2
      rw [wL_del] at hI3
      have ho : ∀ b, b ≠ m → A3.blk b = A2.blk b := ho
      have hW3 := hW.take hw hns hA2 hI3 (fun b o hb _ hk => by rw [ho b hb]; exact hk) (fun b hb => by
        by_cases e : b = m
        · obtain ⟨_, _, h1, _⟩ := hI3.map
          rw [e, h1] at hb; cases hb
        · rw [ho b e] at hb; exact hb) (decide_eq_true hc)
      conv => lhs; whnf
      exact (hD _).2 ⟨(⟨A3, wk.erase ⟨c, so, p⟩, sk ++ [(⟨c, so, p⟩ : WatchD)]⟩ : DrG), ⟨hW3, trivial, trivial, rfl⟩, by show ws.length - (sk ++ [_]).length < ws.length - sk.length; rw [List.length_append, List.length_singleton]; omega, ⟨same1 rfl rfl, same1 rfl rfl, same1 rfl rfl, trivial⟩, trivial⟩
    · have hW3 := hW.pass hw hns hA2 hI2 (decide_eq_false hc)
      conv => lhs; whnf
      exact (hD _).2 ⟨(⟨A2, wk, sk ++ [(⟨c, so, p⟩ : WatchD)]⟩ : DrG), ⟨hW3, trivial, trivial, rfl⟩, by show ws.length - (sk ++ [_]).length < ws.length - sk.length; rw [List.length_append, List.length_singleton]; omega, ⟨same1 rfl rfl, same1 rfl rfl, same1 rfl rfl, trivial⟩, trivial⟩
  · obtain ⟨h1, _⟩ := hW.all hall
    have hend : ∀ v, bellDropS.post ((⟨t, m, ws⟩ : TwG), conn) [] A v As := fun _ => by
      show TwTo A _ _ As
      rw [← h1]
      refine ⟨⟨hT.top.sub fun o ho => hW.keep t o (Ne.symm hT.ne) id ho, hW.iter.map, hW.nds, hT.ne⟩, fun b o hb ho => hW.keep b o hb id ho, hW.dom⟩
    conv => lhs; whnf
    exact (hD _).2 (hend (.bool false))

end
end Go.Proofs.YtpgpbnalgjbfbaaDoor

namespace Go.Proofs.YtpgpbnalgjbfbaaDoor
open Go.Sx Go.RowKit
noncomputable section
open Classical

/-- Pick: a number below n. -/
def pickS : FSpec := ⟨Int × Nat, fun g vs _ => vs = [.int .i64 g.1, .int .i64 g.2] ∧ 1 ≤ g.2 ∧ g.2 ≤ 1000000, fun g _ A v A' => A' = A ∧ ∃ k : Nat, k < g.2 ∧ v = .int .i64 k⟩

set_option maxRecDepth 100000 in
set_option maxHeartbeats 0 in
theorem pick_ok : FOk Tryd.prog 7 pickS := by
  refine fok_v mixed fun ⟨x, n⟩ vs A hp => ?_
  obtain ⟨rfl, h1, h2⟩ : vs = [.int .i64 x, .int .i64 n] ∧ 1 ≤ n ∧ n ≤ 1000000 := hp
  refine ⟨noC, noL, 60, noC_sound _, noL_sound _, fun blk os out tape D hD => ?_⟩
  conv => lhs; whnf
  refine split_dec (fun h => ?_) (fun h => ?_) <;> (conv => lhs; whnf)
  · omega
  have hn0 : ¬ (n : Int) = 0 := by omega
  have hlo : -(n : Int) < Int.tmod x n := by
    have := Int.lt_tmod_of_pos x (b := (n : Int)) (by omega)
    omega
  have hhi : Int.tmod x n < n := Int.tmod_lt_of_pos x (by omega)
  have hend : ∀ z : Int, 0 ≤ z → z < n → pickS.post (x, n) [.int .i64 x, .int .i64 n] A (.int .i64 z) A := fun z h0 h1 => ⟨rfl, z.toNat, by show z.toNat < n; omega, by rw [Int.toNat_of_nonneg h0]⟩
  refine split_b (fun _ => ?_) (fun hb => absurd hb (by rw [decide_eq_false hn0]; decide)) <;> (conv => lhs; whnf)
  refine split_dec (fun h0 => ?_) (fun h0 => ?_) <;> (conv => lhs; whnf)
  · have hend1 := hend (IntKind.i64.wrap (Int.tmod x n + n)) (by rw [Sx.wrap_i64 (by omega) (by omega)]; omega) (by rw [Sx.wrap_i64 (by omega) (by omega)]; omega)
    exact (hD _).2 hend1
  · exact (hD _).2 (hend (Int.tmod x n) (by omega) hhi)

end
end Go.Proofs.YtpgpbnalgjbfbaaDoor

namespace Go.Proofs.YtpgpbnalgjbfbaaDoor
open Go.Sx Go.RowKit
noncomputable section
open Classical

structure OtG where
  i : Nat
  A : Arena
  wb : List WatchD

/-- The others are set. -/
def otInv (A0 : Arena) (t1 m1 : Nat) (wa : List WatchD) (t2 m2 n : Nat) : LInv := { γ := OtG, G := fun s => s.i ≤ n ∧ TwTwo A0 s.A t1 m1 wa t2 m2 s.wb ∧ s.wb.filter ownP = wa ∧ s.wb.length ≤ s.i + 1 ∧ WOk s.wb, keepS := [0, 2, 3, 9, 10, 11], keepB := [], sl := fun s => [(12, .v (.int .i64 s.i))], bl := fun _ => [], ar := fun s => s.A, mu := fun s => n - s.i }

structure FiG where
  i : Nat
  A : Arena
  wb : List WatchD
  rung : Nat

def fiInv (A0 : Arena) (t1 m1 t2 m2 n c0 : Nat) : LInv := { γ := FiG, G := fun s => s.i ≤ n ∧ TwTwo A0 s.A t1 m1 (s.wb.filter ownP) t2 m2 s.wb ∧ (s.wb.filter ownP).length + s.rung = c0 ∧ s.wb.length ≤ 1000 ∧ WOk s.wb, keepS := [0, 2, 10, 11], keepB := [], sl := fun s => [(13, .v (.int .i64 s.rung)), (14, .v (.int .i64 s.i))], bl := fun _ => [], ar := fun s => s.A, mu := fun s => n - s.i }

structure OwG where
  k : Nat
  A : Arena
  v : Value

def owInv (A2 : Arena) (bs : List RingD) : LInv := { γ := OwG, G := fun s => s.k ≤ bs.length ∧ A2.Sub s.A ∧ GrowR A2 s.A 5 56 ((bs.take s.k).filter ownQ).length s.v (((bs.take s.k).filter ownQ).flatMap RingD.cells), keepS := [0, 2, 10, 11, 13, 14, 15, 16], keepB := [], sl := fun s => [(17, .v s.v), (18, .v (.int .i64 s.k))], bl := fun _ => [], ar := fun s => s.A, mu := fun s => bs.length - s.k }

def firstS : FSpec := ⟨List DeedD × Int × ByteArray × List DoD, fun g vs A => ∃ v u, vs = [v, .int .i64 g.2.1, .string g.2.2.1, u] ∧ DeedsS A v g.1 ∧ DosS A u g.2.2.2 ∧ HasA A, fun _ _ A v A' => A.Sub A' ∧ v = .bool true⟩

set_option maxRecDepth 100000 in
set_option maxHeartbeats 0 in
theorem first_ok : FOk Tryd.prog 4 firstS := by
  refine fok_v mixed fun ⟨ds, sort, p, os⟩ vs A hp => ?_
  obtain ⟨v, u, rfl, ⟨drows, hdS, hdl, hdR⟩, ⟨orows, hoS, hol, horl, hoR⟩, hHas⟩ : ∃ v u, vs = [v, .int .i64 sort, .string p, u] ∧ DeedsS A v ds ∧ DosS A u os ∧ HasA A := hp
  obtain ⟨ao, c, rfl, hc, _, ha1, ha2, ha3⟩ := hdS
  obtain ⟨bo, e, rfl, he, _, hb1, hb2, hb3⟩ := hoS
  have hC : CTSound Tryd.prog (lookC [specE 5 awS, specE 8 bellNewS, specE 7 pickS, specE 9 bellAddS, specE 10 bellRingS, specE 13 bellDropS, specE 14 bellCountS, specE 11 isEqS, specE 12 checkS] noC) := lookC_sound (noC_sound _) (fun x hx => by
    simp only [List.mem_cons, List.not_mem_nil, or_false] at hx
    rcases hx with rfl | rfl | rfl | rfl | rfl | rfl | rfl | rfl | rfl
    · exact specE_ok aw_ok
    · exact specE_ok bellNew_ok
    · exact specE_ok pick_ok
    · exact specE_ok bellAdd_ok
    · exact specE_ok bellRing_ok
    · exact specE_ok bellDrop_ok
    · exact specE_ok bellCount_ok
    · exact specE_ok isEq_ok
    · exact specE_ok check_ok)
  have hin := tabO_sound mixed hC (noL_sound _) 60 [(4, 4)]
  refine ⟨_, tabO Tryd.prog _ (tabO Tryd.prog _ noL 60 [(4, 4)]) 60 [(4, 0), (4, 2)], 60, hC, tabO_sound mixed hC hin _ _, fun blk os' out tape D hD => ?_⟩
  have hend : ∀ A', A.Sub A' → firstS.post (ds, sort, p, os) [] A (.bool true) A' := fun A' h => ⟨h, rfl⟩
  conv => lhs; whnf
  refine (hD _).2 ⟨(), ⟨rfl, hHas⟩, fun v A1 hq => ?_⟩
  obtain ⟨s1, hv⟩ : A.Sub A1 ∧ v = .bool true := hq
  subst hv
  conv => lhs; whnf
  refine split_dec (fun _ => ?_) (fun h80 => ?_)
  · conv => lhs; whnf
    exact (hD _).2 (hend A1 s1)
  conv => lhs; whnf
  refine split_dec (fun _ => ?_) (fun h81 => ?_)
  · conv => lhs; whnf
    exact (hD _).2 (hend A1 s1)
  have h80 : ds.length ≤ 80 := by
    have h80 : ¬ (80 : Int) < ds.length := h80
    omega
  have h81 : os.length ≤ 80 := by
    have h81 : ¬ (80 : Int) < os.length := h81
    omega
  conv => lhs; whnf
  refine (hD _).2 ⟨(sort, 3), ⟨rfl, by show (1 : Nat) ≤ 3; omega, by show (3 : Nat) ≤ 1000000; omega⟩, fun v A2 hq => ?_⟩
  obtain ⟨h9, s, hs3, hv⟩ : A2 = A1 ∧ ∃ k : Nat, k < 3 ∧ v = .int .i64 k := hq
  have h9 := h9.symm
  subst h9; subst hv
  obtain ⟨so, hso, hso1, hso3⟩ : ∃ so : Int, IntKind.u8.wrap (IntKind.i64.wrap (1 + (s : Int))) = so ∧ 1 ≤ so ∧ so ≤ 3 := by
    refine ⟨_, rfl, ?_⟩
    have h3 : s = 0 ∨ s = 1 ∨ s = 2 := by omega
    rcases h3 with rfl | rfl | rfl <;> decide
  obtain ⟨W0, hW0, hW1, hWf, hWo, hWl⟩ : ∃ W0, (if mayD so p = true then wPut (⟨-1, so, p⟩ : WatchD) [] else []) = W0 ∧ W0.length ≤ 1 ∧ W0.filter ownP = W0 ∧ WOk W0 ∧ W0.length = if pathOk p.data.toList = true then 1 else 0 := by
    refine ⟨_, rfl, ?_⟩
    have e : mayD so p = pathOk p.data.toList := by
      unfold mayD
      rw [decide_eq_true hso1, decide_eq_true hso3]
      rfl
    rw [e]
    by_cases h : pathOk p.data.toList = true
    · rw [if_pos h, if_pos h]
      have e1 : wPut (⟨-1, so, p⟩ : WatchD) [] = [⟨-1, so, p⟩] := by
        unfold wPut
        rw [if_neg (by simp)]
        rfl
      rw [e1]
      exact ⟨Nat.le_refl _, rfl, fun w hw => by
        rw [List.mem_singleton] at hw
        subst hw
        exact ⟨hso1, hso3⟩, rfl⟩
    · rw [if_neg h, if_neg h]
      exact ⟨Nat.zero_le _, rfl, fun w hw => (by cases hw), rfl⟩
  conv => lhs; whnf
  refine (hD _).2 ⟨(), rfl, fun v A3 hq => ?_⟩
  obtain ⟨s3, t1, m1, hv, hT1, ht1, hm1⟩ : A1.Sub A3 ∧ ∃ t m, v = .pointer (some ⟨t, 0, none⟩) ∧ TowerAt A3 t m [] ∧ A1.blk t = none ∧ A1.blk m = none := hq
  subst hv
  conv => lhs; whnf
  refine (hD _).2 ⟨(), rfl, fun v A4 hq => ?_⟩
  obtain ⟨s4, t2, m2, hv, hT2, ht2, hm2⟩ : A3.Sub A4 ∧ ∃ t m, v = .pointer (some ⟨t, 0, none⟩) ∧ TowerAt A4 t m [] ∧ A3.blk t = none ∧ A3.blk m = none := hq
  subst hv
  have hTw0 : TwTwo A A4 t1 m1 [] t2 m2 [] := by
    obtain ⟨ot, hot⟩ := hT1.top.dom
    obtain ⟨em, cm, hom, _⟩ := hT1.map
    have up : ∀ {X Y : Arena} {k : Nat}, X.Sub Y → Y.blk k = none → X.blk k = none := fun {X Y k} hs hk => by
      cases h : X.blk k with
      | none => rfl
      | some o => rw [hs k o h] at hk; cases hk
    exact ⟨(s1.trans s3).trans s4, ⟨hT1.top.sub fun _ ho => s4 _ _ ho, hT1.map.sub fun _ ho => s4 _ _ ho, hT1.nd, hT1.ne⟩, hT2, up s1 hm1, up (s1.trans s3) hm2, fun e => (by rw [e, ht2] at hom; cases hom), fun e => (by rw [e, hm2] at hom; cases hom), fun e => (by rw [e, hm2] at hot; cases hot)⟩
  conv => lhs; whnf
  refine (hD _).2 ⟨((⟨t1, m1, []⟩ : TwG), (⟨-1, IntKind.u8.wrap (IntKind.i64.wrap (1 + (s : Int))), p⟩ : WatchD)), ⟨rfl, hTw0.a⟩, fun v A5 hq => ?_⟩
  have hq : TwTo A4 ⟨t1, m1, []⟩ (if mayD (IntKind.u8.wrap (IntKind.i64.wrap (1 + (s : Int)))) p = true then wPut (⟨-1, IntKind.u8.wrap (IntKind.i64.wrap (1 + (s : Int))), p⟩ : WatchD) [] else []) A5 := hq
  rw [hso, hW0] at hq
  have hTw1 := hTw0.stepA hq
  conv => lhs; whnf
  repeat (refine go_D hD rfl ?_
          conv => lhs; whnf)
  refine (hD _).2 ⟨((⟨t2, m2, []⟩ : TwG), (⟨-1, IntKind.u8.wrap (IntKind.i64.wrap (1 + (s : Int))), p⟩ : WatchD)), ⟨rfl, hTw1.b⟩, fun v A6 hq => ?_⟩
  have hq : TwTo A5 ⟨t2, m2, []⟩ (if mayD (IntKind.u8.wrap (IntKind.i64.wrap (1 + (s : Int)))) p = true then wPut (⟨-1, IntKind.u8.wrap (IntKind.i64.wrap (1 + (s : Int))), p⟩ : WatchD) [] else []) A6 := hq
  rw [hso, hW0] at hq
  have hTw2 := hTw1.stepB hq
  conv => lhs; whnf
  repeat (refine go_D hD rfl ?_
          conv => lhs; whnf)
  refine (hD _).2 ⟨otInv A t1 m1 W0 t2 m2 os.length, ⟨(⟨0, A6, W0⟩ : OtG), ⟨Nat.zero_le _, hTw2, hWf, by show W0.length ≤ 0 + 1; omega, hWo⟩, ⟨rfl, trivial⟩, trivial, rfl⟩, fun (s : OtG) hG => ⟨⟨trivial, trivial⟩, trivial, ?_⟩⟩
  obtain ⟨k, Ak, wb⟩ := s
  obtain ⟨hk, hTk, hfk, hlk, hok⟩ : k ≤ os.length ∧ TwTwo A Ak t1 m1 W0 t2 m2 wb ∧ wb.filter ownP = W0 ∧ wb.length ≤ k + 1 ∧ WOk wb := hG
  conv => lhs; whnf
  refine split_dec (fun hlt => ?_) (fun hlt => ?_)
  · have hlt : (k : Int) < (os.length : Int) := hlt
    have hkl : k < os.length := by omega
    have i0 : (0 : Int) ≤ (k : Int) ∧ (k : Int) < (os.length : Int) := by omega
    obtain ⟨g1, o1, rfl, hra⟩ := Sl.at_ he hb1 hb2 hb3 (by omega)
    obtain ⟨cs, hDo, r1⟩ := dos_row horl hoR hra rfl hkl
    generalize os[k] = dk at hDo
    obtain ⟨op, ⟨conn, sq, q⟩, d, last, nd, there⟩ := dk
    obtain ⟨dc, na, nl, nk, hcs, -, -⟩ := hDo
    subst hcs
    have r1 := rd_sub hTk.sub r1
    have q1 : Ak.rd g1 (o1 + k * 34 + 1) 1 = some [.int .i64 conn] := rd_at (N := 34) (i := 1) (m := 1) r1 (by omega)
    have q2 : Ak.rd g1 (o1 + k * 34 + 2) 1 = some [.int .u8 sq] := rd_at (N := 34) (i := 2) (m := 1) r1 (by omega)
    have q3 : Ak.rd g1 (o1 + k * 34 + 3) 1 = some [.string q] := rd_at (N := 34) (i := 3) (m := 1) r1 (by omega)
    clear r1
    conv => lhs; whnf
    repeat (first | refine go_in i0 ?_ | refine go_rd q1 ?_ | refine go_rd q2 ?_ | refine go_rd q3 ?_
            conv => lhs; whnf)
    refine (hD _).2 ⟨((⟨t2, m2, wb⟩ : TwG), (⟨(bif true then bif decide (conn < 0) then 0 else conn else bif decide (0 < conn) then 0 else conn), sq, q⟩ : WatchD)), ⟨rfl, hTk.b⟩, fun v A7 hq => ?_⟩
    obtain ⟨cn, hcn, hc0⟩ : ∃ cn : Int, (bif true then bif decide (conn < 0) then 0 else conn else bif decide (0 < conn) then 0 else conn) = cn ∧ cn ≠ -1 := by
      refine ⟨_, rfl, ?_⟩
      by_cases h : conn < 0
      · simp [h]
      · simp [h]
        omega
    have hq : TwTo Ak ⟨t2, m2, wb⟩ (if mayD sq q = true then wPut (⟨(bif true then bif decide (conn < 0) then 0 else conn else bif decide (0 < conn) then 0 else conn), sq, q⟩ : WatchD) wb else wb) A7 := hq
    rw [hcn] at hq
    obtain ⟨wc, hwc, hwf, hwl, hwo⟩ : ∃ wc, (if mayD sq q = true then wPut (⟨cn, sq, q⟩ : WatchD) wb else wb) = wc ∧ wc.filter ownP = wb.filter ownP ∧ wc.length ≤ wb.length + 1 ∧ WOk wc := by
      refine ⟨_, rfl, ?_⟩
      by_cases h : mayD sq q = true
      · rw [if_pos h]
        have h' := h
        unfold mayD at h'
        simp only [Bool.and_eq_true, decide_eq_true_eq] at h'
        exact ⟨wPut_own hc0 wb, wPut_len _ _, wPut_ok hok h'.1⟩
      · rw [if_neg h]
        exact ⟨rfl, Nat.le_succ _, hok⟩
    rw [hwc] at hq
    have hT7 := hTk.stepB hq
    conv => lhs; whnf
    repeat (refine go_D hD rfl ?_
            conv => lhs; whnf)
    exact (hD _).2 ⟨(⟨k + 1, A7, wc⟩ : OtG), ⟨⟨hkl, hT7, hwf.trans hfk, by show wc.length ≤ k + 1 + 1; omega, hwo⟩, ⟨inc_slot (k := k) (by omega), trivial⟩, trivial, rfl⟩, by show os.length - (k + 1) < os.length - k; omega, ⟨same1 rfl rfl, same1 rfl rfl, same1 rfl rfl, same1 rfl rfl, same1 rfl rfl, same1 rfl rfl, trivial⟩, trivial⟩
  have hkn : k = os.length := by
    have hlt : ¬ ((k : Int) < (os.length : Int)) := hlt
    omega
  obtain ⟨c0, hc0⟩ : ∃ c0, c0 = W0.length := ⟨_, rfl⟩

  conv => lhs; whnf
  refine (hD _).2 ⟨fiInv A t1 m1 t2 m2 ds.length c0, ⟨(⟨0, Ak, wb, 0⟩ : FiG), ⟨Nat.zero_le _, by show TwTwo A Ak t1 m1 (wb.filter ownP) t2 m2 wb; rw [hfk]; exact hTk, by show (wb.filter ownP).length + 0 = c0; rw [hfk, hc0]; rfl, by show wb.length ≤ 1000; omega, hok⟩, ⟨rfl, rfl, trivial⟩, trivial, rfl⟩, fun (s : FiG) hG => ⟨⟨trivial, trivial, trivial⟩, trivial, ?_⟩⟩
  clear hTk hfk hlk hok hlt hk
  obtain ⟨i, Ai, wb, rung⟩ := s
  obtain ⟨hi, hTi, hri, hli, hoi⟩ : i ≤ ds.length ∧ TwTwo A Ai t1 m1 (wb.filter ownP) t2 m2 wb ∧ (wb.filter ownP).length + rung = c0 ∧ wb.length ≤ 1000 ∧ WOk wb := hG
  conv => lhs; whnf
  refine split_dec (fun hlt => ?_) (fun hlt => ?_)
  · have hlt : (i : Int) < (ds.length : Int) := hlt
    have hil : i < ds.length := by omega
    have i0 : (0 : Int) ≤ (i : Int) ∧ (i : Int) < (ds.length : Int) := by omega
    obtain ⟨g1, o1, rfl, hra⟩ := Sl.at_ hc ha1 ha2 ha3 (by omega)
    obtain ⟨ck, hck, hdk⟩ := deed_at hra hdR i hil rfl
    obtain ⟨dd, hdd⟩ : ∃ dd, dd = ds[i] := ⟨_, rfl⟩
    rw [← hdd] at hdk
    obtain ⟨a7, l7, k7, a14, l14, k14, a15, l15, k15, hcf⟩ := hdk.form
    subst hcf
    have r2 := rd_sub hTi.sub hck
    have r7 : Ai.rd g1 (o1 + i * 16 + 7) 1 = some [.slice a7 l7 k7] := rd_at (N := 16) (i := 7) (m := 1) r2 (by omega)
    have r15 : Ai.rd g1 (o1 + i * 16 + 15) 1 = some [.slice a15 l15 k15] := rd_at (N := 16) (i := 15) (m := 1) r2 (by omega)
    conv => lhs; whnf
    repeat (first | refine go_in i0 ?_ | refine go_rd r15 ?_
            conv => lhs; whnf)
    refine split_dec (fun _ => ?_) (fun _ => ?_)
    · have hend := hend Ai hTi.sub
      conv => lhs; whnf
      repeat (refine go_D hD rfl ?_
              conv => lhs; whnf)
      exact (hD _).2 hend
    conv => lhs; whnf
    repeat (first | refine go_in i0 ?_ | refine go_rd r7 ?_ | refine go_D hD rfl ?_
            conv => lhs; whnf)
    refine split_dec (fun _ => ?_) (fun _ => ?_)
    · have hend := hend Ai hTi.sub
      conv => lhs; whnf
      repeat (refine go_D hD rfl ?_
              conv => lhs; whnf)
      exact (hD _).2 hend
    conv => lhs; whnf
    repeat (first | refine go_in i0 ?_ | refine go_rd r2 ?_ | refine go_D hD rfl ?_
            conv => lhs; whnf)
    obtain ⟨wa, hwa⟩ : ∃ wa, wa = wb.filter ownP := ⟨_, rfl⟩
    rw [← hwa] at hTi hri
    have hal : wa.length ≤ wb.length := by rw [hwa]; exact List.length_filter_le _ _
    have hao : WOk wa := fun w hw => hoi w (by rw [hwa] at hw; exact (List.mem_filter.1 hw).1)
    have hown : ringsW dd wa = ((ringsW dd wb).1.filter ownQ, (ringsW dd wb).2.filter ownP) := by rw [hwa]; exact ringsW_own dd wb
    have htota := ringsW_tot dd wa
    have htotb := ringsW_tot dd wb
    have hokb := ringsW_ok (d := dd) hoi
    refine (hD _).2 ⟨((⟨t1, m1, wa⟩ : TwG), dd, A), ⟨_, rfl, hTi.a, hao, by show wa.length ≤ 1000000; omega, hdk, hTi.sub, hTi.a0, hHas.sub hTi.sub⟩, fun v A7 hq => ?_⟩
    obtain ⟨hT7, hG7⟩ : TwTo Ai ⟨t1, m1, wa⟩ (ringsW dd wa).2 A7 ∧ GrowR Ai A7 5 56 (ringsW dd wa).1.length v ((ringsW dd wa).1.flatMap RingD.cells) := hq
    have hTb := hTi.stepA hT7
    obtain ⟨q7, cp7, hv7, hq7, -⟩ := hG7.formN
    subst hv7
    have r2' := rd_sub hTb.sub hck
    conv => lhs; whnf
    repeat (first | refine go_in i0 ?_ | refine go_rd r2' ?_ | refine go_D hD rfl ?_
            conv => lhs; whnf)
    refine (hD _).2 ⟨((⟨t2, m2, wb⟩ : TwG), dd, A), ⟨_, rfl, hTb.b, hoi, by show wb.length ≤ 1000000; omega, hdk, hTb.sub, hTb.b0, hHas.sub hTb.sub⟩, fun v A8 hq => ?_⟩
    obtain ⟨hT8, hG8⟩ : TwTo A7 ⟨t2, m2, wb⟩ (ringsW dd wb).2 A8 ∧ GrowR A7 A8 5 56 (ringsW dd wb).1.length v ((ringsW dd wb).1.flatMap RingD.cells) := hq
    have hTc := hTb.stepB hT8
    have hG78 : GrowR Ai A8 5 56 (ringsW dd wa).1.length (.slice (addrA q7) (ringsW dd wa).1.length cp7) ((ringsW dd wa).1.flatMap RingD.cells) := grow_stay hG7 fun b o h1 h2 => hT8.keep b o (fun e => by
      have e : b = m2 := e
      obtain ⟨em, cm, hom, _⟩ := hTi.b.map
      rw [e, hom] at h1; cases h1) h2
    have hsa := hG78.sl
    obtain ⟨x8, y8, hv8, hc8, -, hb81, hb82, hb83⟩ := hG8.sl
    subst hv8
    clear hG7 hG78 hG8
    generalize hra' : (ringsW dd wa).1 = ra at hsa htota hown
    generalize hrb' : (ringsW dd wb).1 = rb at hc8 hb81 hb82 hb83 htotb hown
    conv => lhs; whnf
    repeat (first | refine go_D hD rfl ?_
            conv => lhs; whnf)
    refine (hD _).2 ⟨owInv A8 rb, ⟨(⟨0, A8, .slice none 0 0⟩ : OwG), ⟨Nat.zero_le _, Arena.Sub.refl _, GrowR.nil _ _ _ _⟩, ⟨rfl, rfl, trivial⟩, trivial, rfl⟩, fun (s : OwG) hG => ⟨⟨trivial, trivial, trivial⟩, trivial, ?_⟩⟩
    obtain ⟨m, As, v1⟩ := s
    obtain ⟨hm, hss, hGs⟩ : m ≤ rb.length ∧ A8.Sub As ∧ GrowR A8 As 5 56 ((rb.take m).filter ownQ).length v1 (((rb.take m).filter ownQ).flatMap RingD.cells) := hG
    conv => lhs; whnf
    refine split_dec (fun hlt => ?_) (fun hlt => ?_)
    · have hlt : (m : Int) < (rb.length : Int) := hlt
      have hml : m < rb.length := by omega
      have j0 : (0 : Int) ≤ (m : Int) ∧ (m : Int) < (rb.length : Int) := by omega
      obtain ⟨g2, o2, rfl, hrb2⟩ := Sl.at_ hc8 hb81 hb82 hb83 (by omega)
      have h2 := ring_at hrb2 m hml rfl
      obtain ⟨w, hw⟩ : ∃ w, w = rb[m] := ⟨_, rfl⟩
      rw [← hw] at h2
      have htk : rb.take (m + 1) = rb.take m ++ [w] := by rw [List.take_succ_eq_append_getElem hml, hw]
      obtain ⟨cn, kd, so, q, z⟩ := w
      have h2 := rd_sub hss h2
      have h20 : As.rd g2 (o2 + m * 5 + 0) 1 = some [.int .i64 cn] := rd_at (N := 5) (i := 0) (m := 1) h2 (by omega)
      conv => lhs; whnf
      repeat (first | refine go_in j0 ?_ | refine go_rd h20 ?_ | refine go_D hD rfl ?_
              conv => lhs; whnf)
      refine split_dec (fun hcn => ?_) (fun hcn => ?_)
      rotate_left
      · have hfl : (rb.take (m + 1)).filter ownQ = (rb.take m).filter ownQ := by
          rw [htk, List.filter_append, List.filter_cons_of_neg (by show ¬ decide (cn = -1) = true; rw [decide_eq_false hcn]; exact Bool.false_ne_true), List.filter_nil, List.append_nil]
        rw [← hfl] at hGs
        conv => lhs; whnf
        exact (hD _).2 ⟨(⟨m + 1, As, v1⟩ : OwG), ⟨⟨hml, hss, hGs⟩, ⟨rfl, inc_slot (k := m) (by omega), trivial⟩, trivial, rfl⟩, by show rb.length - (m + 1) < rb.length - m; omega, ⟨same1 rfl rfl, same1 rfl rfl, same1 rfl rfl, same1 rfl rfl, same1 rfl rfl, same1 rfl rfl, same1 rfl rfl, same1 rfl rfl, trivial⟩, trivial⟩
      have hfl : (rb.take (m + 1)).filter ownQ = (rb.take m).filter ownQ ++ [(⟨cn, kd, so, q, z⟩ : RingD)] := by
        rw [htk, List.filter_append, List.filter_cons_of_pos (by show decide (cn = -1) = true; exact decide_eq_true hcn), List.filter_nil]
      have hone : ∀ v ∈ ([.int .i64 cn, .int .u8 kd, .int .u8 so, .string q, .int .i64 z] : List Value), v.oneCell' = true := fun v hv => by
        simp only [List.mem_cons, List.not_mem_nil, or_false] at hv
        rcases hv with rfl | rfl | rfl | rfl | rfl <;> rfl
      have hnl : ((rb.take m).filter ownQ).length ≤ m := Nat.le_trans (List.length_filter_le _ _) (by rw [List.length_take]; omega)
      generalize (rb.take m).filter ownQ = us at hGs hfl hnl
      obtain ⟨base, cp, rfl, hbase, -⟩ := hGs.formN
      rcases hbase with rfl | ⟨gr, rfl⟩ <;> (conv => lhs; whnf)
      all_goals
        repeat (first | refine go_in j0 ?_ | refine go_rd h2 ?_ | refine go_D hD rfl ?_
                conv => lhs; whnf)
        refine (hD _).2 fun gb A9 hN => ?_
        have hN : As.New A9 gb #[.int .i64 cn, .int .u8 kd, .int .u8 so, .string q, .int .i64 z] 56 := hN
        have hG9 := hGs.sub hN.sub
        obtain ⟨hP, hA⟩ := hG9.formB
        have hP := hP 1 40 (by omega) (by omega)
        have hrd9 : A9.rd gb 0 (1 * 5) = some [.int .i64 cn, .int .u8 kd, .int .u8 so, .string q, .int .i64 z] := hN.rd (o := 0) (n := 1 * 5) (by show 0 + 1 * 5 ≤ 5; omega)
        have s9 := hss.trans hN.sub
        have hd9 : ∀ k, A9.blk k = none → A8.blk k = none := fun k hk => by
          cases h : A8.blk k with
          | none => rfl
          | some o => rw [s9 k o h] at hk; cases hk
        conv => lhs; whnf
        refine (hD _).2 ⟨us.flatMap RingD.cells, [.int .i64 cn, .int .u8 kd, .int .u8 so, .string q, .int .i64 z], hP.rd, ?_, rfl, hone, by show us.length + 1 ≤ 9223372036854775807; omega, hP.cap, rfl, hP.none_, fun g' o' he' hle' _ => hP.room _ rfl g' o' he' hle', fun u A10 hAp => ?_⟩
        · show (if 1 * 5 = 0 then some [] else A9.rd gb 0 (1 * 5)) = _
          rw [if_neg (by omega)]; exact hrd9
        obtain ⟨hG10, hk10⟩ := hA 1 [.int .i64 cn, .int .u8 kd, .int .u8 so, .string q, .int .i64 z] _ _ rfl hd9 hAp
        have s10 : A8.Sub A10 := fun b o hb => by
          rw [hk10 b o hb]; exact s9 b o hb
        have hG10 : GrowR A8 A10 5 56 ((rb.take (m + 1)).filter ownQ).length u (((rb.take (m + 1)).filter ownQ).flatMap RingD.cells) := by
          rw [hfl, List.length_append, List.flatMap_append]
          exact hG10
        conv => lhs; whnf
        exact (hD _).2 ⟨(⟨m + 1, A10, u⟩ : OwG), ⟨⟨hml, s10, hG10⟩, ⟨rfl, inc_slot (k := m) (by omega), trivial⟩, trivial, rfl⟩, by show rb.length - (m + 1) < rb.length - m; omega, ⟨same1 rfl rfl, same1 rfl rfl, same1 rfl rfl, same1 rfl rfl, same1 rfl rfl, same1 rfl rfl, same1 rfl rfl, same1 rfl rfl, trivial⟩, trivial⟩
    · have hml : m = rb.length := by
        have hlt : ¬ ((m : Int) < (rb.length : Int)) := hlt
        omega
      rw [hml, List.take_length] at hGs
      have hown1 : rb.filter ownQ = ra := (congrArg Prod.fst hown).symm.trans hra'
      have hown2 : (ringsW dd wb).2.filter ownP = (ringsW dd wa).2 := (congrArg Prod.snd hown).symm
      rw [hown1] at hGs
      have hso := hGs.sl
      obtain ⟨q9, cp9, hv9, hq9, -⟩ := hGs.formN
      subst hv9
      have hsa9 := hsa.sub hss
      conv => lhs; whnf
      repeat (first | refine go_D hD rfl ?_
              conv => lhs; whnf)
      refine (hD _).2 ⟨ra, ⟨_, _, rfl, hsa9, hso, by omega⟩, fun v AB hq => ?_⟩
      obtain ⟨hB, hv⟩ : AB = As ∧ v = .bool true := hq
      subst hB; subst hv
      conv => lhs; whnf
      have hr1 : rung + ra.length ≤ 1 := by omega
      have hwr : IntKind.i64.wrap ((rung : Int) + (ra.length : Int)) = ((rung + ra.length : Nat) : Int) := by
        have h3 : rung + ra.length = 0 ∨ rung + ra.length = 1 := by omega
        have h4 : (rung : Int) + (ra.length : Int) = ((rung + ra.length : Nat) : Int) := by omega
        rw [h4]
        rcases h3 with h | h <;> rw [h] <;> rfl
      refine split_dec (fun h => ?_) (fun _ => ?_)
      · exfalso
        have h : (1 : Int) < IntKind.i64.wrap ((rung : Int) + (ra.length : Int)) := h
        rw [hwr] at h
        omega
      have hTd := hTc.more hss
      have hslot : some (SV.v (.int .i64 (IntKind.i64.wrap ((rung : Int) + (ra.length : Int))))) = some (SV.v (.int .i64 ((rung + ra.length : Nat) : Int))) := by rw [hwr]
      conv => lhs; whnf
      exact (hD _).2 ⟨(⟨i + 1, AB, (ringsW dd wb).2, rung + ra.length⟩ : FiG), ⟨⟨hil, by show TwTwo A AB t1 m1 ((ringsW dd wb).2.filter ownP) t2 m2 (ringsW dd wb).2; rw [hown2]; exact hTd, by show ((ringsW dd wb).2.filter ownP).length + (rung + ra.length) = c0; rw [hown2]; omega, by show (ringsW dd wb).2.length ≤ 1000; omega, hokb⟩, ⟨hslot, inc_slot (k := i) (by omega), trivial⟩, trivial, rfl⟩, by show ds.length - (i + 1) < ds.length - i; omega, ⟨same1 rfl rfl, same1 rfl rfl, same1 rfl rfl, same1 rfl rfl, trivial⟩, trivial⟩
  have hin9 : i = ds.length := by
    have hlt : ¬ ((i : Int) < (ds.length : Int)) := hlt
    omega
  have hrc : rung ≤ 1 := by omega
  have hwn : IntKind.i64.wrap (1 - (rung : Int)) = 1 - (rung : Int) := Sx.wrap_i64 (by omega) (by omega)
  conv => lhs; whnf
  refine (hD _).2 ⟨p, rfl, fun v AC hq => ?_⟩
  obtain ⟨hC9, hv⟩ : AC = Ai ∧ v = .bool (pathOk p.data.toList) := hq
  subst hC9; subst hv
  by_cases hpo : pathOk p.data.toList = true
  · rw [if_pos hpo] at hWl
    rw [hpo]
    conv => lhs; whnf
    refine (hD _).2 ⟨((⟨t2, m2, wb⟩ : TwG), 0), ⟨rfl, hTi.b⟩, fun v AD hq => ?_⟩
    have hq : TwTo AC ⟨t2, m2, wb⟩ (wb.filter fun w => !decide (w.conn = 0)) AD := hq
    have hTe := hTi.stepB hq
    conv => lhs; whnf
    repeat (first | refine go_D hD rfl ?_
            conv => lhs; whnf)
    refine (hD _).2 ⟨(⟨t1, m1, wb.filter ownP⟩ : TwG), ⟨rfl, hTe.a⟩, fun v AE hq => ?_⟩
    obtain ⟨hE9, hv⟩ : AE = AD ∧ v = .int .i64 ((wb.filter ownP).length : Nat) := hq
    subst hE9; subst hv
    have hend := hend AE hTe.sub
    conv => lhs; whnf
    refine split_dec (fun _ => ?_) (fun h => ?_)
    rotate_left
    · exfalso
      have h : ¬ (((wb.filter ownP).length : Int) = IntKind.i64.wrap (1 - (rung : Int))) := h
      rw [hwn] at h
      omega
    conv => lhs; whnf
    refine split_dec (fun _ => ?_) (fun h => ?_)
    · conv => lhs; whnf
      repeat (first | refine go_D hD rfl ?_
              conv => lhs; whnf)
      exact (hD _).2 hend
    conv => lhs; whnf
    refine (hD _).2 ⟨p, rfl, fun v AF hq => ?_⟩
    obtain ⟨hF9, hv⟩ : AF = AE ∧ v = .bool (pathOk p.data.toList) := hq
    subst hF9; subst hv
    rw [hpo]
    conv => lhs; whnf
    repeat (first | refine go_D hD rfl ?_
            conv => lhs; whnf)
    exact (hD _).2 hend
  · rw [if_neg hpo] at hWl
    have hpo' : pathOk p.data.toList = false := by
      cases h : pathOk p.data.toList with
      | true => exact absurd h hpo
      | false => rfl
    rw [hpo']
    conv => lhs; whnf
    refine (hD _).2 ⟨((⟨t2, m2, wb⟩ : TwG), 0), ⟨rfl, hTi.b⟩, fun v AD hq => ?_⟩
    have hq : TwTo AC ⟨t2, m2, wb⟩ (wb.filter fun w => !decide (w.conn = 0)) AD := hq
    have hTe := hTi.stepB hq
    conv => lhs; whnf
    repeat (first | refine go_D hD rfl ?_
            conv => lhs; whnf)
    refine (hD _).2 ⟨(⟨t1, m1, wb.filter ownP⟩ : TwG), ⟨rfl, hTe.a⟩, fun v AE hq => ?_⟩
    obtain ⟨hE9, hv⟩ : AE = AD ∧ v = .int .i64 ((wb.filter ownP).length : Nat) := hq
    subst hE9; subst hv
    have hend := hend AE hTe.sub
    conv => lhs; whnf
    refine split_dec (fun _ => ?_) (fun h => ?_)
    rotate_left
    · exfalso
      have h : ¬ (((wb.filter ownP).length : Int) = 0) := h
      omega
    conv => lhs; whnf
    refine split_dec (fun _ => ?_) (fun h => ?_)
    rotate_left
    · exfalso
      have h : ¬ ((rung : Int) = 0) := h
      omega
    conv => lhs; whnf
    repeat (first | refine go_D hD rfl ?_
            conv => lhs; whnf)
    exact (hD _).2 hend

end
end Go.Proofs.YtpgpbnalgjbfbaaDoor
