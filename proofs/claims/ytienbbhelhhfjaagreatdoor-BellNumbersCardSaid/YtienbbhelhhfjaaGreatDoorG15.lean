/-
  Contracts: the document's deeds: a create, a delete, a set; parts.
  Contracts: the document's ensembles: may a config be?
  Contracts: the document's deeds: is a deed right? It says what the program says.
  Contracts: the document's tower: Ring, told, Again.
  Contracts: the document's tower: told, Again.
  Plain: the program's watches and the document's tell the same.
  Contracts: the law's rings: rows that are the same are told so.
  Contracts: bell: Drop.
  Contracts: what is lent: rows in blocks of their own, with marks behind their ends; bytes.
  What is lent: the marks behind the ends of rows of bytes and of members.
  Deeds that are lent: each list in a block of its own, with marks behind its end. (Turned out of LkA.)
  Contracts: bytes that are lent, kept, written over.
  Contracts: two rows of members: are they the same?
-/
import Derived.Test.YtienbbhelhhfjaaGreatDoorG14
import Derived.Test.YtienbbhelhhfjaaGreatDoorG13
import Derived.Test.YtienbbhelhhfjaaGreatDoorG08
import Derived.Test.YtienbbhelhhfjaaGreatDoorG12
import Derived.Test.YtienbbhelhhfjaaGreatDoorG07
namespace Go.Proofs.YtienbbhelhhfjaaGreatDoor
open Go.Sx Go.RowKit
noncomputable section
open Classical

/-- Is a create, a delete, a set as the table says? -/
def RNodeD (h : DeedH) (np : Nat) : Prop :=
  BareD h np ∧ pathOk h.path.data.toList = true ∧ h.data.length ≤ 1000 ∧ 0 ≤ h.owner ∧ 0 ≤ h.cver ∧ 0 ≤ h.ver ∧ (h.kind = 3 ∨ ((h.kind = 1 ∨ h.kind = 2) ∧ h.path.data.toList ≠ [47]))

def rnodeS : FSpec := ⟨DeedD, fun d vs A => ∃ cs, vs = [deedV cs] ∧ DeedR A d cs, fun d _ A v A' => A.Sub A' ∧ v = .bool (decide (RNodeD d.h d.parts.length))⟩

set_option maxRecDepth 100000 in
set_option maxHeartbeats 0 in
theorem rnode_ok : FOk Tryz.prog 45 rnodeS := by
  refine fok_v mixed fun d vs A hp => ?_
  obtain ⟨cs, rfl, hR⟩ : ∃ cs, vs = [deedV cs] ∧ DeedR A d cs := hp
  have hR0 := hR
  obtain ⟨⟨zxid, kind, ses, turn, xid, dtime, path, data, owner, ver, cver, tmo, err, cfg, mem⟩, parts⟩ := d
  rw [DeedR] at hR
  dsimp only [DeedH.cells] at hR
  obtain ⟨vd, vm, vp, rws, rfl, hpl, hd1, hM, hSp, hlen2, hRows⟩ := hR
  obtain ⟨a7, k7, rfl⟩ := hd1.1.form
  obtain ⟨a14, k14, rfl⟩ := hM.1.form
  obtain ⟨a15, k15, rfl⟩ := hSp.form
  have hC : CTSound Tryz.prog (lookC [specE 44 bareS, specE 29 refCheckS] noC) := lookC_sound (noC_sound _) (fun x hx => by
    simp only [List.mem_cons, List.not_mem_nil, or_false] at hx
    rcases hx with rfl | rfl
    · exact specE_ok bare_ok
    · exact specE_ok refCheck_ok)
  refine ⟨_, noL, 60, hC, noL_sound _, fun blk os out tape D hD => ?_⟩
  obtain ⟨h, hh⟩ : ∃ h : DeedH, h = ⟨zxid, kind, ses, turn, xid, dtime, path, data, owner, ver, cver, tmo, err, cfg, mem⟩ := ⟨_, rfl⟩
  have bad : ∀ A2, A.Sub A2 → ¬ RNodeD ⟨zxid, kind, ses, turn, xid, dtime, path, data, owner, ver, cver, tmo, err, cfg, mem⟩ parts.length → A.Sub A2 ∧ Value.bool false = .bool (decide (RNodeD ⟨zxid, kind, ses, turn, xid, dtime, path, data, owner, ver, cver, tmo, err, cfg, mem⟩ parts.length)) := fun A2 h2 hb => ⟨h2, by rw [decide_eq_false hb]⟩
  have good : ∀ A2 (b : Bool), A.Sub A2 → (b = true ↔ RNodeD ⟨zxid, kind, ses, turn, xid, dtime, path, data, owner, ver, cver, tmo, err, cfg, mem⟩ parts.length) → A.Sub A2 ∧ Value.bool b = .bool (decide (RNodeD ⟨zxid, kind, ses, turn, xid, dtime, path, data, owner, ver, cver, tmo, err, cfg, mem⟩ parts.length)) := fun A2 b h2 hb => ⟨h2, by
    congr 1
    rw [Bool.eq_iff_iff, hb, decide_eq_true_iff]⟩
  conv => lhs; whnf
  refine (hD _).2 ⟨(.mk ⟨zxid, kind, ses, turn, xid, dtime, path, data, owner, ver, cver, tmo, err, cfg, mem⟩ parts : DeedD), ⟨_, rfl, hR0⟩, fun v A9 hq => ?_⟩
  have hq : A9 = A ∧ v = .bool (decide (BareD ⟨zxid, kind, ses, turn, xid, dtime, path, data, owner, ver, cver, tmo, err, cfg, mem⟩ parts.length)) := hq
  have h9 := hq.1.symm
  have hv := hq.2
  subst h9
  by_cases hb : BareD ⟨zxid, kind, ses, turn, xid, dtime, path, data, owner, ver, cver, tmo, err, cfg, mem⟩ parts.length
  rotate_left
  · rw [decide_eq_false hb] at hv
    subst hv
    conv => lhs; whnf
    exact (hD _).2 (bad A (Arena.Sub.refl _) fun hB => hb hB.1)
  rw [decide_eq_true hb] at hv
  subst hv
  conv => lhs; whnf
  refine (hD _).2 ⟨path, ⟨rfl, hpl⟩, fun v A1 hq => ?_⟩
  have hq : A.Sub A1 ∧ v = .bool (pathOk path.data.toList) := hq
  obtain ⟨s1, hv⟩ := hq
  by_cases hpk : pathOk path.data.toList = true
  rotate_left
  · have hpk' : pathOk path.data.toList = false := by simpa using hpk
    rw [hpk'] at hv
    subst hv
    conv => lhs; whnf
    exact (hD _).2 (bad A1 s1 fun hB => hpk hB.2.1)
  rw [hpk] at hv
  subst hv
  conv => lhs; whnf
  refine split_dec (fun h1 => ?_) (fun h1 => ?_) <;> (conv => lhs; whnf)
  · exact (hD _).2 (bad A1 s1 fun hB => by
      have h2 := hB.2.2.1
      dsimp only at h2
      have h1 : (1000 : Int) < (data.length : Int) := h1
      omega)
  refine split_dec (fun h2 => ?_) (fun h2 => ?_) <;> (conv => lhs; whnf)
  · exact (hD _).2 (bad A1 s1 fun hB => by
      have h3 := hB.2.2.2.1
      dsimp only at h3
      omega)
  refine split_dec (fun h3 => ?_) (fun h3 => ?_) <;> (conv => lhs; whnf)
  · exact (hD _).2 (bad A1 s1 fun hB => by
      have h4 := hB.2.2.2.2.1
      dsimp only at h4
      omega)
  refine split_dec (fun h4 => ?_) (fun h4 => ?_) <;> (conv => lhs; whnf)
  · exact (hD _).2 (bad A1 s1 fun hB => by
      have h5 := hB.2.2.2.2.2.1
      dsimp only at h5
      omega)
  have hrest : RNodeD ⟨zxid, kind, ses, turn, xid, dtime, path, data, owner, ver, cver, tmo, err, cfg, mem⟩ parts.length ↔ (kind = 3 ∨ ((kind = 1 ∨ kind = 2) ∧ path.data.toList ≠ [47])) := by
    have h1 : ¬ (1000 : Int) < (data.length : Int) := h1
    refine ⟨fun h => h.2.2.2.2.2.2, fun h => ⟨hb, hpk, by show data.length ≤ 1000; omega, by show 0 ≤ owner; omega, by show 0 ≤ cver; omega, by show 0 ≤ ver; omega, h⟩⟩
  have hfin : (kind = 1 ∨ kind = 2) → A.Sub A1 ∧ Value.bool (!beqL path.data.toList [47]) = .bool (decide (RNodeD ⟨zxid, kind, ses, turn, xid, dtime, path, data, owner, ver, cver, tmo, err, cfg, mem⟩ parts.length)) := fun hk => good A1 _ s1 (by
    rw [hrest, beqL_eq]
    constructor
    · intro h5
      exact .inr ⟨hk, by simpa using h5⟩
    · rintro (h5 | h5)
      · omega
      · simpa using h5.2)
  refine split_dec (fun h5 => ?_) (fun h5 => ?_) <;> (conv => lhs; whnf)
  · exact (hD _).2 (good A1 true s1 (by rw [hrest]; exact ⟨fun _ => .inl h5, fun _ => rfl⟩))
  refine split_dec (fun h6 => ?_) (fun h6 => ?_) <;> (conv => lhs; whnf)
  · exact (hD _).2 (hfin (.inl h6))
  refine split_dec (fun h7 => ?_) (fun h7 => ?_) <;> (conv => lhs; whnf)
  · exact (hD _).2 (hfin (.inr h7))
  · exact (hD _).2 (bad A1 s1 fun hB => by
      rcases hrest.1 hB with h8 | ⟨h8 | h8, _⟩
      · exact h5 h8
      · exact h6 h8
      · exact h7 h8)

/-! ### Parts -/

/-- May a deed be a part? -/
def RPartD (all : Bool) (p : DeedD) : Prop := p.h.zxid = 0 ∧ p.h.ses = 0 ∧ p.h.turn = 0 ∧ p.h.xid = 0 ∧ p.h.time = 0 ∧ RNodeD p.h p.parts.length ∧ (all = true ∨ p.h.kind = 2)
def RPartsD (ds : List DeedD) (least most : Int) (all : Bool) : Prop := least ≤ ds.length ∧ (ds.length : Int) ≤ most ∧ ∀ p ∈ ds, RPartD all p

structure RpG where
  k : Nat
  A : Arena

def rpartsInv (A0 : Arena) (ds : List DeedD) (all : Bool) : LInv := { γ := RpG, G := fun s => s.k ≤ ds.length ∧ A0.Sub s.A ∧ ∀ p ∈ ds.take s.k, RPartD all p, keepS := [0, 3], keepB := [], sl := fun s => [(9, .v (.int .i64 s.k))], bl := fun _ => [], ar := fun s => s.A, mu := fun s => ds.length - s.k }

def rpartsS : FSpec := ⟨List DeedD × Int × Int × Bool, fun g vs A => ∃ v, vs = [v, .int .i64 g.2.1, .int .i64 g.2.2.1, .bool g.2.2.2] ∧ DeedsS A v g.1, fun g _ A v A' => A.Sub A' ∧ v = .bool (decide (RPartsD g.1 g.2.1 g.2.2.1 g.2.2.2))⟩

set_option maxRecDepth 100000 in
set_option maxHeartbeats 0 in
theorem rparts_ok : FOk Tryz.prog 46 rpartsS := by
  refine fok_v mixed fun ⟨ds, least, most, all⟩ vs A hp => ?_
  obtain ⟨v, rfl, ⟨rows, hS, hlen, hR⟩⟩ : ∃ v, vs = [v, .int .i64 least, .int .i64 most, .bool all] ∧ DeedsS A v ds := hp
  obtain ⟨ao, c, rfl, hc, hl, ha1, ha2, ha3⟩ := hS
  have hC : CTSound Tryz.prog (lookC [specE 45 rnodeS] noC) := lookC_sound (noC_sound _) (fun x hx => by
    simp only [List.mem_singleton] at hx
    subst hx; exact specE_ok rnode_ok)
  refine ⟨_, tabO Tryz.prog _ noL 60 [(46, 0)], 60, hC, tabO_sound mixed hC (noL_sound _) _ _, fun blk os out tape D hD => ?_⟩
  have bad : ∀ A2, A.Sub A2 → ¬ RPartsD ds least most all → A.Sub A2 ∧ Value.bool false = .bool (decide (RPartsD ds least most all)) := fun A2 h2 hb => ⟨h2, by rw [decide_eq_false hb]⟩
  conv => lhs; whnf
  refine split_dec (fun h1 => ?_) (fun h1 => ?_) <;> (conv => lhs; whnf)
  · exact (hD _).2 (bad A (Arena.Sub.refl _) fun hB => by
      have h2 := hB.1
      have h1 : (ds.length : Int) < least := h1
      omega)
  refine split_dec (fun h2 => ?_) (fun h2 => ?_) <;> (conv => lhs; whnf)
  · exact (hD _).2 (bad A (Arena.Sub.refl _) fun hB => by
      have h3 := hB.2.1
      have h2 : most < (ds.length : Int) := h2
      omega)
  refine (hD _).2 ⟨rpartsInv A ds all, ⟨(⟨0, A⟩ : RpG), ⟨Nat.zero_le _, Arena.Sub.refl _, fun _ h => (by cases h)⟩, ⟨rfl, trivial⟩, trivial, rfl⟩, fun (s : RpG) hG => ⟨⟨trivial, trivial⟩, trivial, ?_⟩⟩
  obtain ⟨k, Ak⟩ := s
  obtain ⟨hk, hAk, hall⟩ : k ≤ ds.length ∧ A.Sub Ak ∧ ∀ p ∈ ds.take k, RPartD all p := hG
  conv => lhs; whnf
  refine split_dec (fun hlt => ?_) (fun hlt => ?_) <;> (conv => lhs; whnf)
  rotate_left
  · have e : k = ds.length := by
      have hlt : ¬ (k : Int) < (ds.length : Int) := hlt
      omega
    rw [e, List.take_length] at hall
    have h1 : ¬ (ds.length : Int) < least := h1
    have h2 : ¬ most < (ds.length : Int) := h2
    have hend : rpartsS.post (ds, least, most, all) [] A (.bool true) Ak := ⟨hAk, by
      show Value.bool true = .bool (decide (RPartsD ds least most all))
      rw [decide_eq_true ⟨by omega, by omega, hall⟩]⟩
    exact (hD _).2 hend
  have hkl : k < ds.length := by
    have hlt : (k : Int) < (ds.length : Int) := hlt
    omega
  obtain ⟨g0, o, rfl, hra⟩ := Sl.at_ hc ha1 ha2 ha3 (by omega)
  obtain ⟨cs, r1, hR1⟩ := deed_at hra hR k hkl rfl
  obtain ⟨d, hd⟩ : ∃ d, d = ds[k] := ⟨_, rfl⟩
  rw [← hd] at hR1
  have hmem : d ∈ ds := by rw [hd]; exact List.getElem_mem _
  have htk : ds.take (k + 1) = ds.take k ++ [d] := by rw [List.take_succ_eq_append_getElem hkl, ← hd]
  have hbad2 : ∀ A2, A.Sub A2 → ¬ RPartD all d → A.Sub A2 ∧ Value.bool false = .bool (decide (RPartsD ds least most all)) := fun A2 h2 hn => bad A2 h2 fun hB => hn (hB.2.2 d hmem)
  obtain ⟨⟨zxid, kind, ses, turn, xid, dtime, path, data, owner, ver, cver, tmo, err, cfg, mem⟩, parts⟩ := d
  have hR0 := hR1
  rw [DeedR] at hR1
  dsimp only [DeedH.cells] at hR1
  obtain ⟨vd, vm, vp, rws, rfl, -, hd1, hM, hSp, hlen2, hRows⟩ := hR1
  obtain ⟨a7, k7, rfl⟩ := hd1.1.form
  obtain ⟨a14, k14, rfl⟩ := hM.1.form
  obtain ⟨a15, k15, rfl⟩ := hSp.form
  have r2 := rd_sub hAk r1
  have i0 : (0 : Int) ≤ (k : Int) ∧ (k : Int) < (ds.length : Int) := by omega
  repeat (first | refine go_in i0 ?_ | refine go_rd r2 ?_
          conv => lhs; whnf)
  refine split_b (fun h => ?_) (fun h3 => ?_) <;> (conv => lhs; whnf)
  · exact (hD _).2 (hbad2 Ak hAk fun hP => by
      have := hP.1
      simp at h
      exact h this)
  refine split_b (fun h => ?_) (fun h4 => ?_) <;> (conv => lhs; whnf)
  · exact (hD _).2 (hbad2 Ak hAk fun hP => by
      have := hP.2.1
      simp at h
      exact h this)
  refine split_b (fun h => ?_) (fun h5 => ?_) <;> (conv => lhs; whnf)
  · exact (hD _).2 (hbad2 Ak hAk fun hP => by
      have := hP.2.2.1
      simp at h
      exact h this)
  refine split_b (fun h => ?_) (fun h6 => ?_) <;> (conv => lhs; whnf)
  · exact (hD _).2 (hbad2 Ak hAk fun hP => by
      have := hP.2.2.2.1
      simp at h
      exact h this)
  refine split_b (fun h => ?_) (fun h7 => ?_) <;> (conv => lhs; whnf)
  · exact (hD _).2 (hbad2 Ak hAk fun hP => by
      have := hP.2.2.2.2.1
      simp at h
      exact h this)
  simp at h3 h4 h5 h6 h7
  refine (hD _).2 ⟨(.mk ⟨zxid, kind, ses, turn, xid, dtime, path, data, owner, ver, cver, tmo, err, cfg, mem⟩ parts : DeedD), ⟨_, rfl, DeedR.sub hAk _ _ hR0⟩, fun v A1 hq => ?_⟩
  have hq : Ak.Sub A1 ∧ v = .bool (decide (RNodeD ⟨zxid, kind, ses, turn, xid, dtime, path, data, owner, ver, cver, tmo, err, cfg, mem⟩ parts.length)) := hq
  obtain ⟨s1, hv⟩ := hq
  have hA1 := hAk.trans s1
  by_cases hn : RNodeD ⟨zxid, kind, ses, turn, xid, dtime, path, data, owner, ver, cver, tmo, err, cfg, mem⟩ parts.length
  rotate_left
  · rw [decide_eq_false hn] at hv
    subst hv
    conv => lhs; whnf
    exact (hD _).2 (hbad2 A1 hA1 fun hP => hn hP.2.2.2.2.2.1)
  rw [decide_eq_true hn] at hv
  subst hv
  have hgo : (all = true ∨ kind = 2) → (rpartsInv A ds all).G (⟨k + 1, A1⟩ : RpG) := fun ha => ⟨hkl, hA1, fun p hp => by
    rw [htk] at hp
    rcases List.mem_append.1 hp with hp | hp
    · exact hall p hp
    · simp only [List.mem_singleton] at hp
      subst hp
      exact ⟨h3, h4, h5, h6, h7, hn, ha⟩⟩
  conv => lhs; whnf
  cases all
  · conv => lhs; whnf
    refine split_b (fun h => ?_) (fun h8 => ?_) <;> (conv => lhs; whnf)
    · exact (hD _).2 (hbad2 A1 hA1 fun hP => by
        rcases hP.2.2.2.2.2.2 with h9 | h9
        · cases h9
        · simp at h
          exact h h9)
    · simp at h8
      exact (hD _).2 ⟨(⟨k + 1, A1⟩ : RpG), ⟨hgo (.inr h8), ⟨inc_slot (k := k) (by omega), trivial⟩, trivial, rfl⟩, by show ds.length - (k + 1) < ds.length - k; omega, ⟨same1 rfl rfl, same1 rfl rfl, trivial⟩, trivial⟩
  · conv => lhs; whnf
    exact (hD _).2 ⟨(⟨k + 1, A1⟩ : RpG), ⟨hgo (.inl rfl), ⟨inc_slot (k := k) (by omega), trivial⟩, trivial, rfl⟩, by show ds.length - (k + 1) < ds.length - k; omega, ⟨same1 rfl rfl, same1 rfl rfl, trivial⟩, trivial⟩

end
end Go.Proofs.YtienbbhelhhfjaaGreatDoor

namespace Go.Proofs.YtienbbhelhhfjaaGreatDoor
open Go.Sx Go.RowKit
noncomputable section
open Classical

def MemOk (m : MemD) : Prop := 1 ≤ m.id ∧ m.id ≤ 7 ∧ ((m.role = 2 ∧ m.weight = 0 ∧ m.group = 0) ∨ (m.role = 1 ∧ 0 ≤ m.weight ∧ m.weight ≤ 1000 ∧ 0 ≤ m.group ∧ m.group < 7))

theorem memOk_iff {last : Int} (h0 : 0 ≤ last) (m : MemD) : memberOk last m = true ↔ MemOk m ∧ last < m.id := by
  rw [memberOk_iff]
  unfold MemOk
  constructor
  · rintro ⟨h1, h2, h3⟩
    exact ⟨⟨by omega, h2, h3⟩, h1⟩
  · rintro ⟨⟨_, h2, h3⟩, h1⟩
    exact ⟨h1, h2, h3⟩

def rmemS : FSpec := ⟨MemD, fun m vs _ => vs = [.agg #[.int .i64 m.id, .int .u8 m.role, .int .i64 m.weight, .int .i64 m.group]], fun m _ A v A' => A' = A ∧ v = .bool (decide (MemOk m))⟩

set_option maxRecDepth 100000 in
set_option maxHeartbeats 0 in
theorem rmem_ok : FOk Tryz.prog 66 rmemS := by
  refine fok_v mixed fun ⟨id, role, weight, group⟩ vs A hp => ?_
  obtain rfl : vs = [.agg #[.int .i64 id, .int .u8 role, .int .i64 weight, .int .i64 group]] := hp
  refine ⟨noC, noL, 60, noC_sound _, noL_sound _, fun blk os out tape D hD => ?_⟩
  have bad : ¬ MemOk ⟨id, role, weight, group⟩ → A = A ∧ Value.bool false = .bool (decide (MemOk ⟨id, role, weight, group⟩)) := fun hb => ⟨rfl, by rw [decide_eq_false hb]⟩
  have good : ∀ b : Bool, (b = true ↔ MemOk ⟨id, role, weight, group⟩) → A = A ∧ Value.bool b = .bool (decide (MemOk ⟨id, role, weight, group⟩)) := fun b hb => ⟨rfl, by
    congr 1
    rw [Bool.eq_iff_iff, hb, decide_eq_true_iff]⟩
  conv => lhs; whnf
  refine split_dec (fun h1 => ?_) (fun h1 => ?_) <;> (conv => lhs; whnf)
  · exact (hD _).2 (bad fun hB => by unfold MemOk at hB; dsimp only at hB; omega)
  refine split_dec (fun h2 => ?_) (fun h2 => ?_) <;> (conv => lhs; whnf)
  · exact (hD _).2 (bad fun hB => by unfold MemOk at hB; dsimp only at hB; omega)
  refine split_dec (fun h3 => ?_) (fun h3 => ?_) <;> (conv => lhs; whnf)
  · refine split_dec (fun h4 => ?_) (fun h4 => ?_) <;> (conv => lhs; whnf)
    · exact (hD _).2 (good (decide (group = 0)) (by unfold MemOk; simp only [decide_eq_true_iff]; omega))
    · exact (hD _).2 (bad fun hB => by unfold MemOk at hB; dsimp only at hB; omega)
  refine split_dec (fun h4 => ?_) (fun h4 => ?_) <;> (conv => lhs; whnf)
  rotate_left
  · exact (hD _).2 (bad fun hB => by unfold MemOk at hB; dsimp only at hB; omega)
  refine split_dec (fun h5 => ?_) (fun h5 => ?_) <;> (conv => lhs; whnf)
  rotate_left
  · exact (hD _).2 (bad fun hB => by unfold MemOk at hB; dsimp only at hB; omega)
  refine split_dec (fun h6 => ?_) (fun h6 => ?_) <;> (conv => lhs; whnf)
  rotate_left
  · exact (hD _).2 (bad fun hB => by unfold MemOk at hB; dsimp only at hB; omega)
  refine split_dec (fun h7 => ?_) (fun h7 => ?_) <;> (conv => lhs; whnf)
  rotate_left
  · exact (hD _).2 (bad fun hB => by unfold MemOk at hB; dsimp only at hB; omega)
  exact (hD _).2 (good (decide (group < 7)) (by unfold MemOk; simp only [decide_eq_true_iff]; omega))

theorem ensGo_snoc : ∀ (xs : List MemD) (l w : Int) (m : MemD), ensGo l w (xs ++ [m]) = match ensGo l w xs with
    | some (l', w') => if memberOk l' m = true then some (m.id, w' + m.weight) else none
    | none => none
  | [], l, w, m => by
    show (if memberOk l m = true then ensGo m.id (w + m.weight) [] else none) = _
    rfl
  | x :: xs, l, w, m => by
    show (if memberOk l x = true then ensGo x.id (w + x.weight) (xs ++ [m]) else none) = match (if memberOk l x = true then ensGo x.id (w + x.weight) xs else none) with
      | some (l', w') => if memberOk l' m = true then some (m.id, w' + m.weight) else none
      | none => none
    by_cases h : memberOk l x = true
    · rw [if_pos h, if_pos h, ensGo_snoc xs]
    · rw [if_neg h, if_neg h]

theorem ensGo_app : ∀ (xs ys : List MemD) (l w : Int), ensGo l w xs = none → ensGo l w (xs ++ ys) = none
  | [], _, _, _, h => by cases h
  | x :: xs, ys, l, w, h => by
    have h : (if memberOk l x = true then ensGo x.id (w + x.weight) xs else none) = none := h
    show (if memberOk l x = true then ensGo x.id (w + x.weight) (xs ++ ys) else none) = none
    by_cases hm : memberOk l x = true
    · rw [if_pos hm] at h ⊢
      exact ensGo_app xs ys _ _ h
    · rw [if_neg hm]

structure EnI (ms : List MemD) (s : Nat × Int) : Prop where
  le : s.1 ≤ ms.length
  go : ∃ last, ensGo 0 0 (ms.take s.1) = some (last, s.2) ∧ (s.1 = 0 → last = 0) ∧ (∀ h : s.1 - 1 < ms.length, 0 < s.1 → last = ms[s.1 - 1].id ∧ 1 ≤ last)
  lo : 0 ≤ s.2
  hi : s.2 ≤ 1000 * s.1

def renInv (A : Arena) (ms : List MemD) : LInv := { γ := Nat × Int, G := EnI ms, keepS := [1], keepB := [0], sl := fun s => [(3, .v (.int .i64 s.2)), (4, .v (.int .i64 s.1))], bl := fun _ => [], ar := fun _ => A, mu := fun s => ms.length - s.1 }

def renS : FSpec := ⟨Int × List MemD, fun g vs A => ∃ vm, vs = [.agg #[.int .i64 g.1, vm]] ∧ MemR A vm g.2, fun g _ A v A' => A' = A ∧ ∃ z, v = .int .i64 z ∧ (z = 0 ↔ ensD g.1 g.2 = 0)⟩

set_option maxRecDepth 100000 in
set_option maxHeartbeats 0 in
theorem ren_ok : FOk Tryz.prog 47 renS := by
  refine fok_v mixed fun ⟨ver, ms⟩ vs A hp => ?_
  obtain ⟨vm, rfl, ⟨ao, c, rfl, hc, hml, ha1, ha2, ha3⟩, hm32⟩ : ∃ vm, vs = [.agg #[.int .i64 ver, vm]] ∧ MemR A vm ms := hp
  have hC : CTSound Tryz.prog (lookC [specE 66 rmemS] noC) := lookC_sound (noC_sound _) (fun x hx => by
    simp only [List.mem_singleton] at hx
    subst hx; exact specE_ok rmem_ok)
  refine ⟨_, tabO Tryz.prog _ noL 60 [(47, 0)], 60, hC, tabO_sound mixed hC (noL_sound _) _ _, fun blk os out tape D hD => ?_⟩
  have hend : ∀ z : Int, (z = 0 ↔ ensD ver ms = 0) → A = A ∧ ∃ z', Value.int .i64 z = .int .i64 z' ∧ (z' = 0 ↔ ensD ver ms = 0) := fun z h => ⟨rfl, z, rfl, h⟩
  conv => lhs; whnf
  refine split_dec (fun h7 => ?_) (fun h7 => ?_) <;> (conv => lhs; whnf)
  · have h7 : (7 : Int) < (ms.length : Int) := h7
    exact (hD _).2 (hend 3 (by
      unfold ensD
      rw [if_pos (by omega)]))
  have h7 : ms.length ≤ 7 := by
    have h7 : ¬ (7 : Int) < (ms.length : Int) := h7
    omega
  have hI0 : EnI ms (0, 0) := ⟨Nat.zero_le _, ⟨0, rfl, fun _ => rfl, fun _ h => absurd h (Nat.lt_irrefl _)⟩, Int.le_refl _, Int.le_refl _⟩
  refine (hD _).2 ⟨renInv A ms, ⟨((0, 0) : Nat × Int), hI0, ⟨rfl, rfl, trivial⟩, trivial, rfl⟩, fun (s : Nat × Int) hG => ⟨⟨trivial, trivial, trivial⟩, trivial, ?_⟩⟩
  obtain ⟨k, w⟩ := s
  obtain ⟨hk, ⟨last, hgo, hl0, hl1⟩, hw0, hw1⟩ : EnI ms (k, w) := hG
  dsimp only at hk hgo hl0 hl1 hw0 hw1
  conv => lhs; whnf
  refine split_dec (fun hlt => ?_) (fun hlt => ?_) <;> (conv => lhs; whnf)
  rotate_left
  · have e : k = ms.length := by
      have hlt : ¬ (k : Int) < (ms.length : Int) := hlt
      omega
    rw [e, List.take_length] at hgo
    have hen : ensD ver ms = 0 ↔ ¬ (w = 0 ∨ ver < 0 ∨ 4611686018427387904 < ver) := by
      unfold ensD
      rw [if_neg (by omega), hgo]
      dsimp only
      by_cases h : w = 0 ∨ ver < 0 ∨ 4611686018427387904 < ver
      · rw [if_pos h]
        simp [h]
      · rw [if_neg h]
        simp [h]
    refine split_dec (fun h1 => ?_) (fun h1 => ?_) <;> (conv => lhs; whnf)
    · exact (hD _).2 (hend 140 (by rw [hen]; omega))
    refine split_dec (fun h2 => ?_) (fun h2 => ?_) <;> (conv => lhs; whnf)
    · exact (hD _).2 (hend 140 (by rw [hen]; omega))
    refine split_dec (fun h3 => ?_) (fun h3 => ?_) <;> (conv => lhs; whnf)
    · exact (hD _).2 (hend 140 (by rw [hen]; omega))
    · exact (hD _).2 (hend 0 (by rw [hen]; omega))
  have hkl : k < ms.length := by
    have hlt : (k : Int) < (ms.length : Int) := hlt
    omega
  obtain ⟨g0, o, rfl, hra⟩ := Sl.at_ hc ha1 ha2 ha3 (by omega)
  have r1 := mem_at hra k hkl rfl
  have r1i : A.rd g0 (o + k * 4) 1 = some [.int .i64 ms[k].id] := rd_at r1 (i := 0) (m := 1) (by omega)
  have r1w : A.rd g0 (o + k * 4 + 2) 1 = some [.int .i64 ms[k].weight] := rd_at r1 (i := 2) (m := 1) (by omega)
  have i0 : (0 : Int) ≤ (k : Int) ∧ (k : Int) < (ms.length : Int) := by omega
  have hlast : 0 ≤ last := by
    rcases Nat.eq_zero_or_pos k with h | h
    · rw [hl0 h]
      exact Int.le_refl _
    · have := (hl1 (by omega) h).2
      omega
  have hsn : ensGo 0 0 (ms.take (k + 1)) = if memberOk last ms[k] = true then some (ms[k].id, w + ms[k].weight) else none := by
    rw [List.take_succ_eq_append_getElem hkl, ensGo_snoc, hgo]
  have hnone : memberOk last ms[k] ≠ true → ensD ver ms = 140 := fun h => by
    rw [if_neg h] at hsn
    have h2 := ensGo_app (ms.take (k + 1)) (ms.drop (k + 1)) 0 0 hsn
    rw [List.take_append_drop] at h2
    unfold ensD
    rw [if_neg (by omega), h2]
  have hmo := memOk_iff hlast ms[k]
  repeat (first | refine go_in i0 ?_ | refine go_rd r1 ?_
          conv => lhs; whnf)
  refine (hD _).2 ⟨ms[k], rfl, fun v A9 hq => ?_⟩
  have hq : A9 = A ∧ v = .bool (decide (MemOk ms[k])) := hq
  have h9 := hq.1.symm
  have hv := hq.2
  subst h9
  by_cases hm : MemOk ms[k]
  rotate_left
  · rw [decide_eq_false hm] at hv
    subst hv
    conv => lhs; whnf
    exact (hD _).2 (hend 140 (by rw [hnone fun h => hm (hmo.1 h).1]))
  rw [decide_eq_true hm] at hv
  subst hv
  have hwt : 0 ≤ ms[k].weight ∧ ms[k].weight ≤ 1000 := by
    rcases hm.2.2 with h | h <;> omega
  have hgood : last < ms[k].id → EnI ms (k + 1, w + ms[k].weight) := fun hlt2 => by
    rw [if_pos (hmo.2 ⟨hm, hlt2⟩)] at hsn
    exact ⟨hkl, ⟨ms[k].id, hsn, fun h => absurd h (Nat.succ_ne_zero k), fun h _ => ⟨rfl, hm.1⟩⟩, by show 0 ≤ w + ms[k].weight; omega, by show w + ms[k].weight ≤ 1000 * ((k + 1 : Nat) : Int); omega⟩
  conv => lhs; whnf
  have hww : IntKind.i64.wrap (w + ms[k].weight) = w + ms[k].weight := by
    rw [Sx.wrap_i64 (by omega) (by omega)]
  refine split_dec (fun h0 => ?_) (fun h0 => ?_) <;> (conv => lhs; whnf)
  · have hk0 : 0 < k := by
      have h0 : (0 : Int) < (k : Int) := h0
      omega
    have hk1 : k - 1 < ms.length := by omega
    have hx : IntKind.i64.wrap ((k : Int) - 1) = ((k - 1 : Nat) : Int) := by
      rw [Sx.wrap_i64 (by omega) (by omega)]; omega
    have hin1 : (0 : Int) ≤ IntKind.i64.wrap ((k : Int) - 1) ∧ IntKind.i64.wrap ((k : Int) - 1) < (ms.length : Int) := by rw [hx]; omega
    have r0 : A.rd g0 (o + (IntKind.i64.wrap ((k : Int) - 1)).toNat * 4) 1 = some [.int .i64 ms[k - 1].id] := by
      rw [hx, Int.toNat_natCast]
      exact rd_at (mem_at hra (k - 1) hk1 rfl) (i := 0) (m := 1) (by omega)
    repeat (first | refine go_in i0 ?_ | refine go_rd r1i ?_ | refine go_in hin1 ?_ | refine go_rd r0 ?_
            conv => lhs; whnf)
    have hle := (hl1 hk1 hk0).1
    refine split_dec (fun h8 => ?_) (fun h8 => ?_) <;> (conv => lhs; whnf)
    · exact (hD _).2 (hend 140 (by rw [hnone fun h => by have := (hmo.1 h).2; omega]))
    have hI := hgood (by omega)
    repeat (first | refine go_in i0 ?_ | refine go_rd r1w ?_
            conv => lhs; whnf)
    exact (hD _).2 ⟨((k + 1, w + ms[k].weight) : Nat × Int), ⟨hI, ⟨congrArg (fun z => some (SV.v (.int .i64 z))) hww, inc_slot (k := k) (by omega), trivial⟩, trivial, rfl⟩, by show ms.length - (k + 1) < ms.length - k; omega, ⟨same1 rfl rfl, trivial⟩, ⟨same1 rfl rfl, trivial⟩⟩
  · have hk0 : k = 0 := by
      have h0 : ¬ (0 : Int) < (k : Int) := h0
      omega
    have hI := hgood (by rw [hl0 hk0]; have := hm.1; omega)
    repeat (first | refine go_in i0 ?_ | refine go_rd r1w ?_
            conv => lhs; whnf)
    exact (hD _).2 ⟨((k + 1, w + ms[k].weight) : Nat × Int), ⟨hI, ⟨congrArg (fun z => some (SV.v (.int .i64 z))) hww, inc_slot (k := k) (by omega), trivial⟩, trivial, rfl⟩, by show ms.length - (k + 1) < ms.length - k; omega, ⟨same1 rfl rfl, trivial⟩, ⟨same1 rfl rfl, trivial⟩⟩

end
end Go.Proofs.YtienbbhelhhfjaaGreatDoor

namespace Go.Proofs.YtienbbhelhhfjaaGreatDoor
open Go.Sx Go.RowKit
noncomputable section
open Classical

theorem node_fits (h : DeedH) (np : Nat) : RNodeD h np ↔ FitsD h np ∧ h.kind ≤ 3 := by
  obtain ⟨zxid, kind, ses, turn, xid, dtime, path, data, owner, ver, cver, tmo, err, cfg, mem⟩ := h
  unfold RNodeD FitsD BareD
  dsimp only
  by_cases k1 : kind = 1
  · subst k1
    simp [hasK, hasTab]
    constructor <;> (intro h; simp_all)
  by_cases k2 : kind = 2
  · subst k2
    simp [hasK, hasTab]
    constructor <;> (intro h; simp_all)
  by_cases k3 : kind = 3
  · subst k3
    simp [hasK, hasTab]
    constructor <;> (intro h; simp_all)
  · constructor
    · rintro ⟨_, _, _, _, _, _, h | ⟨h | h, _⟩⟩ <;> omega
    · rintro ⟨⟨⟨_, _⟩, _⟩, h⟩
      omega

/-- The other kinds. -/
theorem rest_fits (h : DeedH) (np : Nat) (k3 : 3 < h.kind) : FitsD h np ↔ h.kind ≤ 9 ∧ BareD h np ∧ (h.kind = 4 → 1 ≤ h.tmo ∧ h.tmo ≤ 1000) ∧ (h.kind = 5 → 1 ≤ h.owner) ∧ (h.kind = 9 → 1 ≤ h.err) := by
  obtain ⟨zxid, kind, ses, turn, xid, dtime, path, data, owner, ver, cver, tmo, err, cfg, mem⟩ := h
  unfold FitsD BareD
  dsimp only at k3 ⊢
  by_cases h9 : kind ≤ 9
  · have : kind = 4 ∨ kind = 5 ∨ kind = 6 ∨ kind = 7 ∨ kind = 8 ∨ kind = 9 := by omega
    rcases this with e | e | e | e | e | e
    all_goals
      subst e
      simp [hasK, hasTab]
      first
        | (constructor <;> (intro h; simp_all; done))
        | (constructor <;> (intro h; simp_all <;> omega))
        | (intros; constructor <;> (intro h; simp_all; done))
        | (intros; simp_all; done)
  · constructor
    · rintro ⟨⟨_, _⟩, _⟩
      omega
    · rintro ⟨_, _⟩
      omega

theorem part_same (p : DeedD) : (RPartD false p ↔ PartD 2 p) ∧ (RPartD true p ↔ PartD 3 p) := by
  unfold RPartD PartD
  rw [node_fits]
  constructor
  · constructor
    · rintro ⟨h1, h2, h3, h4, h5, ⟨h6, h7⟩, h8⟩
      have h8 : p.h.kind = 2 := h8.resolve_left (by simp)
      exact ⟨h1, h2, h3, h4, h5, h6, by omega, fun _ => h8⟩
    · rintro ⟨h1, h2, h3, h4, h5, h6, h7, h8⟩
      exact ⟨h1, h2, h3, h4, h5, ⟨h6, by omega⟩, .inr (h8 rfl)⟩
  · constructor
    · rintro ⟨h1, h2, h3, h4, h5, ⟨h6, h7⟩, h8⟩
      exact ⟨h1, h2, h3, h4, h5, h6, by omega, fun h => by omega⟩
    · rintro ⟨h1, h2, h3, h4, h5, h6, h7, h8⟩
      exact ⟨h1, h2, h3, h4, h5, ⟨h6, by omega⟩, .inl rfl⟩

theorem parts_same (ds : List DeedD) (a b : Int) : (RPartsD ds a b false ↔ PartsD ds a b 2) ∧ (RPartsD ds a b true ↔ PartsD ds a b 3) := by
  unfold RPartsD PartsD
  constructor
  · exact ⟨fun h => ⟨h.1, h.2.1, fun p hp => (part_same p).1.1 (h.2.2 p hp)⟩, fun h => ⟨h.1, h.2.1, fun p hp => (part_same p).1.2 (h.2.2 p hp)⟩⟩
  · exact ⟨fun h => ⟨h.1, h.2.1, fun p hp => (part_same p).2.1 (h.2.2 p hp)⟩, fun h => ⟨h.1, h.2.1, fun p hp => (part_same p).2.2 (h.2.2 p hp)⟩⟩

/-- What all kinds ask. -/
def HeadD (h : DeedH) : Prop := 1 ≤ h.zxid ∧ h.zxid / 4294967296 ≤ 1073741824 ∧ 0 ≤ h.ses ∧ 0 ≤ h.turn ∧ 0 ≤ h.xid ∧ 0 ≤ h.time

theorem right_iff (h : DeedH) (ps : List DeedD) : RightD (.mk h ps) ↔ HeadD h ∧ BareD h ps.length ∧ ((h.kind = 1 ∨ h.kind = 2 ∨ h.kind = 3) ∧ RNodeD h ps.length ∨ h.kind = 4 ∧ 1 ≤ h.tmo ∧ h.tmo ≤ 1000 ∨ h.kind = 5 ∧ 1 ≤ h.owner ∧ RPartsD ps 0 500 false ∨ h.kind = 6 ∨ h.kind = 7 ∧ ensD h.cfg h.mem = 0 ∧ h.cfg = h.zxid ∨ h.kind = 8 ∧ RPartsD ps 1 16 true ∨ h.kind = 9 ∧ 1 ≤ h.err) := by
  rw [(parts_same ps 0 500).1, (parts_same ps 1 16).2]
  unfold RightD HeadD
  dsimp only [DeedD.h, DeedD.parts]
  by_cases k3 : 3 < h.kind
  · rw [rest_fits h ps.length k3]
    constructor
    · rintro ⟨h1, h2, h3, h4, h5, h6, ⟨h7, h8, h9, h10, h11⟩, h12, h13, h14⟩
      refine ⟨⟨h1, h2, h3, h4, h5, h6⟩, h8, ?_⟩
      have : h.kind = 4 ∨ h.kind = 5 ∨ h.kind = 6 ∨ h.kind = 7 ∨ h.kind = 8 ∨ h.kind = 9 := by omega
      rcases this with e | e | e | e | e | e
      · exact .inr (.inl ⟨e, h9 e⟩)
      · exact .inr (.inr (.inl ⟨e, h10 e, h12 e⟩))
      · exact .inr (.inr (.inr (.inl e)))
      · exact .inr (.inr (.inr (.inr (.inl ⟨e, h13 e⟩))))
      · exact .inr (.inr (.inr (.inr (.inr (.inl ⟨e, h14 e⟩)))))
      · exact .inr (.inr (.inr (.inr (.inr (.inr ⟨e, h11 e⟩)))))
    · rintro ⟨⟨h1, h2, h3, h4, h5, h6⟩, h7, h8⟩
      refine ⟨h1, h2, h3, h4, h5, h6, ?_⟩
      rcases h8 with ⟨e, _⟩ | ⟨e, h9⟩ | ⟨e, h9, h10⟩ | e | ⟨e, h9⟩ | ⟨e, h9⟩ | ⟨e, h9⟩
      · omega
      · exact ⟨⟨by omega, h7, fun _ => h9, fun h => by omega, fun h => by omega⟩, fun h => by omega, fun h => by omega, fun h => by omega⟩
      · exact ⟨⟨by omega, h7, fun h => by omega, fun _ => h9, fun h => by omega⟩, fun _ => h10, fun h => by omega, fun h => by omega⟩
      · exact ⟨⟨by omega, h7, fun h => by omega, fun h => by omega, fun h => by omega⟩, fun h => by omega, fun h => by omega, fun h => by omega⟩
      · exact ⟨⟨by omega, h7, fun h => by omega, fun h => by omega, fun h => by omega⟩, fun h => by omega, fun _ => h9, fun h => by omega⟩
      · exact ⟨⟨by omega, h7, fun h => by omega, fun h => by omega, fun h => by omega⟩, fun h => by omega, fun h => by omega, fun _ => h9⟩
      · exact ⟨⟨by omega, h7, fun h => by omega, fun h => by omega, fun _ => h9⟩, fun h => by omega, fun h => by omega, fun h => by omega⟩
  · have hn := node_fits h ps.length
    constructor
    · rintro ⟨h1, h2, h3, h4, h5, h6, h7, _⟩
      have hk : h.kind = 1 ∨ h.kind = 2 ∨ h.kind = 3 := by
        have := h7.1
        omega
      have hr := hn.2 ⟨h7, by omega⟩
      exact ⟨⟨h1, h2, h3, h4, h5, h6⟩, hr.1, .inl ⟨hk, hr⟩⟩
    · rintro ⟨⟨h1, h2, h3, h4, h5, h6⟩, h7, h8⟩
      rcases h8 with ⟨e, h9⟩ | ⟨e, h9⟩ | ⟨e, h9, h10⟩ | e | ⟨e, h9⟩ | ⟨e, h9⟩ | ⟨e, h9⟩
      · exact ⟨h1, h2, h3, h4, h5, h6, (hn.1 h9).1, fun h => by omega, fun h => by omega, fun h => by omega⟩
      all_goals omega

/-! ### Right -/

def rrightS : FSpec := ⟨DeedD, fun d vs A => ∃ cs, vs = [deedV cs] ∧ DeedR A d cs, fun d _ A v A' => A.Sub A' ∧ v = .bool (decide (RightD d))⟩

set_option maxRecDepth 100000 in
set_option maxHeartbeats 0 in
theorem rright_ok : FOk Tryz.prog 24 rrightS := by
  refine fok_v mixed fun d vs A hp => ?_
  obtain ⟨cs, rfl, hR⟩ : ∃ cs, vs = [deedV cs] ∧ DeedR A d cs := hp
  have hC : CTSound Tryz.prog (lookC [specE 44 bareS, specE 45 rnodeS, specE 46 rpartsS, specE 47 renS] noC) := lookC_sound (noC_sound _) (fun x hx => by
    simp only [List.mem_cons, List.not_mem_nil, or_false] at hx
    rcases hx with rfl | rfl | rfl | rfl
    · exact specE_ok bare_ok
    · exact specE_ok rnode_ok
    · exact specE_ok rparts_ok
    · exact specE_ok ren_ok)
  refine ⟨_, noL, 60, hC, noL_sound _, fun blk os out tape D hD => ?_⟩
  have hR0 := hR
  obtain ⟨⟨zxid, kind, ses, turn, xid, time, path, data, owner, ver, cver, tmo, err, cfg, mem⟩, parts⟩ := d
  rw [DeedR] at hR
  dsimp only [DeedH.cells] at hR
  obtain ⟨vd, vm, vp, rows, rfl, -, ⟨⟨a7, k7, rfl, -⟩, -⟩, hM, hS, hlen, hRows⟩ := hR
  obtain ⟨a14, k14, rfl⟩ := hM.1.form
  obtain ⟨a15, k15, rfl⟩ := hS.form
  have hri := right_iff ⟨zxid, kind, ses, turn, xid, time, path, data, owner, ver, cver, tmo, err, cfg, mem⟩ parts
  have bad : ∀ A2, A.Sub A2 → ¬ RightD (.mk ⟨zxid, kind, ses, turn, xid, time, path, data, owner, ver, cver, tmo, err, cfg, mem⟩ parts) → A.Sub A2 ∧ Value.bool false = .bool (decide (RightD (.mk ⟨zxid, kind, ses, turn, xid, time, path, data, owner, ver, cver, tmo, err, cfg, mem⟩ parts))) := fun A2 h2 h => ⟨h2, by rw [decide_eq_false h]⟩
  have fin : ∀ A2 (b : Bool), A.Sub A2 → (b = true ↔ RightD (.mk ⟨zxid, kind, ses, turn, xid, time, path, data, owner, ver, cver, tmo, err, cfg, mem⟩ parts)) → A.Sub A2 ∧ Value.bool b = .bool (decide (RightD (.mk ⟨zxid, kind, ses, turn, xid, time, path, data, owner, ver, cver, tmo, err, cfg, mem⟩ parts))) := fun A2 b h2 h => ⟨h2, by
    congr 1
    rw [Bool.eq_iff_iff, decide_eq_true_eq]
    exact h⟩
  unfold HeadD at hri
  dsimp only at hri
  have hs := Arena.Sub.refl A
  conv => lhs; whnf
  refine split_dec (fun h1 => ?_) (fun h1 => ?_) <;> (conv => lhs; whnf)
  · exact (hD _).2 (bad A hs fun h => by have := hri.1 h; omega)
  have hz : zxid.fdiv (2 ^ min (Int.toNat 32) IntKind.i64.bits) = zxid / 4294967296 := by
    show zxid.fdiv 4294967296 = _
    rw [Int.fdiv_eq_ediv_of_nonneg _ (by decide)]
  refine split_dec (fun h2 => ?_) (fun h2 => ?_) <;> (conv => lhs; whnf)
  rotate_left
  · exact (hD _).2 (bad A hs fun h => by omega)
  refine split_nd (fun h3 => ?_) (fun h3 => ?_) <;> (conv => lhs; whnf)
  rotate_left
  · rw [hz] at h3
    exact (hD _).2 (bad A hs fun h => by have := (hri.1 h).1; omega)
  rw [hz] at h3
  refine split_dec (fun h4 => ?_) (fun h4 => ?_) <;> (conv => lhs; whnf)
  · exact (hD _).2 (bad A hs fun h => by have := (hri.1 h).1; omega)
  refine split_dec (fun h5 => ?_) (fun h5 => ?_) <;> (conv => lhs; whnf)
  · exact (hD _).2 (bad A hs fun h => by have := (hri.1 h).1; omega)
  refine split_dec (fun h6 => ?_) (fun h6 => ?_) <;> (conv => lhs; whnf)
  · exact (hD _).2 (bad A hs fun h => by have := (hri.1 h).1; omega)
  refine split_dec (fun h7 => ?_) (fun h7 => ?_) <;> (conv => lhs; whnf)
  · exact (hD _).2 (bad A hs fun h => by have := (hri.1 h).1; omega)
  refine (hD _).2 ⟨(.mk ⟨zxid, kind, ses, turn, xid, time, path, data, owner, ver, cver, tmo, err, cfg, mem⟩ parts : DeedD), ⟨_, rfl, hR0⟩, fun v A9 hq => ?_⟩
  have hq : A9 = A ∧ v = .bool (decide (BareD ⟨zxid, kind, ses, turn, xid, time, path, data, owner, ver, cver, tmo, err, cfg, mem⟩ parts.length)) := hq
  have h9 := hq.1.symm
  have hv := hq.2
  subst h9
  by_cases hb : BareD ⟨zxid, kind, ses, turn, xid, time, path, data, owner, ver, cver, tmo, err, cfg, mem⟩ parts.length
  rotate_left
  · rw [decide_eq_false hb] at hv
    subst hv
    conv => lhs; whnf
    exact (hD _).2 (bad A hs fun h => hb (hri.1 h).2.1)
  rw [decide_eq_true hb] at hv
  subst hv
  have hrest : RightD (.mk ⟨zxid, kind, ses, turn, xid, time, path, data, owner, ver, cver, tmo, err, cfg, mem⟩ parts : DeedD) ↔ ((kind = 1 ∨ kind = 2 ∨ kind = 3) ∧ RNodeD ⟨zxid, kind, ses, turn, xid, time, path, data, owner, ver, cver, tmo, err, cfg, mem⟩ parts.length ∨ kind = 4 ∧ 1 ≤ tmo ∧ tmo ≤ 1000 ∨ kind = 5 ∧ 1 ≤ owner ∧ RPartsD parts 0 500 false ∨ kind = 6 ∨ kind = 7 ∧ ensD cfg mem = 0 ∧ cfg = zxid ∨ kind = 8 ∧ RPartsD parts 1 16 true ∨ kind = 9 ∧ 1 ≤ err) := hri.trans ⟨fun h => h.2.2, fun h => ⟨by omega, hb, h⟩⟩
  clear hri
  have hnode : (kind = 1 ∨ kind = 2 ∨ kind = 3) → ∀ A1 (b : Bool), A.Sub A1 → b = decide (RNodeD ⟨zxid, kind, ses, turn, xid, time, path, data, owner, ver, cver, tmo, err, cfg, mem⟩ parts.length) → A.Sub A1 ∧ Value.bool b = .bool (decide (RightD (.mk ⟨zxid, kind, ses, turn, xid, time, path, data, owner, ver, cver, tmo, err, cfg, mem⟩ parts : DeedD))) := fun hk A1 b s1 hb1 => fin A1 b s1 (by
    rw [hb1, decide_eq_true_iff, hrest]
    constructor
    · exact fun h => .inl ⟨hk, h⟩
    · rintro (⟨_, h⟩ | h)
      · exact h
      · omega)
  conv => lhs; whnf
  refine split_dec (fun k1 => ?_) (fun k1 => ?_) <;> (conv => lhs; whnf)
  · have e2 : ¬ kind = 2 := by omega
    have e3 : ¬ kind = 3 := by omega
    repeat (first | refine go_dec k1 ?_ | refine no_dec e2 ?_ | refine no_dec e3 ?_
            conv => lhs; whnf)
    refine (hD _).2 ⟨(.mk ⟨zxid, kind, ses, turn, xid, time, path, data, owner, ver, cver, tmo, err, cfg, mem⟩ parts : DeedD), ⟨_, rfl, hR0⟩, fun v A1 hq => ?_⟩
    have hq : A.Sub A1 ∧ v = .bool (decide (RNodeD ⟨zxid, kind, ses, turn, xid, time, path, data, owner, ver, cver, tmo, err, cfg, mem⟩ parts.length)) := hq
    obtain ⟨s1, hv⟩ := hq
    subst hv
    have hend := hnode (by omega) A1 _ s1 rfl
    conv => lhs; whnf
    exact (hD _).2 hend
  refine split_dec (fun k2 => ?_) (fun k2 => ?_) <;> (conv => lhs; whnf)
  · have e1 : ¬ kind = 1 := by omega
    have e3 : ¬ kind = 3 := by omega
    repeat (first | refine go_dec k2 ?_ | refine no_dec e1 ?_ | refine no_dec e3 ?_
            conv => lhs; whnf)
    refine (hD _).2 ⟨(.mk ⟨zxid, kind, ses, turn, xid, time, path, data, owner, ver, cver, tmo, err, cfg, mem⟩ parts : DeedD), ⟨_, rfl, hR0⟩, fun v A1 hq => ?_⟩
    have hq : A.Sub A1 ∧ v = .bool (decide (RNodeD ⟨zxid, kind, ses, turn, xid, time, path, data, owner, ver, cver, tmo, err, cfg, mem⟩ parts.length)) := hq
    obtain ⟨s1, hv⟩ := hq
    subst hv
    have hend := hnode (by omega) A1 _ s1 rfl
    conv => lhs; whnf
    exact (hD _).2 hend
  refine split_dec (fun k3 => ?_) (fun k3 => ?_) <;> (conv => lhs; whnf)
  · have e1 : ¬ kind = 1 := by omega
    have e2 : ¬ kind = 2 := by omega
    repeat (first | refine go_dec k3 ?_ | refine no_dec e1 ?_ | refine no_dec e2 ?_
            conv => lhs; whnf)
    refine (hD _).2 ⟨(.mk ⟨zxid, kind, ses, turn, xid, time, path, data, owner, ver, cver, tmo, err, cfg, mem⟩ parts : DeedD), ⟨_, rfl, hR0⟩, fun v A1 hq => ?_⟩
    have hq : A.Sub A1 ∧ v = .bool (decide (RNodeD ⟨zxid, kind, ses, turn, xid, time, path, data, owner, ver, cver, tmo, err, cfg, mem⟩ parts.length)) := hq
    obtain ⟨s1, hv⟩ := hq
    subst hv
    have hend := hnode (by omega) A1 _ s1 rfl
    conv => lhs; whnf
    exact (hD _).2 hend
  repeat (first | refine no_dec k1 ?_ | refine no_dec k2 ?_ | refine no_dec k3 ?_
          conv => lhs; whnf)
  refine split_dec (fun k4 => ?_) (fun k4 => ?_) <;> (conv => lhs; whnf)
  · refine split_dec (fun t1 => ?_) (fun t1 => ?_) <;> (conv => lhs; whnf)
    · exact (hD _).2 (fin A (decide (tmo ≤ 1000)) hs (by rw [decide_eq_true_iff, hrest]; omega))
    · exact (hD _).2 (bad A hs fun h => by have := hrest.1 h; omega)
  refine split_dec (fun k5 => ?_) (fun k5 => ?_) <;> (conv => lhs; whnf)
  · refine split_dec (fun t1 => ?_) (fun t1 => ?_) <;> (conv => lhs; whnf)
    rotate_left
    · exact (hD _).2 (bad A hs fun h => by have := hrest.1 h; omega)
    refine (hD _).2 ⟨(parts, 0, 500, false), ⟨_, rfl, ⟨rows, hS, hlen, hRows⟩⟩, fun v A1 hq => ?_⟩
    have hq : A.Sub A1 ∧ v = .bool (decide (RPartsD parts 0 500 false)) := hq
    obtain ⟨s1, hv⟩ := hq
    subst hv
    have hend := fin A1 (decide (RPartsD parts 0 500 false)) s1 (by
      rw [decide_eq_true_iff, hrest]
      constructor
      · exact fun h => .inr (.inr (.inl ⟨k5, t1, h⟩))
      · rintro (h | h | ⟨_, _, h⟩ | h | h | h | h)
        · omega
        · omega
        · exact h
        all_goals omega)
    conv => lhs; whnf
    exact (hD _).2 hend
  refine split_dec (fun k6 => ?_) (fun k6 => ?_) <;> (conv => lhs; whnf)
  · exact (hD _).2 (fin A true hs (iff_of_true rfl (hrest.2 (by omega))))
  refine split_dec (fun k7 => ?_) (fun k7 => ?_) <;> (conv => lhs; whnf)
  · refine (hD _).2 ⟨(cfg, mem), ⟨_, rfl, hM⟩, fun v A9 hq => ?_⟩
    have hq : A9 = A ∧ ∃ z, v = .int .i64 z ∧ (z = 0 ↔ ensD cfg mem = 0) := hq
    obtain ⟨h9, z, hv, hz0⟩ := hq
    have h9 := h9.symm
    subst h9
    subst hv
    conv => lhs; whnf
    refine split_dec (fun t1 => ?_) (fun t1 => ?_) <;> (conv => lhs; whnf)
    · have hend := fin A (decide (cfg = zxid)) hs (by rw [decide_eq_true_iff, hrest]; omega)
      exact (hD _).2 hend
    · exact (hD _).2 (bad A hs fun h => by have := hrest.1 h; omega)
  refine split_dec (fun k8 => ?_) (fun k8 => ?_) <;> (conv => lhs; whnf)
  · refine (hD _).2 ⟨(parts, 1, 16, true), ⟨_, rfl, ⟨rows, hS, hlen, hRows⟩⟩, fun v A1 hq => ?_⟩
    have hq : A.Sub A1 ∧ v = .bool (decide (RPartsD parts 1 16 true)) := hq
    obtain ⟨s1, hv⟩ := hq
    subst hv
    have hend := fin A1 (decide (RPartsD parts 1 16 true)) s1 (by
      rw [decide_eq_true_iff, hrest]
      constructor
      · exact fun h => .inr (.inr (.inr (.inr (.inr (.inl ⟨k8, h⟩)))))
      · rintro (h | h | h | h | h | ⟨_, h⟩ | h)
        · omega
        · omega
        · omega
        · omega
        · omega
        · exact h
        · omega)
    conv => lhs; whnf
    exact (hD _).2 hend
  refine split_dec (fun k9 => ?_) (fun k9 => ?_) <;> (conv => lhs; whnf)
  · exact (hD _).2 (fin A (decide (1 ≤ err)) hs (by rw [decide_eq_true_iff, hrest]; omega))
  · exact (hD _).2 (bad A hs fun h => by have := hrest.1 h; omega)

end
end Go.Proofs.YtienbbhelhhfjaaGreatDoor

namespace Go.Proofs.YtienbbhelhhfjaaGreatDoor
open Go.Sx Go.RowKit
noncomputable section
open Classical

/-- What a deed rings in the document's row. -/
def rStep (z : Int) (s : List RingD × List WatchD) (d : DeedD) : List RingD × List WatchD := (s.1 ++ rRingsL d.h.kind d.h.path z s.2, unrung d.h.kind d.h.path s.2)

def rRingsW (d : DeedD) (l : List WatchD) : List RingD × List WatchD := if RightD d then d.parts.foldl (rStep d.h.zxid) (rStep d.h.zxid ([], l) d) else ([], l)

theorem rrung_len (k : Int) (p : ByteArray) (z : Int) (ws : List WatchD) : (rRingsL k p z ws).length + (unrung k p ws).length = ws.length := by
  have := rung_len k p z ws
  rw [chRings, List.length_map, sortW_length] at this
  rw [rRingsL, List.length_map]
  exact this

theorem rStep_len (z : Int) (s : List RingD × List WatchD) (d : DeedD) : (rStep z s d).1.length + (rStep z s d).2.length = s.1.length + s.2.length := by
  have := rrung_len d.h.kind d.h.path z s.2
  simp only [rStep, List.length_append]
  omega

theorem rSteps_len (z : Int) : ∀ (ds : List DeedD) (s : List RingD × List WatchD), (ds.foldl (rStep z) s).1.length + (ds.foldl (rStep z) s).2.length = s.1.length + s.2.length
  | [], _ => rfl
  | d :: ds, s => by rw [List.foldl_cons, rSteps_len z ds, rStep_len]

theorem rSteps_snoc (z : Int) (ds : List DeedD) (s : List RingD × List WatchD) {k : Nat} (hk : k < ds.length) : (ds.take (k + 1)).foldl (rStep z) s = rStep z ((ds.take k).foldl (rStep z) s) ds[k] := by
  rw [List.take_succ_eq_append_getElem hk, List.foldl_append]
  rfl

theorem grow_base {A A1 A2 : Arena} {es n : Nat} {e : TypeId} {v : Value} {cs : List Value} (s : A.Sub A1) (h : GrowR A1 A2 es e n v cs) : GrowR A A2 es e n v cs := by
  obtain ⟨h1, h2 | ⟨g, nc, c, h3, h4, h4', h5, h6, h7⟩⟩ := h
  · exact ⟨h1, .inl h2⟩
  · refine ⟨h1, .inr ⟨g, nc, c, h3, h4, h4', ?_, h6, h7⟩⟩
    cases hA : A.blk g with
    | none => rfl
    | some o => rw [s g o hA] at h5; cases h5

theorem deed_plen {B : Arena} {d : DeedD} {cs : List Value} (h : DeedR B d cs) : d.h.path.data.toList.length ≤ 140737488351232 := by
  cases d
  rw [DeedR] at h
  obtain ⟨_, _, _, _, _, h, _⟩ := h
  exact h

theorem _root_.Go.Proofs.YtienbbhelhhfjaaGreatDoor.RtToV.early {A A1 A2 S : Arena} {r : Nat} {l : List WatchD} {v : Value} (h : RtToV A1 S r l A2 v) (s : A.Sub A1) : RtToV A S r l A2 v := by
  have ht := RtTo.early s h.to
  obtain ⟨S', h1, h2, h3⟩ := h.at_
  refine ⟨⟨S', h1, fun k o hk => (h2 k o hk).imp id fun h4 => ?_, h3⟩, ht.keep, ht.dom⟩
  cases hA : A.blk k with
  | none => rfl
  | some o' => rw [s k o' hA] at h4; cases h4

def rRingInv (A0 S : Arena) (r : Nat) (s0 : List RingD × List WatchD) (z : Int) (ds : List DeedD) : LInv :=
  { γ := RiG, G := fun g => g.k ≤ ds.length ∧ RtToV A0 S r ((ds.take g.k).foldl (rStep z) s0).2 g.A g.v ∧ GrowR A0 g.A 5 75 ((ds.take g.k).foldl (rStep z) s0).1.length g.v (((ds.take g.k).foldl (rStep z) s0).1.flatMap RingD.cells),
    keepS := [0, 3], keepB := [0], sl := fun g => [(5, .v g.v), (6, .v (.int .i64 g.k))], bl := fun _ => [], ar := fun g => g.A, mu := fun g => ds.length - g.k }

def rRingS : FSpec := ⟨(Arena × Nat × List WatchD) × DeedD × Arena, fun g vs A => ∃ cs, vs = [.pointer (some ⟨g.1.2.1, 0, none⟩), deedV cs] ∧ RtAt A g.1.1 g.1.2.1 g.1.2.2 ∧ DeedR g.2.2 g.2.1 cs ∧ g.2.2.Sub A ∧ g.2.2.blk g.1.2.1 = none,
  fun g _ A v A' => RtTo A g.1.1 g.1.2.1 (rRingsW g.2.1 g.1.2.2).2 A' ∧ GrowR A A' 5 75 (rRingsW g.2.1 g.1.2.2).1.length v ((rRingsW g.2.1 g.1.2.2).1.flatMap RingD.cells)⟩

set_option maxRecDepth 100000 in
set_option maxHeartbeats 0 in
theorem rRing_ok : FOk Tryz.prog 12 rRingS := by
  refine fok_v mixed fun ⟨⟨S, r, l⟩, d, B⟩ vs A hp => ?_
  obtain ⟨cs, rfl, hR, hD0, hBA, hBr⟩ : ∃ cs, vs = [.pointer (some ⟨r, 0, none⟩), deedV cs] ∧ RtAt A S r l ∧ DeedR B d cs ∧ B.Sub A ∧ B.blk r = none := hp
  have hC : CTSound Tryz.prog (lookC [specE 25 rChangeS, specE 24 rrightS] noC) := lookC_sound (noC_sound _) (fun x hx => by
    simp only [List.mem_cons, List.not_mem_nil, or_false] at hx
    rcases hx with rfl | rfl
    · exact specE_ok rChange_ok
    · exact specE_ok rright_ok)
  have hDA := DeedR.sub hBA _ _ hD0
  obtain ⟨hd, parts⟩ := d
  have hD1 := hD0
  rw [DeedR] at hD0
  obtain ⟨vd, vm, vp, rows, rfl, hpl, ⟨hs1, _⟩, ⟨hs2, _⟩, hs3, hpp, hps⟩ := hD0
  obtain ⟨a7, k7, rfl⟩ := hs1.form
  obtain ⟨a14, k14, rfl⟩ := hs2.form
  obtain ⟨ao, c, rfl, hc, _, ha1, ha2, ha3⟩ := hs3
  refine ⟨_, tabO Tryz.prog _ noL 60 [(12, 0)], 60, hC, tabO_sound mixed hC (noL_sound _) _ _, fun blk os out tape D hD => ?_⟩
  conv => lhs; whnf
  refine (hD _).2 ⟨.mk hd parts, ⟨_, rfl, hDA⟩, fun v A1 hq => ?_⟩
  obtain ⟨sa, hv⟩ : A.Sub A1 ∧ v = .bool (decide (RightD (.mk hd parts))) := hq
  subst hv
  have hR1 := hR.up sa
  by_cases hr : RightD (.mk hd parts)
  · rw [decide_eq_true hr]
    conv => lhs; whnf
    refine (hD _).2 ⟨(S, r, l, hd, hd.zxid), ⟨_, _, _, _, _, _, _, _, _, rfl, hR1, hpl⟩, fun v A2 hq => ?_⟩
    obtain ⟨hT2, hG2⟩ : RtToV A1 S r (unrung hd.kind hd.path l) A2 v ∧ GrowR A1 A2 5 75 (rRingsL hd.kind hd.path hd.zxid l).length v ((rRingsL hd.kind hd.path hd.zxid l).flatMap RingD.cells) := hq
    have hse : rRingsW (.mk hd parts) l = parts.foldl (rStep hd.zxid) (rRingsL hd.kind hd.path hd.zxid l, unrung hd.kind hd.path l) := by
      unfold rRingsW
      rw [if_pos hr]
      rfl
    obtain ⟨s0, hs0⟩ : ∃ s0, s0 = (rRingsL hd.kind hd.path hd.zxid l, unrung hd.kind hd.path l) := ⟨_, rfl⟩
    rw [← hs0] at hse
    have hsl : s0.1.length + s0.2.length = l.length := by rw [hs0]; exact rrung_len _ _ _ _
    have hT2 : RtToV A S r s0.2 A2 v := by rw [hs0]; exact hT2.early sa
    have hG2 : GrowR A A2 5 75 s0.1.length v (s0.1.flatMap RingD.cells) := by rw [hs0]; exact grow_base sa hG2
    have hle := hR.le
    obtain ⟨orr, hor⟩ := hR.live
    conv => lhs; whnf
    refine (hD _).2 ⟨rRingInv A S r s0 hd.zxid parts, ⟨(⟨0, A2, v⟩ : RiG), ⟨⟨Nat.zero_le _, hT2, hG2⟩, ⟨rfl, rfl, trivial⟩, trivial, rfl⟩⟩, fun (g : RiG) hG => ⟨⟨trivial, trivial, trivial⟩, trivial, ?_⟩⟩
    obtain ⟨k, As, v1⟩ := g
    obtain ⟨hk, hTs, hGs⟩ : k ≤ parts.length ∧ RtToV A S r ((parts.take k).foldl (rStep hd.zxid) s0).2 As v1 ∧ GrowR A As 5 75 ((parts.take k).foldl (rStep hd.zxid) s0).1.length v1 (((parts.take k).foldl (rStep hd.zxid) s0).1.flatMap RingD.cells) := hG
    have hnl := rSteps_len hd.zxid (parts.take k) s0
    have hsn := fun h => rSteps_snoc hd.zxid parts s0 (k := k) h
    generalize hsg : (parts.take k).foldl (rStep hd.zxid) s0 = sg at hTs hGs hnl hsn
    obtain ⟨rs, wk⟩ := sg
    dsimp only at hTs hGs hnl hsn
    conv => lhs; whnf
    refine split_dec (fun hlt => ?_) (fun hlt => ?_)
    rotate_left
    · have hkl : k = parts.length := by
        have hlt : ¬ ((k : Int) < (parts.length : Int)) := hlt
        omega
      have hend : rRingS.post ((S, r, l), .mk hd parts, B) [] A v1 As := by
        show RtTo A S r (rRingsW _ _).2 As ∧ GrowR A As 5 _ (rRingsW _ _).1.length _ _
        rw [hse]
        rw [hkl, List.take_length] at hsg
        rw [hsg]
        exact ⟨hTs.to, hGs⟩
      conv => lhs; whnf
      exact (hD _).2 hend
    have hlt : (k : Int) < (parts.length : Int) := hlt
    have hkl : k < parts.length := by omega
    have i0 : (0 : Int) ≤ (k : Int) ∧ (k : Int) < (parts.length : Int) := by omega
    have hsn := hsn hkl
    have hBs : B.Sub As := fun b o hb => hTs.keep b o (fun e => by
      rw [e, hBr] at hb; cases hb) (hBA b o hb)
    obtain ⟨g, o, rfl, hra⟩ := Sl.at_ hc ha1 ha2 ha3 (by omega)
    obtain ⟨ck, hck, hdk⟩ := deed_at hra hps k hkl rfl
    have hck := rd_sub hBs hck
    have hdpl := deed_plen hdk
    obtain ⟨_, _, _, _, _, _, _, _, _, rfl⟩ := hdk.form
    obtain ⟨dk, hdk9⟩ : ∃ dk, dk = parts[k] := ⟨_, rfl⟩
    rw [← hdk9] at hck hdk hsn hdpl
    obtain ⟨⟨zxid, kind, ses, turn, xid, time, path, data, owner, ver, cver, tmo, err, cfg, mem⟩, pp⟩ := dk
    obtain ⟨S2, hR2, hS2, hof⟩ := hTs.at_
    conv => lhs; whnf
    repeat (first | refine go_in i0 ?_ | refine go_rd hck ?_ | refine go_D hD rfl ?_
            conv => lhs; whnf)
    refine (hD _).2 ⟨(S2, r, wk, ⟨zxid, kind, ses, turn, xid, time, path, data, owner, ver, cver, tmo, err, cfg, mem⟩, hd.zxid), ⟨_, _, _, _, _, _, _, _, _, rfl, hR2, hdpl⟩, fun v A3 hq => ?_⟩
    obtain ⟨hT3, hG3⟩ : RtToV As S2 r (unrung kind path wk) A3 v ∧ GrowR As A3 5 75 (rRingsL kind path hd.zxid wk).length v ((rRingsL kind path hd.zxid wk).flatMap RingD.cells) := hq
    have hrl := rrung_len kind path hd.zxid wk
    have hsn : (parts.take (k + 1)).foldl (rStep hd.zxid) s0 = (rs ++ rRingsL kind path hd.zxid wk, unrung kind path wk) := hsn
    generalize rRingsL kind path hd.zxid wk = qs at hG3 hrl hsn
    generalize unrung kind path wk = wk3 at hT3 hrl hsn
    have hGs3 : GrowR A A3 5 75 rs.length v1 (rs.flatMap RingD.cells) := grow_stay hGs fun b o h1 h2 => hT3.keep b o (fun e => by
      rw [e, hor] at h1; cases h1) h2
    have hT13 : RtToV A S r wk3 A3 v1 := RtToV.next hS2 hTs.keep hTs.dom hof hGs hT3
    obtain ⟨n1, hn1⟩ : ∃ n, n = rs.length := ⟨_, rfl⟩
    obtain ⟨n2, hn2⟩ : ∃ n, n = qs.length := ⟨_, rfl⟩
    rw [← hn1] at hGs3
    rw [← hn2] at hG3
    obtain ⟨base, cp, rfl, hbase, -⟩ := hGs3.formN
    obtain ⟨b2, cp2, rfl, hb2, -⟩ := hG3.formN
    obtain ⟨hP, hA⟩ := hGs3.formB
    have hP := hP n2 40 (by omega) (by omega)
    obtain ⟨hsrc0, hsrc⟩ := grow_src hG3
    have hql := rings_len qs
    rw [← hn2] at hql
    have hfin : ∀ u A4, Appended A3 base n1 cp 5 75 (rs.flatMap RingD.cells) (qs.flatMap RingD.cells) n2 u A4 → (rRingInv A S r s0 hd.zxid parts).G ⟨k + 1, A4, u⟩ := fun u A4 hAp => by
      obtain ⟨hG4, hk4⟩ := hA _ _ _ _ hql hT13.dom hAp
      show k + 1 ≤ parts.length ∧ RtToV A S r ((parts.take (k + 1)).foldl (rStep hd.zxid) s0).2 A4 u ∧ GrowR A A4 5 75 ((parts.take (k + 1)).foldl (rStep hd.zxid) s0).1.length u (((parts.take (k + 1)).foldl (rStep hd.zxid) s0).1.flatMap RingD.cells)
      rw [hsn]
      refine ⟨hkl, hT13.app hor hbase hAp hk4 (app_dom hAp), ?_⟩
      show GrowR A A4 5 _ (rs ++ qs).length u ((rs ++ qs).flatMap RingD.cells)
      rw [List.length_append, List.flatMap_append, ← hn1, ← hn2]
      exact hG4
    rcases hbase with rfl | ⟨g1, rfl⟩ <;> rcases hb2 with rfl | ⟨g2, rfl⟩ <;> (conv => lhs; whnf)
    all_goals
      refine (hD _).2 ⟨rs.flatMap RingD.cells, qs.flatMap RingD.cells, hP.rd, by first | exact hsrc _ rfl | (show (if n2 = 0 then some [] else none) = _; rw [if_pos (hsrc0 rfl).1, (hsrc0 rfl).2]), hql, ring_one qs, by show n1 + n2 ≤ 9223372036854775807; omega, hP.cap, rfl, hP.none_, fun g' o' he' hle' _ => hP.room _ hql g' o' he' hle', fun u A4 hAp => ?_⟩
      have hG4 := hfin u A4 hAp
      conv => lhs; whnf
      exact (hD _).2 ⟨(⟨k + 1, A4, u⟩ : RiG), ⟨hG4, ⟨rfl, inc_slot (by omega), trivial⟩, trivial, rfl⟩, by show parts.length - (k + 1) < parts.length - k; omega, ⟨same1 rfl rfl, same1 rfl rfl, trivial⟩, ⟨same1 rfl rfl, trivial⟩⟩
  · rw [decide_eq_false hr]
    have hend : rRingS.post ((S, r, l), .mk hd parts, B) [] A (.slice none 0 0) A1 := by
      show RtTo A S r (rRingsW _ _).2 A1 ∧ GrowR A A1 5 _ (rRingsW _ _).1.length _ _
      unfold rRingsW
      rw [if_neg hr]
      exact ⟨RtTo.early sa (.same hR1), GrowR.nil _ _ _ _⟩
    conv => lhs; whnf
    exact (hD _).2 hend

end
end Go.Proofs.YtienbbhelhhfjaaGreatDoor

namespace Go.Proofs.YtienbbhelhhfjaaGreatDoor
open Go.Sx Go.RowKit
noncomputable section
open Classical

def rToldS : FSpec := ⟨Int × Int × NdD × Bool, fun g vs _ => ∃ a l k, vs = [.int .u8 g.1, .int .i64 g.2.1, .agg (g.2.2.1.cells (.slice a l k)).toArray, .bool g.2.2.2] ∧ 1 ≤ g.1 ∧ g.1 ≤ 3,
  fun g _ A v A' => A' = A ∧ v = .tuple #[.int .u8 (toldK g.1 g.2.1 g.2.2.1 g.2.2.2).1, .int .i64 (toldK g.1 g.2.1 g.2.2.1 g.2.2.2).2]⟩

set_option maxRecDepth 100000 in
set_option maxHeartbeats 0 in
theorem rTold_ok : FOk Tryz.prog 75 rToldS := by
  refine fok_v mixed fun ⟨sort, last, ⟨np, cz, mz, pz, ct, mt, ve, cv, ow, le, ki⟩, there⟩ vs A hp => ?_
  obtain ⟨a, l, k, rfl, h1, h3⟩ : ∃ a l k, vs = [.int .u8 sort, .int .i64 last, .agg (NdD.cells ⟨np, cz, mz, pz, ct, mt, ve, cv, ow, le, ki⟩ (.slice a l k)).toArray, .bool there] ∧ 1 ≤ sort ∧ sort ≤ 3 := hp
  have hs : sort = 1 ∨ sort = 2 ∨ sort = 3 := by omega
  clear h1 h3
  refine ⟨noC, noL, 60, noC_sound _, noL_sound _, fun blk os out tape D hD => ?_⟩
  rcases hs with rfl | rfl | rfl
  · cases there with
    | false =>
      have htk : toldK 1 last ⟨np, cz, mz, pz, ct, mt, ve, cv, ow, le, ki⟩ false = (2, 0) := by
        unfold toldK
        rw [if_pos rfl, if_neg (by omega)]
      have hend : rToldS.post (1, last, ⟨np, cz, mz, pz, ct, mt, ve, cv, ow, le, ki⟩, false) [] A (.tuple #[.int .u8 2, .int .i64 0]) A := by
        refine ⟨rfl, ?_⟩
        show _ = Value.tuple #[.int .u8 (toldK 1 last ⟨np, cz, mz, pz, ct, mt, ve, cv, ow, le, ki⟩ false).1, .int .i64 (toldK 1 last ⟨np, cz, mz, pz, ct, mt, ve, cv, ow, le, ki⟩ false).2]
        rw [htk]
      conv => lhs; whnf
      repeat (first | refine go_D hD rfl ?_
              conv => lhs; whnf)
      exact (hD _).2 hend
    | true =>
      by_cases hl : last < mz
      · have htk : toldK 1 last ⟨np, cz, mz, pz, ct, mt, ve, cv, ow, le, ki⟩ true = (3, mz) := by
          unfold toldK
          rw [if_neg (by simp), if_neg (by omega), if_neg (by omega), if_pos ⟨by omega, hl⟩]
        have hend : rToldS.post (1, last, ⟨np, cz, mz, pz, ct, mt, ve, cv, ow, le, ki⟩, true) [] A (.tuple #[.int .u8 3, .int .i64 mz]) A := by
          refine ⟨rfl, ?_⟩
          show _ = Value.tuple #[.int .u8 (toldK 1 last ⟨np, cz, mz, pz, ct, mt, ve, cv, ow, le, ki⟩ true).1, .int .i64 (toldK 1 last ⟨np, cz, mz, pz, ct, mt, ve, cv, ow, le, ki⟩ true).2]
          rw [htk]
        conv => lhs; whnf
        repeat (first | refine go_dec hl ?_ | refine go_D hD rfl ?_
                conv => lhs; whnf)
        exact (hD _).2 hend
      · have htk : toldK 1 last ⟨np, cz, mz, pz, ct, mt, ve, cv, ow, le, ki⟩ true = (0, 0) := by
          unfold toldK
          rw [if_neg (by simp), if_neg (by omega), if_neg (by omega), if_neg (fun h => hl h.2)]
        have hend : rToldS.post (1, last, ⟨np, cz, mz, pz, ct, mt, ve, cv, ow, le, ki⟩, true) [] A (.tuple #[.int .u8 0, .int .i64 0]) A := by
          refine ⟨rfl, ?_⟩
          show _ = Value.tuple #[.int .u8 (toldK 1 last ⟨np, cz, mz, pz, ct, mt, ve, cv, ow, le, ki⟩ true).1, .int .i64 (toldK 1 last ⟨np, cz, mz, pz, ct, mt, ve, cv, ow, le, ki⟩ true).2]
          rw [htk]
        conv => lhs; whnf
        repeat (first | refine no_dec hl ?_ | refine go_D hD rfl ?_
                conv => lhs; whnf)
        exact (hD _).2 hend
  · cases there with
    | false =>
      have htk : toldK 2 last ⟨np, cz, mz, pz, ct, mt, ve, cv, ow, le, ki⟩ false = (0, 0) := by
        unfold toldK
        rfl
      have hend : rToldS.post (2, last, ⟨np, cz, mz, pz, ct, mt, ve, cv, ow, le, ki⟩, false) [] A (.tuple #[.int .u8 0, .int .i64 0]) A := by
        refine ⟨rfl, ?_⟩
        show _ = Value.tuple #[.int .u8 (toldK 2 last ⟨np, cz, mz, pz, ct, mt, ve, cv, ow, le, ki⟩ false).1, .int .i64 (toldK 2 last ⟨np, cz, mz, pz, ct, mt, ve, cv, ow, le, ki⟩ false).2]
        rw [htk]
      conv => lhs; whnf
      repeat (first | refine go_D hD rfl ?_
              conv => lhs; whnf)
      exact (hD _).2 hend
    | true =>
      by_cases hc : last < cz
      · have htk : toldK 2 last ⟨np, cz, mz, pz, ct, mt, ve, cv, ow, le, ki⟩ true = (1, cz) := by
          unfold toldK
          rw [if_neg (by simp), if_neg (by omega), if_pos ⟨rfl, hc⟩]
        have hend : rToldS.post (2, last, ⟨np, cz, mz, pz, ct, mt, ve, cv, ow, le, ki⟩, true) [] A (.tuple #[.int .u8 1, .int .i64 cz]) A := by
          refine ⟨rfl, ?_⟩
          show _ = Value.tuple #[.int .u8 (toldK 2 last ⟨np, cz, mz, pz, ct, mt, ve, cv, ow, le, ki⟩ true).1, .int .i64 (toldK 2 last ⟨np, cz, mz, pz, ct, mt, ve, cv, ow, le, ki⟩ true).2]
          rw [htk]
        conv => lhs; whnf
        repeat (first | refine go_dec hc ?_ | refine go_D hD rfl ?_
                conv => lhs; whnf)
        exact (hD _).2 hend
      · by_cases hl : last < mz
        · have htk : toldK 2 last ⟨np, cz, mz, pz, ct, mt, ve, cv, ow, le, ki⟩ true = (3, mz) := by
            unfold toldK
            rw [if_neg (by simp), if_neg (by omega), if_neg (fun h => hc h.2), if_pos ⟨by omega, hl⟩]
          have hend : rToldS.post (2, last, ⟨np, cz, mz, pz, ct, mt, ve, cv, ow, le, ki⟩, true) [] A (.tuple #[.int .u8 3, .int .i64 mz]) A := by
            refine ⟨rfl, ?_⟩
            show _ = Value.tuple #[.int .u8 (toldK 2 last ⟨np, cz, mz, pz, ct, mt, ve, cv, ow, le, ki⟩ true).1, .int .i64 (toldK 2 last ⟨np, cz, mz, pz, ct, mt, ve, cv, ow, le, ki⟩ true).2]
            rw [htk]
          conv => lhs; whnf
          repeat (first | refine no_dec hc ?_ | refine go_dec hl ?_ | refine go_D hD rfl ?_
                  conv => lhs; whnf)
          exact (hD _).2 hend
        · have htk : toldK 2 last ⟨np, cz, mz, pz, ct, mt, ve, cv, ow, le, ki⟩ true = (0, 0) := by
            unfold toldK
            rw [if_neg (by simp), if_neg (by omega), if_neg (fun h => hc h.2), if_neg (fun h => hl h.2)]
          have hend : rToldS.post (2, last, ⟨np, cz, mz, pz, ct, mt, ve, cv, ow, le, ki⟩, true) [] A (.tuple #[.int .u8 0, .int .i64 0]) A := by
            refine ⟨rfl, ?_⟩
            show _ = Value.tuple #[.int .u8 (toldK 2 last ⟨np, cz, mz, pz, ct, mt, ve, cv, ow, le, ki⟩ true).1, .int .i64 (toldK 2 last ⟨np, cz, mz, pz, ct, mt, ve, cv, ow, le, ki⟩ true).2]
            rw [htk]
          conv => lhs; whnf
          repeat (first | refine no_dec hc ?_ | refine no_dec hl ?_ | refine go_D hD rfl ?_
                  conv => lhs; whnf)
          exact (hD _).2 hend
  · cases there with
    | false =>
      have htk : toldK 3 last ⟨np, cz, mz, pz, ct, mt, ve, cv, ow, le, ki⟩ false = (2, 0) := by
        unfold toldK
        rw [if_pos rfl, if_neg (by omega)]
      have hend : rToldS.post (3, last, ⟨np, cz, mz, pz, ct, mt, ve, cv, ow, le, ki⟩, false) [] A (.tuple #[.int .u8 2, .int .i64 0]) A := by
        refine ⟨rfl, ?_⟩
        show _ = Value.tuple #[.int .u8 (toldK 3 last ⟨np, cz, mz, pz, ct, mt, ve, cv, ow, le, ki⟩ false).1, .int .i64 (toldK 3 last ⟨np, cz, mz, pz, ct, mt, ve, cv, ow, le, ki⟩ false).2]
        rw [htk]
      conv => lhs; whnf
      repeat (first | refine go_D hD rfl ?_
              conv => lhs; whnf)
      exact (hD _).2 hend
    | true =>
      by_cases hl : last < mxI cz pz
      · have htk : toldK 3 last ⟨np, cz, mz, pz, ct, mt, ve, cv, ow, le, ki⟩ true = (4, (mxI cz pz)) := by
          unfold toldK
          rw [if_neg (by simp), if_pos ⟨rfl, hl⟩]
        have hend : rToldS.post (3, last, ⟨np, cz, mz, pz, ct, mt, ve, cv, ow, le, ki⟩, true) [] A (.tuple #[.int .u8 4, .int .i64 (mxI cz pz)]) A := by
          refine ⟨rfl, ?_⟩
          show _ = Value.tuple #[.int .u8 (toldK 3 last ⟨np, cz, mz, pz, ct, mt, ve, cv, ow, le, ki⟩ true).1, .int .i64 (toldK 3 last ⟨np, cz, mz, pz, ct, mt, ve, cv, ow, le, ki⟩ true).2]
          rw [htk]
        conv => lhs; whnf
        repeat (first | refine go_dec hl ?_ | refine go_D hD rfl ?_
                conv => lhs; whnf)
        exact (hD _).2 hend
      · have htk : toldK 3 last ⟨np, cz, mz, pz, ct, mt, ve, cv, ow, le, ki⟩ true = (0, 0) := by
          unfold toldK
          rw [if_neg (by simp), if_neg (fun h => hl h.2), if_neg (by omega), if_neg (by omega)]
        have hend : rToldS.post (3, last, ⟨np, cz, mz, pz, ct, mt, ve, cv, ow, le, ki⟩, true) [] A (.tuple #[.int .u8 0, .int .i64 0]) A := by
          refine ⟨rfl, ?_⟩
          show _ = Value.tuple #[.int .u8 (toldK 3 last ⟨np, cz, mz, pz, ct, mt, ve, cv, ow, le, ki⟩ true).1, .int .i64 (toldK 3 last ⟨np, cz, mz, pz, ct, mt, ve, cv, ow, le, ki⟩ true).2]
          rw [htk]
        conv => lhs; whnf
        repeat (first | refine no_dec hl ?_ | refine go_D hD rfl ?_
                conv => lhs; whnf)
        exact (hD _).2 hend

def rAgainW (w : WatchD) (last : Int) (n : NdD) (there : Bool) (ws : List WatchD) : EvD × Bool × List WatchD :=
  if mayD w.sort w.path = true then
    if (toldK w.sort last n there).1 = 0 then (noEv, false, addW w ws) else (⟨(toldK w.sort last n there).1, w.sort, w.path, (toldK w.sort last n there).2⟩, true, ws.filter fun x => !decide (x = w))
  else (noEv, false, ws)

def rAgainS : FSpec := ⟨(Arena × Nat × List WatchD) × WatchD × Int × NdD × Bool, fun g vs A => ∃ a l k, vs = [.pointer (some ⟨g.1.2.1, 0, none⟩), .int .i64 g.2.1.conn, .int .u8 g.2.1.sort, .string g.2.1.path, .int .i64 g.2.2.1, .agg (g.2.2.2.1.cells (.slice a l k)).toArray, .bool g.2.2.2.2] ∧ RtAt A g.1.1 g.1.2.1 g.1.2.2 ∧ g.2.1.path.data.toList.length ≤ 140737488351232 ∧ g.1.2.2.length < 1000000,
  fun g _ A v A' => v = .tuple #[.agg (rAgainW g.2.1 g.2.2.1 g.2.2.2.1 g.2.2.2.2 g.1.2.2).1.cells.toArray, .bool (rAgainW g.2.1 g.2.2.1 g.2.2.2.1 g.2.2.2.2 g.1.2.2).2.1] ∧ RtTo A g.1.1 g.1.2.1 (rAgainW g.2.1 g.2.2.1 g.2.2.2.1 g.2.2.2.2 g.1.2.2).2.2 A'⟩

set_option maxRecDepth 100000 in
set_option maxHeartbeats 0 in
theorem rAgain_ok : FOk Tryz.prog 52 rAgainS := by
  refine fok_v mixed fun ⟨⟨S, r, l0⟩, ⟨conn, sort, p⟩, last, ⟨np, cz, mz, pz, ct, mt, ve, cv, ow, le, ki⟩, there⟩ vs A hp => ?_
  obtain ⟨a, l, k, rfl, hR, hpl, hlt⟩ : ∃ a l k, vs = [.pointer (some ⟨r, 0, none⟩), .int .i64 conn, .int .u8 sort, .string p, .int .i64 last, .agg (NdD.cells ⟨np, cz, mz, pz, ct, mt, ve, cv, ow, le, ki⟩ (.slice a l k)).toArray, .bool there] ∧ RtAt A S r l0 ∧ p.data.toList.length ≤ 140737488351232 ∧ l0.length < 1000000 := hp
  have hC : CTSound Tryz.prog (lookC [specE 19 rMayS, specE 75 rToldS, specE 8 rAddS, specE 20 rDropS] noC) := lookC_sound (noC_sound _) (fun x hx => by
    simp only [List.mem_cons, List.not_mem_nil, or_false] at hx
    rcases hx with rfl | rfl | rfl | rfl
    · exact specE_ok rMay_ok
    · exact specE_ok rTold_ok
    · exact specE_ok rAdd_ok
    · exact specE_ok rDrop_ok)
  refine ⟨_, noL, 60, hC, noL_sound _, fun blk os out tape D hD => ?_⟩
  conv => lhs; whnf
  refine (hD _).2 ⟨(sort, p), ⟨rfl, hpl⟩, fun v A1 hq => ?_⟩
  obtain ⟨s1, hv⟩ : A.Sub A1 ∧ v = .bool (mayD sort p) := hq
  have hR1 := hR.up s1
  cases hm : mayD sort p with
  | false =>
    rw [hm] at hv
    subst hv
    have hend : rAgainS.post ((S, r, l0), ⟨conn, sort, p⟩, last, ⟨np, cz, mz, pz, ct, mt, ve, cv, ow, le, ki⟩, there) [] A (.tuple #[.agg #[.int .u8 0, .int .u8 0, .string ⟨#[]⟩, .int .i64 0], .bool false]) A1 := by
      have : rAgainW ⟨conn, sort, p⟩ last ⟨np, cz, mz, pz, ct, mt, ve, cv, ow, le, ki⟩ there l0 = (noEv, false, l0) := if_neg (by rw [hm]; exact Bool.false_ne_true)
      show _ = Value.tuple #[.agg (rAgainW _ _ _ _ _).1.cells.toArray, .bool (rAgainW _ _ _ _ _).2.1] ∧ RtTo A S r (rAgainW _ _ _ _ _).2.2 A1
      rw [this]
      exact ⟨rfl, RtTo.early s1 (.same hR1)⟩
    conv => lhs; whnf
    exact (hD _).2 hend
  | true =>
    rw [hm] at hv
    subst hv
    have hs : 1 ≤ sort ∧ sort ≤ 3 := by
      unfold mayD at hm
      simp only [Bool.and_eq_true, decide_eq_true_eq] at hm
      exact hm.1
    have hag : rAgainW ⟨conn, sort, p⟩ last ⟨np, cz, mz, pz, ct, mt, ve, cv, ow, le, ki⟩ there l0 = if (toldK sort last ⟨np, cz, mz, pz, ct, mt, ve, cv, ow, le, ki⟩ there).1 = 0 then (noEv, false, addW ⟨conn, sort, p⟩ l0) else (⟨(toldK sort last ⟨np, cz, mz, pz, ct, mt, ve, cv, ow, le, ki⟩ there).1, sort, p, (toldK sort last ⟨np, cz, mz, pz, ct, mt, ve, cv, ow, le, ki⟩ there).2⟩, true, l0.filter fun x => !decide (x = (⟨conn, sort, p⟩ : WatchD))) := if_pos hm
    conv => lhs; whnf
    refine (hD _).2 ⟨(sort, last, ⟨np, cz, mz, pz, ct, mt, ve, cv, ow, le, ki⟩, there), ⟨_, _, _, rfl, hs⟩, fun v A2 hq => ?_⟩
    obtain ⟨h9, hv⟩ : A2 = A1 ∧ v = .tuple #[.int .u8 (toldK sort last ⟨np, cz, mz, pz, ct, mt, ve, cv, ow, le, ki⟩ there).1, .int .i64 (toldK sort last ⟨np, cz, mz, pz, ct, mt, ve, cv, ow, le, ki⟩ there).2] := hq
    subst h9; subst hv
    generalize toldK sort last ⟨np, cz, mz, pz, ct, mt, ve, cv, ow, le, ki⟩ there = kz at hag ⊢
    obtain ⟨kk, zz⟩ := kz
    dsimp only at hag
    conv => lhs; whnf
    refine split_dec (fun h0 => ?_) (fun h0 => ?_)
    · have h0 : kk = 0 := h0
      rw [if_pos h0] at hag
      conv => lhs; whnf
      refine (hD _).2 ⟨(S, r, l0, (⟨conn, sort, p⟩ : WatchD)), ⟨rfl, hR1, hpl, hlt⟩, fun v A3 hq => ?_⟩
      have hq : RtTo A2 S r (if mayD sort p = true then addW ⟨conn, sort, p⟩ l0 else l0) A3 := hq
      rw [if_pos hm] at hq
      have hend : rAgainS.post ((S, r, l0), ⟨conn, sort, p⟩, last, ⟨np, cz, mz, pz, ct, mt, ve, cv, ow, le, ki⟩, there) [] A (.tuple #[.agg #[.int .u8 0, .int .u8 0, .string ⟨#[]⟩, .int .i64 0], .bool false]) A3 := by
        show _ = Value.tuple #[.agg (rAgainW _ _ _ _ _).1.cells.toArray, .bool (rAgainW _ _ _ _ _).2.1] ∧ RtTo A S r (rAgainW _ _ _ _ _).2.2 A3
        rw [hag]
        exact ⟨rfl, RtTo.early s1 hq⟩
      conv => lhs; whnf
      exact (hD _).2 hend
    · have h0 : ¬ kk = 0 := h0
      rw [if_neg h0] at hag
      conv => lhs; whnf
      refine (hD _).2 ⟨(S, r, l0, (⟨conn, sort, p⟩ : WatchD)), ⟨rfl, hR1⟩, fun v A3 hq => ?_⟩
      have hq : RtTo A2 S r (l0.filter fun x => !decide (x = (⟨conn, sort, p⟩ : WatchD))) A3 := hq
      have hend : rAgainS.post ((S, r, l0), ⟨conn, sort, p⟩, last, ⟨np, cz, mz, pz, ct, mt, ve, cv, ow, le, ki⟩, there) [] A (.tuple #[.agg #[.int .u8 kk, .int .u8 sort, .string p, .int .i64 zz], .bool true]) A3 := by
        show _ = Value.tuple #[.agg (rAgainW _ _ _ _ _).1.cells.toArray, .bool (rAgainW _ _ _ _ _).2.1] ∧ RtTo A S r (rAgainW _ _ _ _ _).2.2 A3
        rw [hag]
        exact ⟨rfl, RtTo.early s1 hq⟩
      conv => lhs; whnf
      exact (hD _).2 hend

end
end Go.Proofs.YtienbbhelhhfjaaGreatDoor

namespace Go.Proofs.YtienbbhelhhfjaaGreatDoor
open Go.Sx Go.RowKit
noncomputable section
open Classical

/-- The program's watches, the document's. -/
structure RelW (ws l : List WatchD) : Prop where
  perm : l.Perm ws
  asc : l.Pairwise wLt
  nd : ws.Nodup
  ok : WOk ws

theorem RelW.nil : RelW [] [] := ⟨.refl _, .nil, .nil, fun _ h => by cases h⟩

theorem RelW.len {ws l : List WatchD} (h : RelW ws l) : ws.length = l.length := h.perm.length_eq.symm

theorem asc_nodup {l : List WatchD} (h : l.Pairwise wLt) : l.Nodup := h.imp fun hab e => by
  subst e
  exact wLt_irrefl _ hab

theorem RelW.of_mem {ws l : List WatchD} (hm : ∀ x, x ∈ l ↔ x ∈ ws) (ha : l.Pairwise wLt) (hn : ws.Nodup) (ho : WOk ws) : RelW ws l :=
  ⟨(List.perm_ext_iff_of_nodup (asc_nodup ha) hn).2 hm, ha, hn, ho⟩

theorem RelW.filter {ws l : List WatchD} (h : RelW ws l) (f : WatchD → Bool) : RelW (ws.filter f) (l.filter f) :=
  ⟨h.perm.filter f, h.asc.filter f, h.nd.filter f, fun w hw => h.ok w (List.mem_filter.1 hw).1⟩

theorem insW_nil (w : WatchD) : insW w [] = [w] := rfl

theorem insW_cons (w x : WatchD) (l : List WatchD) : insW w (x :: l) = if wLt x w then x :: insW w l else w :: x :: l := by
  unfold insW placeW
  by_cases h : wLt x w
  · rw [if_pos h, List.takeWhile_cons, if_pos (by simpa using h), List.length_cons, List.take_succ_cons, List.drop_succ_cons, List.cons_append]
  · rw [if_neg h, List.takeWhile_cons, if_neg (by simpa using h)]
    rfl

theorem insW_mem (w : WatchD) : ∀ (l : List WatchD) (x : WatchD), x ∈ insW w l ↔ x = w ∨ x ∈ l
  | [], x => by rw [insW_nil]; simp
  | y :: l, x => by
    rw [insW_cons]
    by_cases h : wLt y w
    · rw [if_pos h, List.mem_cons, insW_mem w l x, List.mem_cons]
      constructor
      · rintro (h | h | h)
        · exact .inr (.inl h)
        · exact .inl h
        · exact .inr (.inr h)
      · rintro (h | h | h)
        · exact .inr (.inl h)
        · exact .inl h
        · exact .inr (.inr h)
    · rw [if_neg h, List.mem_cons]

theorem insW_asc {w : WatchD} : ∀ {l : List WatchD}, l.Pairwise wLt → w ∉ l → (insW w l).Pairwise wLt
  | [], _, _ => by rw [insW_nil]; exact List.pairwise_singleton _ _
  | y :: l, h, hn => by
    rw [List.pairwise_cons] at h
    have hn' : w ≠ y ∧ w ∉ l := by
      rw [List.mem_cons] at hn
      exact not_or.1 hn
    rw [insW_cons]
    by_cases hy : wLt y w
    · rw [if_pos hy, List.pairwise_cons]
      refine ⟨fun x hx => ?_, insW_asc h.2 hn'.2⟩
      rcases (insW_mem w l x).1 hx with rfl | hx
      · exact hy
      · exact h.1 x hx
    · rw [if_neg hy, List.pairwise_cons]
      have hwy : wLt w y := by
        by_cases e : wLt w y
        · exact e
        · exact absurd (wLt_total e hy) hn'.1
      refine ⟨fun x hx => ?_, List.pairwise_cons.2 h⟩
      rcases List.mem_cons.1 hx with rfl | hx
      · exact hwy
      · exact wLt_trans hwy (h.1 x hx)

theorem wPut_mem (w : WatchD) (ws : List WatchD) (x : WatchD) : x ∈ wPut w ws ↔ x = w ∨ x ∈ ws := by
  unfold wPut
  split
  · rename_i h
    constructor
    · exact .inr
    · rintro (rfl | h2)
      · exact h
      · exact h2
  · rw [List.mem_append, List.mem_singleton]
    exact Or.comm

theorem RelW.add {ws l : List WatchD} (h : RelW ws l) {w : WatchD} (hw : 1 ≤ w.sort ∧ w.sort ≤ 3) : RelW (wPut w ws) (addW w l) := by
  refine RelW.of_mem (fun x => ?_) (insW_asc (h.asc.filter _) (by simp)) (wPut_nodup h.nd) fun x hx => ?_
  · rw [addW, insW_mem, wPut_mem, List.mem_filter, h.perm.mem_iff]
    by_cases e : x = w
    · simp [e]
    · simp [e]
  · rcases (wPut_mem w ws x).1 hx with rfl | hx
    · exact hw
    · exact h.ok x hx

theorem RelW.del {ws l : List WatchD} (h : RelW ws l) (w : WatchD) : RelW (ws.erase w) (l.filter fun x => !decide (x = w)) := by
  rw [List.Nodup.erase_eq_filter h.nd]
  have : (ws.filter fun x => x != w) = ws.filter fun x => !decide (x = w) := List.filter_congr fun x _ => by
    by_cases e : x = w <;> simp [e]
  rw [this]
  exact h.filter _

theorem mayD_sort {sort : Int} {p : ByteArray} (h : mayD sort p = true) : 1 ≤ sort ∧ sort ≤ 3 := by
  unfold mayD at h
  simp only [Bool.and_eq_true, decide_eq_true_eq] at h
  exact h.1

/-- What rings is the same. -/
theorem RelW.rings {ws l : List WatchD} (h : RelW ws l) (k : Int) (p : ByteArray) (z : Int) : chRings k p z ws = rRingsL k p z l := by
  unfold chRings rRingsL
  have h1 : (rung k p l).Pairwise wLt := h.asc.filter _
  have h2 : (rung k p l).Perm (rung k p ws) := h.perm.filter _
  rw [← sortW_of_perm h2, sortW_id h1]

theorem RelW.steps {z : Int} : ∀ (ds : List DeedD) {s s' : List RingD × List WatchD}, s.1 = s'.1 → RelW s.2 s'.2 → (ds.foldl (chStep z) s).1 = (ds.foldl (rStep z) s').1 ∧ RelW (ds.foldl (chStep z) s).2 (ds.foldl (rStep z) s').2
  | [], _, _, h1, h2 => ⟨h1, h2⟩
  | d :: ds, s, s', h1, h2 => by
    rw [List.foldl_cons, List.foldl_cons]
    refine RelW.steps ds ?_ (h2.filter _)
    show s.1 ++ chRings _ _ _ s.2 = s'.1 ++ rRingsL _ _ _ s'.2
    rw [h1, h2.rings]

theorem RelW.ring {ws l : List WatchD} (h : RelW ws l) (d : DeedD) : (ringsW d ws).1 = (rRingsW d l).1 ∧ RelW (ringsW d ws).2 (rRingsW d l).2 := by
  unfold ringsW rRingsW
  by_cases hr : RightD d
  · rw [if_pos hr, if_pos hr]
    refine RelW.steps _ ?_ (h.filter _)
    show [] ++ chRings _ _ _ ws = [] ++ rRingsL _ _ _ l
    rw [h.rings]
  · rw [if_neg hr, if_neg hr]
    exact ⟨rfl, h⟩

theorem RelW.again {ws l : List WatchD} (h : RelW ws l) (w : WatchD) (last : Int) (n : NdD) (there : Bool) : (againW w last n there ws).1 = (rAgainW w last n there l).1 ∧ (againW w last n there ws).2.1 = (rAgainW w last n there l).2.1 ∧ RelW (againW w last n there ws).2.2 (rAgainW w last n there l).2.2 := by
  unfold againW rAgainW
  by_cases hm : mayD w.sort w.path = true
  · rw [if_pos hm, if_pos hm]
    by_cases hk : (toldK w.sort last n there).1 = 0
    · rw [if_pos hk, if_pos hk]
      exact ⟨rfl, rfl, h.add (mayD_sort hm)⟩
    · rw [if_neg hk, if_neg hk]
      exact ⟨rfl, rfl, h.del w⟩
  · rw [if_neg hm, if_neg hm]
    exact ⟨rfl, rfl, h⟩

theorem addW_len (w : WatchD) (l : List WatchD) : (addW w l).length ≤ l.length + 1 := by
  have := List.length_filter_le (fun x => !decide (x = w)) l
  unfold addW insW
  rw [List.length_append, List.length_cons, List.length_take, List.length_drop]
  omega

theorem rAgain_len (w : WatchD) (last : Int) (n : NdD) (there : Bool) (l : List WatchD) : (rAgainW w last n there l).2.2.length ≤ l.length + 1 := by
  unfold rAgainW
  split
  · split
    · exact addW_len w l
    · exact Nat.le_succ_of_le (List.length_filter_le _ _)
  · exact Nat.le_succ _

theorem rRings_len (d : DeedD) (l : List WatchD) : (rRingsW d l).2.length ≤ l.length := by
  unfold rRingsW
  split
  · have h1 := rSteps_len d.h.zxid d.parts (rStep d.h.zxid ([], l) d)
    have h2 := rStep_len d.h.zxid ([], l) d
    have h3 : ([] : List RingD).length + l.length = l.length := by simp
    dsimp only at h2
    omega
  · exact Nat.le_refl _

theorem rRings_tot (d : DeedD) (l : List WatchD) : (rRingsW d l).1.length + (rRingsW d l).2.length = l.length := by
  unfold rRingsW
  split
  · have h1 := rSteps_len d.h.zxid d.parts (rStep d.h.zxid ([], l) d)
    have h2 := rStep_len d.h.zxid ([], l) d
    have h3 : ([] : List RingD).length + l.length = l.length := by simp
    dsimp only at h2
    omega
  · simp

end
end Go.Proofs.YtienbbhelhhfjaaGreatDoor

namespace Go.Proofs.YtienbbhelhhfjaaGreatDoor
open Go.Sx Go.RowKit
noncomputable section
open Classical

def ringsEqS : FSpec := ⟨List RingD, fun l vs A => ∃ x y, vs = [x, y] ∧ Sl A 5 l.length x (l.flatMap RingD.cells) ∧ Sl A 5 l.length y (l.flatMap RingD.cells) ∧ l.length ≤ 1000000000, fun _ _ A v A' => A' = A ∧ v = .bool true⟩

set_option maxRecDepth 100000 in
set_option maxHeartbeats 0 in
theorem ringsEq_ok : FOk Tryz.prog 10 ringsEqS := by
  refine fok_v mixed fun (l : List RingD) vs A hp => ?_
  obtain ⟨x, y, rfl, ⟨ao, c, rfl, hc, _, ha1, ha2, ha3⟩, ⟨bo, d, rfl, hd, _, hb1, hb2, hb3⟩, hl⟩ : ∃ x y, vs = [x, y] ∧ Sl A 5 l.length x (l.flatMap RingD.cells) ∧ Sl A 5 l.length y (l.flatMap RingD.cells) ∧ l.length ≤ 1000000000 := hp
  refine ⟨noC, tabO Tryz.prog noC noL 60 [(10, 0)], 60, noC_sound _, tabO_sound mixed (noC_sound _) (noL_sound _) _ _, fun blk os out tape D hD => ?_⟩
  have hend : ringsEqS.post l [] A (.bool true) A := ⟨rfl, rfl⟩
  conv => lhs; whnf
  refine split_nd (fun _ => ?_) (fun h => absurd rfl h)
  conv => lhs; whnf
  refine (hD _).2 ⟨cnt A 5 [0, 1] [] l.length fun _ => True, ⟨(0 : Nat), ⟨Nat.zero_le _, trivial⟩, ⟨rfl, trivial⟩, trivial, rfl⟩, fun (k : Nat) hk => ⟨⟨trivial, trivial⟩, trivial, ?_⟩⟩
  simp only [cnt] at hk
  conv => lhs; whnf
  refine split_dec (fun hlt => ?_) (fun hlt => ?_)
  rotate_left
  · conv => lhs; whnf
    exact (hD _).2 hend
  have hlt : (k : Int) < (l.length : Int) := hlt
  have hkl : k < l.length := by omega
  have i0 : (0 : Int) ≤ (k : Int) ∧ (k : Int) < (l.length : Int) := by omega
  obtain ⟨g, o, rfl, hra⟩ := Sl.at_ hc ha1 ha2 ha3 (by omega)
  obtain ⟨g', o', rfl, hrb⟩ := Sl.at_ hd hb1 hb2 hb3 (by omega)
  have h1 := ring_at hra k hkl rfl
  have h2 := ring_at hrb k hkl rfl
  obtain ⟨w, hw⟩ : ∃ w, w = l[k] := ⟨_, rfl⟩
  rw [← hw] at h1 h2
  obtain ⟨cn, kd, so, p, z⟩ := w
  have h10 : A.rd g (o + k * 5 + 0) 1 = some [.int .i64 cn] := rd_at (N := 5) (i := 0) (m := 1) h1 (by omega)
  have h20 : A.rd g' (o' + k * 5 + 0) 1 = some [.int .i64 cn] := rd_at (N := 5) (i := 0) (m := 1) h2 (by omega)
  have h11 : A.rd g (o + k * 5 + 1) 4 = some [.int .u8 kd, .int .u8 so, .string p, .int .i64 z] := rd_at (N := 5) (i := 1) (m := 4) h1 (by omega)
  have h21 : A.rd g' (o' + k * 5 + 1) 4 = some [.int .u8 kd, .int .u8 so, .string p, .int .i64 z] := rd_at (N := 5) (i := 1) (m := 4) h2 (by omega)
  conv => lhs; whnf
  repeat (first | refine go_in i0 ?_ | refine go_rd h10 ?_ | refine go_rd h20 ?_ | refine go_rd h11 ?_ | refine go_rd h21 ?_ | refine go_D hD rfl ?_
          conv => lhs; whnf)
  refine split_nd (fun _ => ?_) (fun h => absurd rfl h)
  have hbb : beqL p.data.toList p.data.toList = true := beqL_iff.2 rfl
  conv => lhs; whnf
  repeat (first | refine go_in i0 ?_ | refine go_rd h10 ?_ | refine go_rd h20 ?_ | refine go_rd h11 ?_ | refine go_rd h21 ?_ | refine go_D hD rfl ?_ | refine go_D hD (by kernel_rfl) ?_
          conv => lhs; whnf)
  refine split_b (fun hb => ?_) (fun hb => ?_)
  · rw [hbb] at hb
    simp at hb
  conv => lhs; whnf
  exact (hD _).2 ⟨(k + 1 : Nat), ⟨⟨hkl, trivial⟩, ⟨inc_slot (by omega), trivial⟩, trivial, rfl⟩, by show l.length - (k + 1) < l.length - k; omega, ⟨same1 rfl rfl, same1 rfl rfl, trivial⟩, trivial⟩

end
end Go.Proofs.YtienbbhelhhfjaaGreatDoor

namespace Go.Proofs.YtienbbhelhhfjaaGreatDoor
open Go.Sx Go.RowKit
noncomputable section
open Classical

structure DrG where
  A : Arena
  ws : List WatchD
  sk : List WatchD

def dropInv (A0 : Arena) (m i : Nat) (ws0 : List WatchD) (out : WatchD → Bool) : LInv :=
  { γ := DrG, G := fun g => WalkW (fun _ => False) A0 g.A m i ws0 g.ws g.sk out, keepS := [0, 1, 11], keepB := [], sl := fun _ => [], bl := fun _ => [], ar := fun g => g.A, mu := fun g => ws0.length - g.sk.length }

def bellDropS : FSpec := ⟨TwG × Int, fun g vs A => vs = [.pointer (some ⟨g.1.t, 0, none⟩), .int .i64 g.2] ∧ TowerAt A g.1.t g.1.m g.1.ws, fun g _ A _ A' => TwTo A g.1 (g.1.ws.filter fun w => !decide (w.conn = g.2)) A'⟩

set_option maxRecDepth 100000 in
set_option maxHeartbeats 0 in
theorem bellDrop_ok : FOk Tryz.prog 53 bellDropS := by
  refine fok_v mixed fun ⟨⟨t, m, ws⟩, conn⟩ vs A hp => ?_
  obtain ⟨rfl, hT⟩ : vs = [.pointer (some ⟨t, 0, none⟩), .int .i64 conn] ∧ TowerAt A t m ws := hp
  refine ⟨noC, tabO Tryz.prog noC noL 60 [(53, 0)], 60, noC_sound _, tabO_sound mixed (noC_sound _) (noL_sound _) _ _, fun blk os out tape D hD => ?_⟩
  have htop : A.rd t 0 1 = some [.map (some m)] := hT.top.rd (o := 0) (n := 1) (by show 0 + 1 ≤ 1; omega)
  obtain ⟨ot, hot⟩ := hT.top.dom
  conv => lhs; whnf
  repeat (first | refine go_rd htop ?_ | refine go_D hD rfl ?_
          conv => lhs; whnf)
  refine (hD _).2 ⟨_, hT.map, wL_nodup hT.nd, fun i A1 hi hA1 hI => ?_⟩
  have hA1 : ∀ k, k ≠ i → A1.blk k = A.blk k := hA1
  have hi : A.blk i = none := hi
  have hI0 : IterAt A1 i m (wL ws) [] := hI
  have hW0 : WalkW (fun _ => False) A A1 m i ws ws [] fun w => decide (w.conn = conn) := .start hT.map hT.nd hi hA1 hI0
  conv => lhs; whnf
  refine (hD _).2 ⟨dropInv A m i ws fun w => decide (w.conn = conn), ⟨(⟨A1, ws, []⟩ : DrG), ⟨hW0, trivial, trivial, rfl⟩⟩, fun (s : DrG) hG => ⟨trivial, trivial, ?_⟩⟩
  obtain ⟨As, wk, sk⟩ := s
  have hW : WalkW (fun _ => False) A As m i ws wk sk fun w => decide (w.conn = conn) := hG
  have htk : ∀ A2 : Arena, (∀ b, b ≠ i → A2.blk b = As.blk b) → A2.rd t 0 1 = some [.map (some m)] := fun A2 h2 => by
    have hti : t ≠ i := fun e => by rw [e, hi] at hot; cases hot
    exact (hT.top.sub (A' := A2) fun o ho => by rw [h2 t hti]; exact hW.keep t o (Ne.symm hT.ne) id ho).rd (o := 0) (n := 1) (by show 0 + 1 ≤ 1; omega)
  conv => lhs; whnf
  refine (hD _).2 (.inl ⟨m, _, _, hW.iter, fun e he hn A2 hA2 hI2 hent => ?_, fun hall => ?_⟩)
  · have hA2 : ∀ b, b ≠ i → A2.blk b = As.blk b := hA2
    obtain ⟨w, rfl, hw, hns⟩ := WalkW.open_ he hn
    obtain ⟨c, so, p⟩ := w
    have ht2 := htk A2 hA2
    have hlen := (hW.snoc hw hns).2.2
    have hent : A2.ent i = some (.tuple #[.agg #[.int .i64 c, .int .u8 so, .string p], .int .i64 1]) := hent
    have hI2 : IterAt A2 i m (wL wk) (sk.map wKey ++ [wKey ⟨c, so, p⟩]) := hI2
    conv => lhs; whnf
    split
    rotate_left
    · rename_i hv
      exact absurd (hent.symm.trans hv) (by simp)
    rename_i v hv
    obtain rfl := Option.some.inj (hent.symm.trans hv)
    conv => lhs; whnf
    refine split_dec (fun hc => ?_) (fun hc => ?_)
    · conv => lhs; whnf
      repeat (first | refine go_rd ht2 ?_ | refine go_D hD rfl ?_
              conv => lhs; whnf)
      refine (hD _).2 ⟨by kernel_rfl, _, hI2.map, wL_alike ⟨c, so, p⟩ wk, fun A3 hM ho hIt => ?_⟩
      have hI3 : IterAt A3 i m (delL (wKey ⟨c, so, p⟩) (wL wk)) (sk.map wKey ++ [wKey ⟨c, so, p⟩]) := hIt i _ hI2
      rw [wL_del] at hI3
      have ho : ∀ b, b ≠ m → A3.blk b = A2.blk b := ho
      have hW3 := hW.take hw hns hA2 hI3 (fun b o hb _ hk => by rw [ho b hb]; exact hk) (fun b hb => by
        by_cases e : b = m
        · obtain ⟨_, _, h1, _⟩ := hI3.map
          rw [e, h1] at hb; cases hb
        · rw [ho b e] at hb; exact hb) (decide_eq_true hc)
      conv => lhs; whnf
      exact (hD _).2 ⟨(⟨A3, wk.erase ⟨c, so, p⟩, sk ++ [(⟨c, so, p⟩ : WatchD)]⟩ : DrG), ⟨hW3, trivial, trivial, rfl⟩, by show ws.length - (sk ++ [_]).length < ws.length - sk.length; rw [List.length_append, List.length_singleton]; omega, ⟨same1 rfl rfl, same1 rfl rfl, same1 rfl rfl, trivial⟩, trivial⟩
    · have hW3 := hW.pass hw hns hA2 hI2 (decide_eq_false hc)
      conv => lhs; whnf
      exact (hD _).2 ⟨(⟨A2, wk, sk ++ [(⟨c, so, p⟩ : WatchD)]⟩ : DrG), ⟨hW3, trivial, trivial, rfl⟩, by show ws.length - (sk ++ [_]).length < ws.length - sk.length; rw [List.length_append, List.length_singleton]; omega, ⟨same1 rfl rfl, same1 rfl rfl, same1 rfl rfl, trivial⟩, trivial⟩
  · obtain ⟨h1, _⟩ := hW.all hall
    have hend : ∀ v, bellDropS.post ((⟨t, m, ws⟩ : TwG), conn) [] A v As := fun _ => by
      show TwTo A _ _ As
      rw [← h1]
      refine ⟨⟨hT.top.sub fun o ho => hW.keep t o (Ne.symm hT.ne) id ho, hW.iter.map, hW.nds, hT.ne⟩, fun b o hb ho => hW.keep b o hb id ho, hW.dom⟩
    conv => lhs; whnf
    exact (hD _).2 (hend (.bool false))

end
end Go.Proofs.YtienbbhelhhfjaaGreatDoor

namespace Go.Proofs.YtienbbhelhhfjaaGreatDoor
open Go.Sx Go.RowKit
noncomputable section
open Classical

/-- A row in a block of its own, with room. -/
structure LRow (A : Arena) (g es : Nat) (e : TypeId) (n c : Nat) (cs : List Value) : Prop where
  at_ : ∃ cc, A.blk g = some (.cells cc e (0, 0)) ∧ cc.size = c * es ∧ cc.toList.take (n * es) = cs
  le : n ≤ c
  len : cs.length = n * es

theorem LRow.sub {A A' : Arena} {g es : Nat} {e : TypeId} {n c : Nat} {cs : List Value} (h : LRow A g es e n c cs) (hs : A.Sub A') : LRow A' g es e n c cs := by
  obtain ⟨⟨cc, h1, h2, h3⟩, h4, h5⟩ := h
  exact ⟨⟨cc, hs _ _ h1, h2, h3⟩, h4, h5⟩

theorem LRow.keep {A A' : Arena} {g es : Nat} {e : TypeId} {n c : Nat} {cs : List Value} (h : LRow A g es e n c cs) (hs : A'.blk g = A.blk g) : LRow A' g es e n c cs := by
  obtain ⟨⟨cc, h1, h2, h3⟩, h4, h5⟩ := h
  exact ⟨⟨cc, by rw [hs]; exact h1, h2, h3⟩, h4, h5⟩

theorem LRow.rd {A : Arena} {g es : Nat} {e : TypeId} {n c : Nat} {cs : List Value} (h : LRow A g es e n c cs) : A.rd g 0 (n * es) = some cs := by
  obtain ⟨⟨cc, h1, h2, h3⟩, h4, h5⟩ := h
  have := Nat.mul_le_mul_right es h4
  rw [rd_mk h1 (by omega), List.drop_zero, h3]

theorem LRow.base {A : Arena} {g es : Nat} {e : TypeId} {n c : Nat} {cs : List Value} (h : LRow A g es e n c cs) : baseRd A (some (g, 0)) (n * es) = some cs := by
  show (if n * es = 0 then some [] else A.rd g 0 (n * es)) = some cs
  by_cases h0 : n * es = 0
  · rw [if_pos h0]
    have := h.len
    rw [h0] at this
    rw [List.length_eq_zero_iff.1 this]
  · rw [if_neg h0, h.rd]

theorem LRow.room {A : Arena} {g es : Nat} {e : TypeId} {n c : Nat} {cs : List Value} (h : LRow A g es e n c cs) {o k : Nat} (hk : o + k ≤ c * es) : A.Room g o k := by
  obtain ⟨⟨cc, h1, h2, h3⟩, h4, h5⟩ := h
  exact ⟨cc, e, (0, 0), h1, by omega, .inl rfl⟩

/-- Something is put behind it, in its room. -/
theorem LRow.add {A A2 : Arena} {g es : Nat} {e : TypeId} {n c m : Nat} {cs ys : List Value} {v : Value} (h : LRow A g es e n c cs) (hm : n + m ≤ c) (hy : ys.length = m * es) (ha : Appended A (some (g, 0)) n c es e cs ys m v A2) :
    v = .slice (some ⟨g, 0, none⟩) (n + m) c ∧ LRow A2 g es e (n + m) c (cs ++ ys) ∧ ∀ k, k ≠ g → A2.blk k = A.blk k := by
  obtain ⟨⟨cc, h1, h2, h3⟩, h4, h5⟩ := h
  rcases ha with ⟨_, rfl, h6⟩ | ⟨h6, _⟩
  · refine ⟨rfl, ?_⟩
    have hlen : (cs ++ ys).length = (n + m) * es := by rw [List.length_append, h5, hy, Nat.add_mul]
    rcases h6 with ⟨rfl, rfl⟩ | ⟨g', o', e1, hP⟩
    · refine ⟨⟨⟨cc, h1, h2, ?_⟩, hm, hlen⟩, fun _ _ => rfl⟩
      have : m * es = 0 := by rw [← hy]; rfl
      rw [Nat.add_mul, this, Nat.add_zero, h3, List.append_nil]
    · injection e1 with e1
      injection e1 with e1 e2
      subst e1; subst e2
      obtain ⟨c0, t0, fz0, c', k1, k2, k3⟩ := hP.at_
      rw [h1] at k1
      injection k1 with k1
      injection k1 with k1 k1' k1''
      subst k1; subst k1'; subst k1''
      have hle := Nat.mul_le_mul_right es hm
      rw [Nat.add_mul] at hle
      refine ⟨⟨⟨c', k2, ?_, ?_⟩, hm, hlen⟩, hP.other⟩
      · rw [← Array.length_toList, k3]
        simp only [List.length_append, List.length_take, List.length_drop, Array.length_toList, h2, hy]
        omega
      · rw [k3, Nat.zero_add, h3, List.take_append_of_le_length (by omega), List.take_of_length_le (by omega)]
  · omega

/-- A cell row of it is stored over. -/
theorem LRow.over {A A2 : Arena} {g es : Nat} {e : TypeId} {c : Nat} {cs ys : List Value} {n o : Nat} (h : LRow A g es e n c cs) (hP : A.Put A2 g o ys) (hle : o + ys.length ≤ c * es) : (∃ cc, A2.blk g = some (.cells cc e (0, 0)) ∧ cc.size = c * es) ∧ ∀ k, k ≠ g → A2.blk k = A.blk k := by
  obtain ⟨⟨cc, h1, h2, h3⟩, h4, h5⟩ := h
  obtain ⟨c0, t0, fz0, c', k1, k2, k3⟩ := hP.at_
  rw [h1] at k1
  injection k1 with k1
  injection k1 with k1 k1' k1''
  subst k1; subst k1'; subst k1''
  refine ⟨⟨c', k2, ?_⟩, hP.other⟩
  rw [← Array.length_toList, k3]
  simp only [List.length_append, List.length_take, List.length_drop, Array.length_toList, h2]
  omega

end
end Go.Proofs.YtienbbhelhhfjaaGreatDoor

namespace Go.Proofs.YtienbbhelhhfjaaGreatDoor
open Go.Sx Go.RowKit
noncomputable section
open Classical

/-- A struct of these cells. -/
def mbV (cs : List Value) : Value := .agg cs.toArray

/-- The marks behind the ends. -/
def mkI (k i : Int) : Int := IntKind.i64.wrap (IntKind.i64.wrap (1000003 * IntKind.i64.wrap (k + 7)) + i)
def mkB (k i : Int) : Int := IntKind.u8.wrap ((IntKind.u64.wrap (IntKind.u64.wrap (mkI k i) * 11400714819323198485)).fdiv (2 ^ min (Int.toNat 56) IntKind.u64.bits))

def markB (k : Nat) (i : Nat) : Value := .int .u8 (mkB k i)
def markM (k : Nat) (i : Nat) : List Value := [.int .i64 (mkI k i), .int .u8 0, .int .i64 0, .int .i64 0]
def marksB (n : Nat) : List Value := (List.range n).map (markB 1)
def marksM (n : Nat) : List Value := (List.range n).flatMap (markM 1)
theorem LRow.sl {A : Arena} {g es : Nat} {e : TypeId} {n m c : Nat} {cs ys : List Value} (h : LRow A g es e (n + m) c (cs ++ ys)) (hc : cs.length = n * es) : Sl A es n (.slice (some ⟨g, 0, none⟩) n c) cs := by
  refine Sl.row (Nat.le_trans (Nat.le_add_right n m) h.le) ?_
  have h1 := h.rd
  have h2 := rd_at h1 (i := 0) (m := n * es) (by rw [Nat.add_mul]; omega)
  rw [Nat.add_zero, List.drop_zero, ← hc, List.take_left] at h2
  rw [← hc]
  exact h2

theorem memCells_len (l : List MemD) : (memCells l).length = l.length * 4 := by
  unfold memCells
  induction l with
  | nil => rfl
  | cons m l ih => rw [List.map_cons, List.flatten_cons, List.length_append, ih, List.length_cons]; show 4 + _ = _; omega

end
end Go.Proofs.YtienbbhelhhfjaaGreatDoor

namespace Go.Proofs.YtienbbhelhhfjaaGreatDoor
open Go.Sx Go.RowKit
noncomputable section
open Classical

def markDd (k : Nat) (i : Nat) : List Value := [.int .i64 (mkI k i), .int .u8 0, .int .i64 0, .int .i64 0, .int .i64 0, .int .i64 0, .string ⟨#[]⟩, .slice none 0 0, .int .i64 0, .int .i64 0, .int .i64 0, .int .i64 0, .int .i64 0, .int .i64 0, .slice none 0 0, .slice none 0 0]

def marksD (n : Nat) : List Value := (List.range n).flatMap (markDd 1)

mutual
/-- These cells are a deed that is lent; its lists lie in the blocks of L. -/
def LentDR (A : Arena) : DeedD → List Value → List Nat → Prop
  | .mk h parts, cs, L => ∃ gd gm gp cd cm cp rows Lp,
      cs = h.cells (.slice (some ⟨gd, 0, none⟩) h.data.length cd) (.slice (some ⟨gm, 0, none⟩) h.mem.length cm) (.slice (some ⟨gp, 0, none⟩) parts.length cp) ∧ h.path.data.toList.length ≤ 140737488351232 ∧
      LRow A gd 1 5 (h.data.length + 12) cd (h.data.map bv ++ marksB 12) ∧ LRow A gm 4 110 (h.mem.length + 12) cm (memCells h.mem ++ marksM 12) ∧ LRow A gp 16 31 (parts.length + 12) cp (rows.flatten ++ marksD 12) ∧
      h.data.length ≤ 140737488351232 ∧ h.mem.length * 32 ≤ 140737488351232 ∧ parts.length * 184 ≤ 140737488351232 ∧
      LentDsR A parts rows Lp ∧ L = gd :: gm :: gp :: Lp ∧ L.Nodup
def LentDsR (A : Arena) : List DeedD → List (List Value) → List Nat → Prop
  | [], rows, L => rows = [] ∧ L = []
  | d :: ds, rows, L => ∃ r rs L1 L2, rows = r :: rs ∧ LentDR A d r L1 ∧ LentDsR A ds rs L2 ∧ L = L1 ++ L2
end

theorem LentDR.len {A : Arena} {d : DeedD} {cs : List Value} {L : List Nat} (h : LentDR A d cs L) : cs.length = 16 := by
  cases d
  rw [LentDR] at h
  obtain ⟨gd, gm, gp, cd, cm, cp, rows, Lp, rfl, _⟩ := h
  rfl

theorem LentDsR.length {A : Arena} : ∀ {ds : List DeedD} {rows : List (List Value)} {L : List Nat}, LentDsR A ds rows L → rows.length = ds.length
  | [], _, _, h => by rw [LentDsR] at h; rw [h.1]; rfl
  | d :: ds, rows, L, h => by
    rw [LentDsR] at h
    obtain ⟨r, rs, L1, L2, rfl, _, h, _⟩ := h
    rw [List.length_cons, List.length_cons, LentDsR.length h]

theorem LentDsR.lens {A : Arena} : ∀ {ds : List DeedD} {rows : List (List Value)} {L : List Nat}, LentDsR A ds rows L → ∀ r ∈ rows, r.length = 16
  | [], _, _, h => by rw [LentDsR] at h; rw [h.1]; simp
  | d :: ds, rows, L, h => by
    rw [LentDsR] at h
    obtain ⟨r, rs, L1, L2, rfl, h1, h2, _⟩ := h
    intro x hx
    rcases List.mem_cons.1 hx with rfl | hx
    · exact h1.len
    · exact LentDsR.lens h2 x hx

mutual
/-- Its blocks stay: it stays. -/
theorem LentDR.keep {A A' : Arena} : ∀ {d : DeedD} {cs : List Value} {L : List Nat}, LentDR A d cs L → (∀ k ∈ L, A'.blk k = A.blk k) → LentDR A' d cs L
  | .mk hd parts, cs, L, h, hk => by
    rw [LentDR] at h ⊢
    obtain ⟨gd, gm, gp, cd, cm, cp, rows, Lp, h1, h0, h2, h3, h4, b1, b2, b3, h5, h6, h7⟩ := h
    subst h6
    exact ⟨gd, gm, gp, cd, cm, cp, rows, Lp, h1, h0, h2.keep (hk _ (by simp)), h3.keep (hk _ (by simp)), h4.keep (hk _ (by simp)), b1, b2, b3, LentDsR.keep h5 fun k hm => hk k (by simp [hm]), rfl, h7⟩
theorem LentDsR.keep {A A' : Arena} : ∀ {ds : List DeedD} {rows : List (List Value)} {L : List Nat}, LentDsR A ds rows L → (∀ k ∈ L, A'.blk k = A.blk k) → LentDsR A' ds rows L
  | [], _, _, h, _ => by rw [LentDsR] at h ⊢; exact h
  | d :: ds, rows, L, h, hk => by
    rw [LentDsR] at h ⊢
    obtain ⟨r, rs, L1, L2, h1, h2, h3, h4⟩ := h
    subst h4
    exact ⟨r, rs, L1, L2, h1, LentDR.keep h2 fun k hm => hk k (List.mem_append_left _ hm), LentDsR.keep h3 fun k hm => hk k (List.mem_append_right _ hm), rfl⟩
end

mutual
theorem LentDR.ask {A : Arena} : ∀ {d : DeedD} {cs : List Value} {L : List Nat}, LentDR A d cs L → DeedR A d cs
  | .mk hd parts, cs, L, h => by
    rw [LentDR] at h
    rw [DeedR]
    obtain ⟨gd, gm, gp, cd, cm, cp, rows, Lp, h1, h0, h2, h3, h4, b1, b2, b3, h5, h6, h7⟩ := h
    have hrl := h5.length
    have hfl : rows.flatten.length = parts.length * 16 := by
      have key : ∀ rows : List (List Value), (∀ r ∈ rows, r.length = 16) → rows.flatten.length = rows.length * 16 := fun rows => by
        induction rows with
        | nil => intro _; rfl
        | cons r rows ih =>
          intro h
          rw [List.flatten_cons, List.length_append, h r (by simp), ih fun x hx => h x (List.mem_cons_of_mem _ hx), List.length_cons]
          omega
      rw [key rows h5.lens, hrl]
    exact ⟨_, _, _, rows, h1, h0, ⟨h2.sl (by simp), b1⟩, ⟨h3.sl (memCells_len _), b2⟩, h4.sl hfl, b3, LentDsR.asks h5⟩
theorem LentDsR.asks {A : Arena} : ∀ {ds : List DeedD} {rows : List (List Value)} {L : List Nat}, LentDsR A ds rows L → DeedsR A ds rows
  | [], _, _, h => by rw [LentDsR] at h; rw [DeedsR]; exact h.1
  | d :: ds, rows, L, h => by
    rw [LentDsR] at h
    rw [DeedsR]
    obtain ⟨r, rs, L1, L2, h1, h2, h3, h4⟩ := h
    exact ⟨r, rs, h1, LentDR.ask h2, LentDsR.asks h3⟩
end

mutual
/-- Its blocks are there. -/
theorem LentDR.live {A : Arena} : ∀ {d : DeedD} {cs : List Value} {L : List Nat}, LentDR A d cs L → ∀ k ∈ L, ∃ o, A.blk k = some o
  | .mk hd parts, cs, L, h, k, hk => by
    rw [LentDR] at h
    obtain ⟨gd, gm, gp, cd, cm, cp, rows, Lp, h1, h0, ⟨⟨c2, h2, _⟩, _⟩, ⟨⟨c3, h3, _⟩, _⟩, ⟨⟨c4, h4, _⟩, _⟩, b1, b2, b3, h5, h6, h7⟩ := h
    subst h6
    simp only [List.mem_cons] at hk
    rcases hk with rfl | rfl | rfl | hk
    · exact ⟨_, h2⟩
    · exact ⟨_, h3⟩
    · exact ⟨_, h4⟩
    · exact LentDsR.live h5 k hk
theorem LentDsR.live {A : Arena} : ∀ {ds : List DeedD} {rows : List (List Value)} {L : List Nat}, LentDsR A ds rows L → ∀ k ∈ L, ∃ o, A.blk k = some o
  | [], _, _, h, k, hk => by
    rw [LentDsR] at h
    rw [h.2] at hk
    cases hk
  | d :: ds, rows, L, h, k, hk => by
    rw [LentDsR] at h
    obtain ⟨r, rs, L1, L2, h1, h2, h3, h4⟩ := h
    subst h4
    rcases List.mem_append.1 hk with hk | hk
    · exact LentDR.live h2 k hk
    · exact LentDsR.live h3 k hk
end

theorem LentDsR.snoc {A : Arena} : ∀ {ds : List DeedD} {rows : List (List Value)} {L : List Nat} {d : DeedD} {cs : List Value} {L' : List Nat}, LentDsR A ds rows L → LentDR A d cs L' → LentDsR A (ds ++ [d]) (rows ++ [cs]) (L ++ L')
  | [], rows, L, d, cs, L', h, h' => by
    rw [LentDsR] at h
    obtain ⟨rfl, rfl⟩ := h
    show LentDsR A [d] [cs] L'
    rw [LentDsR]
    exact ⟨cs, [], L', [], rfl, h', by rw [LentDsR]; exact ⟨rfl, rfl⟩, by simp⟩
  | e :: ds, rows, L, d, cs, L', h, h' => by
    rw [LentDsR] at h
    obtain ⟨r, rs, L1, L2, rfl, h2, h3, rfl⟩ := h
    show LentDsR A (e :: (ds ++ [d])) (r :: (rs ++ [cs])) _
    rw [LentDsR]
    exact ⟨r, rs ++ [cs], L1, L2 ++ L', rfl, h2, LentDsR.snoc h3 h', by rw [List.append_assoc]⟩

theorem LentDsR.head {A : Arena} {d : DeedD} {ds : List DeedD} {rows : List (List Value)} {L : List Nat} (h : LentDsR A (d :: ds) rows L) : ∃ r rs L1 L2, rows = r :: rs ∧ LentDR A d r L1 ∧ LentDsR A ds rs L2 ∧ L = L1 ++ L2 := by
  rw [LentDsR] at h
  exact h

theorem LentDR.one {A : Arena} {d : DeedD} {cs : List Value} {L : List Nat} (h : LentDR A d cs L) : ∀ v ∈ cs, v.oneCell' = true := by
  cases d
  rw [LentDR] at h
  obtain ⟨gd, gm, gp, cd, cm, cp, rows, Lp, rfl, _⟩ := h
  intro v hv
  simp only [DeedH.cells, List.mem_cons, List.not_mem_nil, or_false] at hv
  rcases hv with rfl | rfl | rfl | rfl | rfl | rfl | rfl | rfl | rfl | rfl | rfl | rfl | rfl | rfl | rfl | rfl <;> rfl

end
end Go.Proofs.YtienbbhelhhfjaaGreatDoor

namespace Go.Proofs.YtienbbhelhhfjaaGreatDoor
open Go.Sx Go.RowKit
noncomputable section
open Classical

def markByteS : FSpec := ⟨Int × Int, fun g vs _ => vs = [.int .i64 g.1, .int .i64 g.2], fun g _ A v A' => A' = A ∧ v = .int .u8 (mkB g.1 g.2)⟩

set_option maxRecDepth 100000 in
set_option maxHeartbeats 0 in
theorem markByte_ok : FOk Tryz.prog 92 markByteS := by
  refine fok_v mixed fun ⟨k, i⟩ vs A hp => ?_
  obtain rfl : vs = [.int .i64 k, .int .i64 i] := hp
  refine ⟨noC, noL, 60, noC_sound _, noL_sound _, fun blk os out tape D hD => ?_⟩
  conv => lhs; whnf
  exact (hD _).2 ⟨rfl, rfl⟩

theorem wrap12 {n : Nat} (h : n ≤ 9000000000000000000) : (IntKind.i64.wrap ((n : Int) + 12)).toNat = n + 12 := by
  rw [Sx.wrap_i64 (by omega) (by omega)]; omega

theorem marksB_succ (k : Nat) : marksB (k + 1) = marksB k ++ [markB 1 k] := by
  unfold marksB
  rw [List.range_succ, List.map_append, List.map_singleton]

theorem marksB_len (k : Nat) : (marksB k).length = k := by unfold marksB; rw [List.length_map, List.length_range]

theorem off0 (c es : Nat) : 0 + (bif c.beq (Int.toNat 0) then 0 else Int.toNat 0 * es) = 0 := by
  cases c.beq (Int.toNat 0)
  · show 0 + 0 * es = 0
    omega
  · rfl

theorem lbnd_to {x : Int} {c k : Nat} (hx : x = k) (hk : k ≤ c) : ((decide ((0 : Int) ≤ 0) && decide ((0 : Int) ≤ x)) && (false || decide (x ≤ (c : Int)))) = true := by
  subst hx
  exact Bool.and_eq_true_iff.2 ⟨Bool.and_eq_true_iff.2 ⟨decide_eq_true (by omega), decide_eq_true (by omega)⟩, Bool.or_eq_true_iff.2 (.inr (decide_eq_true (by omega)))⟩

theorem win0 (g n c es : Nat) : Value.slice (some ⟨g, 0 + (bif c.beq (Int.toNat 0) then 0 else Int.toNat 0 * es), none⟩) (Int.toNat (n : Int) - Int.toNat 0) (c - Int.toNat 0) = .slice (some ⟨g, 0, none⟩) n c := by
  rw [off0]
  rfl

/-- A young row that is lent grows by one. -/
theorem lent_step {A0 As A3 A4 : Arena} {g es : Nat} {e : TypeId} {n c gb : Nat} {cs ys : List Value} {cc : Array Value} {v : Value} (hs : A0.Sub As) (hn : A0.blk g = none) (hL : LRow As g es e n c cs) (hN : As.New A3 gb cc e) (hc : n + 1 ≤ c) (hy : ys.length = 1 * es) (ha : Appended A3 (some (g, 0)) n c es e cs ys 1 v A4) :
    v = .slice (some ⟨g, 0, none⟩) (n + 1) c ∧ LRow A4 g es e (n + 1) c (cs ++ ys) ∧ A0.Sub A4 ∧ ∀ k o, k ≠ g → As.blk k = some o → A4.blk k = some o := by
  obtain ⟨h1, h2, h3⟩ := (hL.sub hN.sub).add hc hy ha
  refine ⟨h1, h2, fun k o hk => ?_, fun k o hg hk => ?_⟩
  · rw [h3 k fun e => (by subst e; rw [hn] at hk; cases hk)]
    exact hN.sub _ _ (hs _ _ hk)
  · rw [h3 k hg]
    exact hN.sub _ _ hk

structure LbG where
  k : Nat
  A : Arena

def lentBytesInv (A0 : Arena) (g c : Nat) (l : List UInt8) : LInv :=
  { γ := LbG, G := fun s => s.k ≤ 12 ∧ A0.Sub s.A ∧ LRow s.A g 1 5 (l.length + s.k) c (l.map bv ++ marksB s.k),
    keepS := [0], keepB := [], sl := fun s => [(4, .v (.int .i64 s.k)), (3, .v (.slice (some ⟨g, 0, none⟩) (l.length + s.k) c))], bl := fun _ => [], ar := fun s => s.A, mu := fun s => 12 - s.k }

def lentBytesS : FSpec := ⟨List UInt8, fun l vs A => ∃ x, vs = [x] ∧ SlB A x l,
  fun l _ A v A' => A.Sub A' ∧ ∃ g c, v = .slice (some ⟨g, 0, none⟩) l.length c ∧ A.blk g = none ∧ LRow A' g 1 5 (l.length + 12) c (l.map bv ++ marksB 12)⟩

set_option maxRecDepth 100000 in
set_option maxHeartbeats 0 in
theorem lentBytes_ok : FOk Tryz.prog 68 lentBytesS := by
  refine fok_v mixed fun (l : List UInt8) vs A hp => ?_
  obtain ⟨x, rfl, ⟨⟨a7, k7, rfl, hd7, hdl, hz1, hz2, hz3⟩, hdn⟩⟩ : ∃ x, vs = [x] ∧ SlB A x l := hp
  have hC : CTSound Tryz.prog (lookC [specE 92 markByteS] noC) := lookC_sound (noC_sound _) (fun x hx => by
    simp only [List.mem_singleton] at hx
    subst hx; exact specE_ok markByte_ok)
  refine ⟨_, tabO Tryz.prog _ noL 60 [(68, 0)], 60, hC, tabO_sound mixed hC (noL_sound _) _ _, fun blk os out tape D hD => ?_⟩
  have hw : IntKind.i64.wrap ((l.length : Int) + 12) = (l.length : Int) + 12 := Sx.wrap_i64 (by omega) (by omega)
  obtain ⟨c0, hc0⟩ : ∃ c0 : Nat, c0 = (IntKind.i64.wrap ((l.length : Int) + 12)).toNat := ⟨_, rfl⟩
  have hc0e : c0 = l.length + 12 := by rw [hc0]; exact wrap12 (by omega)
  have hcs : (a7 = none ∧ l.length = 0) ∨ (∃ g7 o7 t7, a7 = some ⟨g7, o7, some t7⟩ ∧ l.length = 0) ∨ ∃ g7 o7, a7 = some ⟨g7, o7, none⟩ := by
    cases a7 with
    | none => exact .inl ⟨rfl, by have := hz1 rfl; omega⟩
    | some a =>
      obtain ⟨g7, o7, sp⟩ := a
      cases sp with
      | none => exact .inr (.inr ⟨g7, o7, rfl⟩)
      | some t7 =>
        refine .inr (.inl ⟨g7, o7, t7, rfl, ?_⟩)
        rcases Nat.eq_zero_or_pos k7 with hh | hh
        · omega
        · have := hz2 _ rfl hh
          cases this
  refine Or.elim hcs (fun e => ?_) (fun e => Or.elim e (fun e => ?_) (fun e => ?_))
  obtain ⟨e, h0⟩ := e
  subst e
  have hsrc : ∀ A1, A.Sub A1 → (if l.length = 0 then some [] else none) = some (l.map bv) := fun A1 _ => by
    rw [if_pos h0, List.length_eq_zero_iff.1 h0]; rfl
  rotate_left
  obtain ⟨g7, o7, t7, e, h0⟩ := e
  subst e
  have hsrc : ∀ A1, A.Sub A1 → (if l.length = 0 then some [] else none) = some (l.map bv) := fun A1 _ => by
    rw [if_pos h0, List.length_eq_zero_iff.1 h0]; rfl
  rotate_left
  obtain ⟨g7, o7, e⟩ := e
  subst e
  have hsrc : ∀ A1, A.Sub A1 → (if l.length = 0 then some [] else A1.rd g7 o7 (l.length * 1)) = some (l.map bv) := fun A1 hs => by
    by_cases h0 : l.length = 0
    · rw [if_pos h0, List.length_eq_zero_iff.1 h0]; rfl
    · rw [if_neg h0]; exact rd_sub hs (hz3 (by omega) _ rfl)
  rotate_left
  all_goals
    conv => lhs; whnf
    refine (hD _).2 ⟨by omega, by rw [hw]; omega, by rw [hw]; omega, by
      rw [← hc0, hc0e]
      show 1 * (l.length + 12) ≤ _
      omega, rfl, fun g A1 cc hcl hNw => ?_⟩
    have hNw : A.New A1 g cc 5 := hNw
    have hL0 : LRow A1 g 1 5 0 c0 [] := by
      refine ⟨⟨cc, hNw.at_, ?_, by simp⟩, Nat.zero_le _, rfl⟩
      rw [← Array.length_toList, hcl, ← hc0]
      simp [List.length_flatten]
      show c0 * 1 = c0
      omega
    conv => lhs; whnf
    refine (hD _).2 ⟨[], l.map bv, hL0.base, hsrc A1 hNw.sub, hdl, fun v hv => (by
      obtain ⟨b, _, rfl⟩ := List.mem_map.1 hv
      rfl), by show 0 + l.length ≤ _; omega, fun h9 => (by
      have h9 : (IntKind.i64.wrap ((l.length : Int) + 12)).toNat < 0 + l.length := h9
      omega), rfl, fun h => (by cases h), fun g' o' hb _ _ => (by
      injection hb with hb
      injection hb with e1 e2
      subst e1; subst e2
      refine hL0.room ?_
      show 0 + 0 * 1 + _ ≤ _
      rw [List.length_map]
      omega), fun v A2 hA => ?_⟩
    obtain ⟨hv, hL1, ho1⟩ := hL0.add (m := l.length) (v := v) (A2 := A2) (by omega) hdl (by rw [hc0]; exact hA)
    rw [Nat.zero_add] at hv
    subst hv
    rw [Nat.zero_add, List.nil_append] at hL1
    have hs2 : A.Sub A2 := fun k o hk => by
      rw [ho1 k fun e => (by subst e; rw [hNw.none_] at hk; cases hk)]
      exact hNw.sub _ _ hk
    conv => lhs; whnf
    refine (hD _).2 ⟨lentBytesInv A g c0 l, ⟨(⟨0, A2⟩ : LbG), ⟨Nat.zero_le _, hs2, by
      show LRow A2 g 1 5 (l.length + 0) c0 (l.map bv ++ [])
      rw [Nat.add_zero, List.append_nil]
      exact hL1⟩, ⟨rfl, rfl, trivial⟩, trivial, rfl⟩, fun (s : LbG) hG => ⟨⟨trivial, trivial, trivial⟩, trivial, ?_⟩⟩
    obtain ⟨k, As⟩ := s
    obtain ⟨hk, hsA, hLs⟩ : k ≤ 12 ∧ A.Sub As ∧ LRow As g 1 5 (l.length + k) c0 (l.map bv ++ marksB k) := hG
    conv => lhs; whnf
    refine split_dec (fun hlt => ?_) (fun hlt => ?_)
    rotate_left
    · have hlt : ¬ (k : Int) < 12 := hlt
      have h12 : k = 12 := by omega
      subst h12
      have hle1 : (l.length : Int) ≤ (c0 : Int) := by omega
      have hend : lentBytesS.post l [] A (.slice (some ⟨g, 0, none⟩) l.length c0) As := ⟨hsA, g, c0, rfl, hNw.none_, hLs⟩
      conv => lhs; whnf
      refine go_dec hle1 ?_
      conv => lhs; whnf
      refine (hD _).2 ?_
      show lentBytesS.post l [] A (.slice (some ⟨g, 0 + (bif c0.beq (Int.toNat 0) then 0 else Int.toNat 0 * 1), none⟩) (Int.toNat (l.length : Int) - Int.toNat 0) (c0 - Int.toNat 0)) As
      rw [win0]
      exact hend
    have hlt : (k : Int) < 12 := hlt
    conv => lhs; whnf
    refine (hD _).2 ⟨((1 : Int), (k : Int)), rfl, fun v A9 hq => ?_⟩
    obtain ⟨h9, hv⟩ : A9 = As ∧ v = .int .u8 (mkB 1 k) := hq
    subst h9; subst hv
    conv => lhs; whnf
    refine (hD _).2 fun gb A5 hN5 => ?_
    have hN5 : A9.New A5 gb #[markB 1 k] 5 := hN5
    have hrow5 : A5.rd gb 0 (1 * 1) = some [markB 1 k] := hN5.rd (o := 0) (n := 1 * 1) (by show 0 + 1 * 1 ≤ 1; omega)
    have hL5 := hLs.sub hN5.sub
    conv => lhs; whnf
    refine (hD _).2 ⟨l.map bv ++ marksB k, [markB 1 k], hL5.base, by
      show (if 1 * 1 = 0 then some [] else A5.rd gb 0 (1 * 1)) = _
      rw [if_neg (by omega)]; exact hrow5, rfl, fun v hv => (by
      rw [List.mem_singleton] at hv
      subst hv; rfl), by
      show l.length + k + 1 ≤ _
      omega, fun h9 => (by
      have h9 : c0 < l.length + k + 1 := h9
      omega), rfl, fun h => (by cases h), fun g' o' hb _ _ => (by
      injection hb with hb
      injection hb with e1 e2
      subst e1; subst e2
      refine hL5.room ?_
      show 0 + (l.length + k) * 1 + 1 ≤ _
      omega), fun v A6 hA6 => ?_⟩
    obtain ⟨hv, hL6, hs6, -⟩ := lent_step hsA hNw.none_ hLs hN5 (by omega) rfl hA6
    subst hv
    rw [List.append_assoc, ← marksB_succ] at hL6
    conv => lhs; whnf
    exact (hD _).2 ⟨(⟨k + 1, A6⟩ : LbG), ⟨⟨by show k + 1 ≤ 12; omega, hs6, hL6⟩, ⟨inc_slot (by omega), rfl, trivial⟩, trivial, rfl⟩, by show 12 - (k + 1) < 12 - k; omega, ⟨same1 rfl rfl, trivial⟩, trivial⟩

/-! ### Kept -/

def keptBytesS : FSpec := ⟨List UInt8 × Nat × Nat, fun g vs A => ∃ x, vs = [.slice (some ⟨g.2.1, 0, none⟩) g.1.length g.2.2, x] ∧ SlB A x g.1 ∧ LRow A g.2.1 1 5 (g.1.length + 12) g.2.2 (g.1.map bv ++ marksB 12),
  fun _ _ A v A' => A' = A ∧ v = .bool true⟩

set_option maxRecDepth 100000 in
set_option maxHeartbeats 0 in
theorem keptBytes_ok : FOk Tryz.prog 72 keptBytesS := by
  refine fok_v mixed fun ⟨l, g, c⟩ vs A hp => ?_
  obtain ⟨x, rfl, ⟨⟨ao, k7, rfl, hd7, hdl, hz1, hz2, hz3⟩, hdn⟩, hL⟩ : ∃ x, vs = [.slice (some ⟨g, 0, none⟩) l.length c, x] ∧ SlB A x l ∧ LRow A g 1 5 (l.length + 12) c (l.map bv ++ marksB 12) := hp
  have hC : CTSound Tryz.prog (lookC [specE 92 markByteS] noC) := lookC_sound (noC_sound _) (fun x hx => by
    simp only [List.mem_singleton] at hx
    subst hx; exact specE_ok markByte_ok)
  refine ⟨_, tabO Tryz.prog _ noL 60 [(72, 0)], 60, hC, tabO_sound mixed hC (noL_sound _) _ _, fun blk os out tape D hD => ?_⟩
  have hw : IntKind.i64.wrap ((l.length : Int) + 12) = ((l.length + 12 : Nat) : Int) := by
    rw [Sx.wrap_i64 (by omega) (by omega)]; omega
  have hwn : (IntKind.i64.wrap ((l.length : Int) + 12)).toNat = l.length + 12 := by rw [hw, Int.toNat_natCast]
  have hrow := hL.rd
  have hend : keptBytesS.post (l, g, c) [] A (.bool true) A := ⟨rfl, rfl⟩
  conv => lhs; whnf
  refine split_nd (fun _ => ?_) (fun h => absurd rfl h)
  conv => lhs; whnf
  refine go_b (lbnd_to (k := l.length + 12) hw hL.le) ?_
  conv => lhs; whnf
  refine (hD _).2 ⟨cnt A 6 [0, 1, 5] [] (l.length + 12) fun _ => True, ⟨(0 : Nat), ⟨Nat.zero_le _, trivial⟩, ⟨rfl, trivial⟩, trivial, rfl⟩, fun (k : Nat) hk => ⟨⟨trivial, trivial⟩, trivial, ?_⟩⟩
  simp only [cnt] at hk
  conv => lhs; whnf
  refine split_dec (fun hlt => ?_) (fun hlt => ?_)
  rotate_left
  · conv => lhs; whnf
    exact (hD _).2 hend
  have hlt : (k : Int) < (((IntKind.i64.wrap ((l.length : Int) + 12)).toNat : Nat) : Int) := hlt
  have hk2 : k < l.length + 12 := by
    have h9 := hlt
    rw [hwn] at h9
    omega
  have i0 : (0 : Int) ≤ (k : Int) ∧ (k : Int) < (((IntKind.i64.wrap ((l.length : Int) + 12)).toNat : Nat) : Int) := ⟨by omega, hlt⟩
  have hmu : (l.length + 12) - (k + 1) < (l.length + 12) - k := by omega
  by_cases h1 : k < l.length
  · obtain ⟨g', o', e, hrb⟩ := Sl.at_ hd7 hz1 hz2 hz3 (by omega)
    subst e
    have h1i : (k : Int) < (l.length : Int) := by omega
    have h1n : ¬ (l.length : Int) ≤ (k : Int) := by omega
    have i1 : (0 : Int) ≤ (k : Int) ∧ (k : Int) < (l.length : Int) := by omega
    have r1 : A.rd g ((0 + bif c.beq (Int.toNat 0) then 0 else Int.toNat 0 * 1) + k * 1) 1 = some [bv l[k]] := by
      rw [off0]
      have h9 := rd_at hrow (i := k) (m := 1) (by omega)
      rw [Nat.mul_one, h9]
      congr 1
      rw [List.drop_append_of_le_length (by rw [List.length_map]; omega), List.drop_eq_getElem_cons (by rw [List.length_map]; exact h1), List.getElem_map]
      rfl
    have r2 := byte_at hrb k h1 rfl
    conv => lhs; whnf
    repeat (first | refine go_dec h1i ?_ | refine go_in i0 ?_ | refine go_in i1 ?_ | refine go_rd r1 ?_ | refine go_rd r2 ?_
            conv => lhs; whnf)
    refine split_nd (fun _ => ?_) (fun h => absurd rfl h)
    conv => lhs; whnf
    repeat (first | refine no_dec h1n ?_ | refine go_dec h1n ?_
            conv => lhs; whnf)
    exact (hD _).2 ⟨(k + 1 : Nat), ⟨⟨hk2, trivial⟩, ⟨inc_slot (by omega), trivial⟩, trivial, rfl⟩, hmu, ⟨same1 rfl rfl, same1 rfl rfl, same1 rfl rfl, trivial⟩, trivial⟩
  · have h1i : ¬ (k : Int) < (l.length : Int) := by omega
    have h1n : (l.length : Int) ≤ (k : Int) := by omega
    have hwk : IntKind.i64.wrap ((k : Int) - (l.length : Int)) = ((k - l.length : Nat) : Int) := by
      rw [Sx.wrap_i64 (by omega) (by omega)]; omega
    have r1 : A.rd g ((0 + bif c.beq (Int.toNat 0) then 0 else Int.toNat 0 * 1) + k * 1) 1 = some [.int .u8 (mkB 1 ((k - l.length : Nat) : Int))] := by
      rw [off0]
      have h9 := rd_at hrow (i := k) (m := 1) (by omega)
      rw [Nat.mul_one, h9]
      congr 1
      rw [List.drop_append, List.drop_eq_nil_of_le (by rw [List.length_map]; omega), List.nil_append, List.length_map, List.drop_eq_getElem_cons (by rw [marksB_len]; omega)]
      unfold marksB
      rw [List.getElem_map, List.getElem_range]
      rfl
    conv => lhs; whnf
    repeat (first | refine no_dec h1i ?_ | refine go_dec h1n ?_ | refine go_in i0 ?_ | refine go_rd r1 ?_
            conv => lhs; whnf)
    refine (hD _).2 ⟨((1 : Int), IntKind.i64.wrap ((k : Int) - (l.length : Int))), rfl, fun v A9 hq => ?_⟩
    obtain ⟨h9, hv⟩ : A9 = A ∧ v = .int .u8 (mkB 1 (IntKind.i64.wrap ((k : Int) - (l.length : Int)))) := hq
    subst h9
    rw [hwk] at hv
    subst hv
    conv => lhs; whnf
    repeat (first | refine no_dec h1i ?_ | refine go_dec h1n ?_ | refine go_in i0 ?_ | refine go_rd r1 ?_ | refine go_D hD rfl ?_ | refine split_nd (fun _ => ?_) (fun h => absurd rfl h)
            conv => lhs; whnf)
    exact (hD _).2 ⟨(k + 1 : Nat), ⟨⟨hk2, trivial⟩, ⟨inc_slot (by omega), trivial⟩, trivial, rfl⟩, hmu, ⟨same1 rfl rfl, same1 rfl rfl, same1 rfl rfl, trivial⟩, trivial⟩

end
end Go.Proofs.YtienbbhelhhfjaaGreatDoor

namespace Go.Proofs.YtienbbhelhhfjaaGreatDoor
open Go.Sx Go.RowKit
noncomputable section
open Classical

/-! ### Members -/

def sameMembersS : FSpec := ⟨List MemD × List MemD, fun g vs A => ∃ x y, vs = [x, y] ∧ MemR A x g.1 ∧ MemR A y g.2, fun g _ A v A' => A' = A ∧ v = .bool (decide (g.1 = g.2))⟩

theorem mem_at2 {A : Arena} {g o n : Nat} {l : List MemD} (h : A.rd g o (n * 4) = some (memCells l)) (k : Nat) (hk : k < l.length) (hn : n = l.length) : A.rd g (o + k * 4) 4 = some [.int .i64 l[k].id, .int .u8 l[k].role, .int .i64 l[k].weight, .int .i64 l[k].group] := by
  have := rows_at (rows := l.map MemD.cells) h (memCells_rows l) k (by simpa using hk) (by simpa using hn)
  simpa [MemD.cells] using this

set_option maxRecDepth 100000 in
set_option maxHeartbeats 0 in
theorem sameMembers_ok : FOk Tryz.prog 110 sameMembersS := by
  refine fok_v mixed fun ⟨ls, bs⟩ vs A hp => ?_
  simp only [sameMembersS] at hp
  obtain ⟨x, y, rfl, ⟨⟨ao, c, rfl, hc, _, ha1, ha2, ha3⟩, hxl⟩, ⟨bo, d, rfl, hd, _, hb1, hb2, hb3⟩, hyl⟩ := hp
  refine ⟨noC, tabO Tryz.prog noC noL 60 [(110, 0)], 60, noC_sound _, tabO_sound mixed (noC_sound _) (noL_sound _) _ _, fun blk os out tape D hD => ?_⟩
  conv => lhs; whnf
  refine split_b (fun hb => ?_) (fun hb => ?_) <;> (conv => lhs; whnf)
  · refine (hD _).2 ⟨rfl, ?_⟩
    have : ls ≠ bs := fun e => by subst e; simp at hb
    simp [this]
  · have hlen : ls.length = bs.length := by
      have : (ls.length : Int) = bs.length := by simpa using hb
      omega
    refine (hD _).2 ⟨cnt A 5 [0, 1] [] ls.length fun k => ls.take k = bs.take k, ⟨(0 : Nat), ⟨Nat.zero_le _, rfl⟩, ⟨rfl, trivial⟩, trivial, rfl⟩, fun (k : Nat) hk => ⟨⟨trivial, trivial⟩, trivial, ?_⟩⟩
    simp only [cnt] at hk
    conv => lhs; whnf
    refine split_dec (fun hlt => ?_) (fun hb => ?_) <;> (conv => lhs; whnf)
    · have hlt : k < ls.length := by omega
      obtain ⟨g, o, rfl, hra⟩ := Sl.at_ hc ha1 ha2 ha3 (by omega)
      obtain ⟨g', o', rfl, hrb⟩ := Sl.at_ hd hb1 hb2 hb3 (by omega)
      conv => lhs; whnf
      refine split_in (fun _ _ => ?_) (fun h => by omega)
      conv => lhs; whnf
      refine go_rd (mem_at2 hra k hlt rfl) ?_
      conv => lhs; whnf
      refine split_in (fun _ _ => ?_) (fun h => by omega)
      conv => lhs; whnf
      refine go_rd (mem_at2 hrb k (by omega) rfl) ?_
      conv => lhs; whnf
      refine go_D hD (by kernel_rfl) ?_
      conv => lhs; whnf
      refine split_b (fun hb => ?_) (fun hb => ?_) <;> (conv => lhs; whnf)
      · refine (hD _).2 ⟨rfl, ?_⟩
        have : ls ≠ bs := fun e => by subst e; simp at hb
        simp [this]
      · have he : ls[k] = bs[k] := by
          simp only [Bool.not_eq_false', Bool.and_eq_true, decide_eq_true_eq, Bool.and_true] at hb
          obtain ⟨h1, h2, h3, h4⟩ := hb
          cases hl : ls[k]; cases hr : bs[k]
          simp only [hl, hr] at h1 h2 h3 h4
          subst h1 h2 h3 h4; rfl
        refine (hD _).2 ⟨(k + 1 : Nat), ⟨⟨by omega, ?_⟩, ⟨inc_slot (by omega), trivial⟩, trivial, rfl⟩, ?_, ⟨rfl, rfl, trivial⟩, trivial⟩
        · show ls.take (k + 1) = bs.take (k + 1)
          rw [List.take_succ_eq_append_getElem hlt, List.take_succ_eq_append_getElem (by omega), hk.2, he]
        · show ls.length - (k + 1) < ls.length - k
          omega
    · refine (hD _).2 ⟨rfl, ?_⟩
      have h1 : k = ls.length := by omega
      have : ls = bs := by
        have := hk.2
        rw [h1, List.take_length, hlen, List.take_length] at this
        exact this
      simp [this]

end
end Go.Proofs.YtienbbhelhhfjaaGreatDoor
