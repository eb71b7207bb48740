/-
  Contracts: calls that are lent.
  Contracts: calls that are lent: are they kept?
  Contracts: calls that are lent: written over.
  Paths: part PaA: what beadle/path.Check tells of every text.
  Paths: part PaB: what beadle/path.Check tells of every text.
  Paths: part PaC: what beadle/path.Check tells of every text.
  Paths: part PaD: what beadle/path.Check tells of every text.
  Paths: part PaE: what beadle/path.Check tells of every text.
  Paths: part PaF: what beadle/path.Check tells of every text.
  The law is awake: a closed run.
  Steps as plain data; a number brought into a range; is a call great?
  QueueLives: two queues side by side, and a call that is lent.
-/
import Derived.Test.YtpingnkjenicaaaG08
import Derived.Test.YtpingnkjenicaaaG07
import Derived.Test.YtpingnkjenicaaaRows
import Derived.WalkKit
import Derived.Laws.Externs
import Derived.Lib.Bytealg
import Derived.Lib.CutLaws
import Derived.Lib.IndexMore
import Derived.Tactics
import Derived.Tactics2
import Derived.Shelf.RegionOpen
import Derived.Shelf.Abstract
import Derived.Shelf.RegionOpenPlain
import Derived.Laws.RangeString
import Derived.LoopTactic
import Derived.Laws.RangeAny
import Derived.RangeFuncNested
import Derived.RangeFuncBound
import Derived.RangeFuncCalls
import Derived.RangeFuncLeaves
import Derived.OwnWalkIn
import Derived.TacticsInMore
import Derived.LoopNIn
import Derived.LoopIn
import Derived.WalkSmall
import Derived.RangeFuncFrom
import Derived.Test.YtpingnkjenicaaaG06
namespace Go.Proofs.Ytpingnkjenicaaa
open Go.Sx Go.RowKit
noncomputable section
open Classical

def lentAsksS (n : Nat) : FSpec := ⟨List AskD, fun ds vs A => ∃ x, vs = [x] ∧ (∀ d ∈ ds, d.sz < n) ∧ AsksS A x ds,
  fun ds _ A v A' => A.Sub A' ∧ ∃ g c rows L, v = .slice (some ⟨g, 0, none⟩) ds.length c ∧ A.blk g = none ∧ LRow A' g 15 34 (ds.length + 12) c (rows.flatten ++ marksA 12) ∧ LentsR A' ds rows L ∧ (∀ k ∈ L, A.blk k = none) ∧ (g :: L).Nodup⟩

def lentAskS (n : Nat) : FSpec := ⟨AskD, fun d vs A => ∃ cs, vs = [askV cs] ∧ d.sz < n ∧ AskR A d cs,
  fun d _ A v A' => A.Sub A' ∧ ∃ cs L, v = askV cs ∧ LentR A' d cs L ∧ ∀ k ∈ L, A.blk k = none⟩

theorem fresh_ne {A : Arena} {L : List Nat} {g : Nat} {o : Obj} (hL : ∀ k ∈ L, A.blk k = none) (hg : A.blk g = some o) : g ∉ L := fun h => by
  have := hL g h
  rw [hg] at this; cases this

set_option maxRecDepth 100000 in
set_option maxHeartbeats 0 in
theorem lentAsk_of (m : Nat) (ih : FOk Try.prog 29 (lentAsksS m)) : FOk Try.prog 9 (lentAskS (m + 1)) := by
  refine fok_v mixed fun d vs A hp => ?_
  simp only [lentAskS] at hp
  obtain ⟨x, rfl, hsz, hx⟩ := hp
  obtain ⟨kind, xid, ses, turn, path, data, flags, ver, watch, sort, last, tmo, frm, mem, parts⟩ := d
  rw [AskR] at hx
  obtain ⟨vd, vm, vp, rows, rfl, hx1, hx2, hx3, hx4, hx5⟩ := hx
  have hC : CTSound Try.prog (lookC [specE 29 (lentAsksS m), specE 27 lentBytesS, specE 28 lentMembersS] noC) := lookC_sound (noC_sound _) (fun x hx => by
    simp only [List.mem_cons, List.not_mem_nil, or_false] at hx
    rcases hx with rfl | rfl | rfl
    · exact specE_ok ih
    · exact specE_ok lentBytes_ok
    · exact specE_ok lentMembers_ok)
  have hparts : ∀ d ∈ parts, d.sz < m := fun d hd => by
    obtain ⟨k, hk, rfl⟩ := List.getElem_of_mem hd
    have := sz_at hk
    simp only [AskD.sz] at hsz
    omega
  refine ⟨_, noL, 60, hC, noL_sound _, fun blk os out tape D hD => ?_⟩
  conv => lhs; whnf
  refine (hD _).2 ⟨data, ⟨vd, rfl, hx1⟩, fun v A1 hq => ?_⟩
  have hq : A.Sub A1 ∧ ∃ g c, v = .slice (some ⟨g, 0, none⟩) data.length c ∧ A.blk g = none ∧ LRow A1 g 1 5 (data.length + 12) c (data.map bv ++ marksB 12) := hq
  obtain ⟨s1, g1, c1, hv, hg1, hL1⟩ := hq
  subst hv
  conv => lhs; whnf
  repeat (refine go_D hD rfl ?_
          conv => lhs; whnf)
  refine (hD _).2 ⟨mem, ⟨vm, rfl, hx2.sub s1⟩, fun v A2 hq => ?_⟩
  have hq : A1.Sub A2 ∧ ∃ g c, v = .slice (some ⟨g, 0, none⟩) mem.length c ∧ A1.blk g = none ∧ LRow A2 g 4 102 (mem.length + 12) c (memCells mem ++ marksM 12) := hq
  obtain ⟨s2, g2, c2, hv, hg2, hL2⟩ := hq
  subst hv
  have s12 := s1.trans s2
  conv => lhs; whnf
  repeat (refine go_D hD rfl ?_
          conv => lhs; whnf)
  refine (hD _).2 ⟨parts, ⟨vp, rfl, hparts, rows, hx3.sub s12, hx4, AsksR.sub s12 _ _ hx5⟩, fun v A3 hq => ?_⟩
  have hq : A2.Sub A3 ∧ ∃ g c rows L, v = .slice (some ⟨g, 0, none⟩) parts.length c ∧ A2.blk g = none ∧ LRow A3 g 15 34 (parts.length + 12) c (rows.flatten ++ marksA 12) ∧ LentsR A3 parts rows L ∧ (∀ k ∈ L, A2.blk k = none) ∧ (g :: L).Nodup := hq
  obtain ⟨s3, g3, c3, rows3, L3, hv, hg3, hL3, hLs, hLn, hnd⟩ := hq
  subst hv
  have up : ∀ {X Y : Arena} {k : Nat}, X.Sub Y → Y.blk k = none → X.blk k = none := fun {X Y k} hs h => by
    cases hX : X.blk k with
    | none => rfl
    | some o => rw [hs k o hX] at h; cases h
  have hend : (lentAskS (m + 1)).post (.mk kind xid ses turn path data flags ver watch sort last tmo frm mem parts) [] A (askV [.int .u8 kind, .int .i64 xid, .int .i64 ses, .int .i64 turn, .string path, .slice (some ⟨g1, 0, none⟩) data.length c1, .int .i64 flags, .int .i64 ver, .bool watch, .int .u8 sort, .int .i64 last, .int .i64 tmo, .int .i64 frm, .slice (some ⟨g2, 0, none⟩) mem.length c2, .slice (some ⟨g3, 0, none⟩) parts.length c3]) A3 := by
    obtain ⟨b1, hb1, _⟩ := hL1.at_
    obtain ⟨b2, hb2, _⟩ := hL2.at_
    have n12 : g1 ≠ g2 := fun e => by rw [← e, hb1] at hg2; cases hg2
    have n13 : g1 ≠ g3 := fun e => by rw [← e, s2 _ _ hb1] at hg3; cases hg3
    have n23 : g2 ≠ g3 := fun e => by rw [← e, hb2] at hg3; cases hg3
    have m1 := fresh_ne hLn (s2 _ _ hb1)
    have m2 := fresh_ne hLn hb2
    refine ⟨s12.trans s3, _, g1 :: g2 :: g3 :: L3, rfl, ?_, fun k hk => ?_⟩
    · rw [LentR]
      refine ⟨g1, g2, g3, c1, c2, c3, rows3, L3, rfl, hL1.sub (s2.trans s3), hL2.sub s3, hL3, hx1.2, hx2.2, hx4, hLs, rfl, ?_⟩
      simp only [List.nodup_cons, List.mem_cons, not_or] at hnd ⊢
      exact ⟨⟨n12, n13, m1⟩, ⟨n23, m2⟩, hnd⟩
    · simp only [List.mem_cons] at hk
      rcases hk with rfl | rfl | rfl | hk
      · exact hg1
      · exact up s1 hg2
      · exact up s12 hg3
      · exact up s12 (hLn k hk)
  conv => lhs; whnf
  repeat (refine go_D hD rfl ?_
          conv => lhs; whnf)
  exact (hD _).2 hend

structure LaG where
  k : Nat
  A : Arena
  rows : List (List Value)
  L : List Nat

structure LaI (A0 : Arena) (g c : Nat) (ds : List AskD) (s : LaG) : Prop where
  le : s.k ≤ ds.length
  sub : A0.Sub s.A
  row : LRow s.A g 15 34 s.k c s.rows.flatten
  lents : LentsR s.A (ds.take s.k) s.rows s.L
  new : ∀ j ∈ s.L, A0.blk j = none
  nd : (g :: s.L).Nodup

def lentAsksInv1 (A0 : Arena) (g c : Nat) (ds : List AskD) : LInv :=
  { γ := LaG, G := LaI A0 g c ds, keepS := [0], keepB := [], sl := fun s => [(4, .v (.int .i64 s.k)), (3, .v (.slice (some ⟨g, 0, none⟩) s.k c))], bl := fun _ => [], ar := fun s => s.A, mu := fun s => ds.length - s.k }

def lentAsksInv2 (A0 : Arena) (g c : Nat) (ds : List AskD) (rows : List (List Value)) (L : List Nat) : LInv :=
  { γ := LbG, G := fun s => s.k ≤ 12 ∧ A0.Sub s.A ∧ LRow s.A g 15 34 (ds.length + s.k) c (rows.flatten ++ marksA s.k) ∧ LentsR s.A ds rows L,
    keepS := [0], keepB := [], sl := fun s => [(6, .v (.int .i64 s.k)), (3, .v (.slice (some ⟨g, 0, none⟩) (ds.length + s.k) c))], bl := fun _ => [], ar := fun s => s.A, mu := fun s => 12 - s.k }

/-- A mark's cells. -/
def markC (k i : Int) : List Value := [.int .u8 0, .int .i64 (mkI k i), .int .i64 0, .int .i64 0, .string ⟨#[]⟩, .slice none 0 0, .int .i64 0, .int .i64 0, .bool false, .int .u8 0, .int .i64 0, .int .i64 0, .int .i64 0, .slice none 0 0, .slice none 0 0]

def markAskS : FSpec := ⟨Int × Int, fun g vs _ => vs = [.int .i64 g.1, .int .i64 g.2], fun g _ A v A' => A' = A ∧ v = askV (markC g.1 g.2)⟩

set_option maxRecDepth 100000 in
set_option maxHeartbeats 0 in
theorem markAsk_ok : FOk Try.prog 57 markAskS := by
  refine fok_v mixed fun ⟨k, i⟩ vs A hp => ?_
  obtain rfl : vs = [.int .i64 k, .int .i64 i] := hp
  refine ⟨noC, noL, 60, noC_sound _, noL_sound _, fun blk os out tape D hD => ?_⟩
  conv => lhs; whnf
  exact (hD _).2 ⟨rfl, rfl⟩

theorem markC_one (k i : Int) : ∀ v ∈ markC k i, v.oneCell' = true := fun v hv => by
  simp only [markC, List.mem_cons, List.not_mem_nil, or_false] at hv
  rcases hv with rfl | rfl | rfl | rfl | rfl | rfl | rfl | rfl | rfl | rfl | rfl | rfl | rfl | rfl | rfl <;> rfl

theorem LentR.nodup {A : Arena} {d : AskD} {cs : List Value} {L : List Nat} (h : LentR A d cs L) : L.Nodup := by
  cases d
  rw [LentR] at h
  obtain ⟨_, _, _, _, _, _, _, _, _, _, _, _, _, _, _, _, _, h⟩ := h
  exact h

theorem marksA_succ (k : Nat) : marksA (k + 1) = marksA k ++ markA 1 k := by
  unfold marksA
  rw [List.range_succ, List.flatMap_append, List.flatMap_singleton]

theorem keep_same {A A2 A3 : Arena} {g : Nat} (hs : A.Sub A2) (ho : ∀ k, k ≠ g → A3.blk k = A2.blk k) {L : List Nat} (hl : ∀ k ∈ L, ∃ o, A.blk k = some o) (hg : g ∉ L) : ∀ k ∈ L, A3.blk k = A.blk k := fun k hk => by
  obtain ⟨o, h⟩ := hl k hk
  rw [ho k fun e => hg (e ▸ hk), hs k o h, h]

set_option maxRecDepth 100000 in
set_option maxHeartbeats 0 in
theorem lentAsks_of (m : Nat) (ih : FOk Try.prog 9 (lentAskS m)) : FOk Try.prog 29 (lentAsksS m) := by
  refine fok_v mixed fun (ds : List AskD) vs A hp => ?_
  obtain ⟨x, rfl, hsz, rows0, hS, hlen, hR⟩ : ∃ x, vs = [x] ∧ (∀ d ∈ ds, d.sz < m) ∧ AsksS A x ds := hp
  obtain ⟨ao, c1, rfl, hc, hl, ha1, ha2, ha3⟩ := hS
  have hC : CTSound Try.prog (lookC [specE 9 (lentAskS m), specE 57 markAskS] noC) := lookC_sound (noC_sound _) (fun x hx => by
    simp only [List.mem_cons, List.not_mem_nil, or_false] at hx
    rcases hx with rfl | rfl
    · exact specE_ok ih
    · exact specE_ok markAsk_ok)
  refine ⟨_, tabO Try.prog _ noL 60 [(29, 0), (29, 2)], 60, hC, tabO_sound mixed hC (noL_sound _) _ _, fun blk os out tape D hD => ?_⟩
  have hw : IntKind.i64.wrap ((ds.length : Int) + 12) = ((ds.length + 12 : Nat) : Int) := by
    rw [Sx.wrap_i64 (by omega) (by omega)]; omega
  obtain ⟨c, hcd⟩ : ∃ c : Nat, c = (IntKind.i64.wrap ((ds.length : Int) + 12)).toNat := ⟨_, rfl⟩
  have hce : c = ds.length + 12 := by rw [hcd, hw, Int.toNat_natCast]
  have hsl : ds.length * 168 ≤ 140737488351232 := hlen
  conv => lhs; whnf
  refine (hD _).2 ⟨by omega, by rw [hw]; omega, by rw [hw]; omega, by
    rw [← hcd, hce]
    show 168 * (ds.length + 12) ≤ _
    omega, rfl, fun g A1 cc hcl hNw => ?_⟩
  have hNw : A.New A1 g cc 34 := hNw
  have hL0 : LRow A1 g 15 34 0 c [] := by
    refine ⟨⟨cc, hNw.at_, ?_, by simp⟩, Nat.zero_le _, rfl⟩
    rw [← Array.length_toList, hcl, ← hcd]
    simp [List.length_flatten]
    rfl
  conv => lhs; whnf
  refine (hD _).2 ⟨lentAsksInv1 A g c ds, ⟨(⟨0, A1, [], []⟩ : LaG), ⟨Nat.zero_le _, hNw.sub, hL0, by
    show LentsR A1 [] [] []
    rw [LentsR]; exact ⟨rfl, rfl⟩, fun _ h => (by cases h), List.nodup_cons.2 ⟨List.not_mem_nil, List.nodup_nil⟩⟩, ⟨rfl, by rw [hcd]; rfl, trivial⟩, trivial, rfl⟩, fun (s : LaG) hG => ⟨⟨trivial, trivial, trivial⟩, trivial, ?_⟩⟩
  obtain ⟨k, As, rs, L⟩ := s
  obtain ⟨hk, hsA, hrow, hlents, hnew, hnd⟩ : LaI A g c ds ⟨k, As, rs, L⟩ := hG
  dsimp only at hk hsA hrow hlents hnew hnd
  have hgAs : ∃ o, As.blk g = some o := by
    obtain ⟨cc, h1, _⟩ := hrow.at_
    exact ⟨_, h1⟩
  obtain ⟨og, hgAs⟩ := hgAs
  have hgL : g ∉ L := (List.nodup_cons.1 hnd).1
  conv => lhs; whnf
  refine split_dec (fun hlt => ?_) (fun hlt => ?_)
  rotate_left
  · have hlt : ¬ (k : Int) < (ds.length : Int) := hlt
    obtain rfl : k = ds.length := by omega
    rw [List.take_length] at hlents
    conv => lhs; whnf
    refine (hD _).2 ⟨lentAsksInv2 A g c ds rs L, ⟨(⟨0, As⟩ : LbG), ⟨Nat.zero_le _, hsA, by
      show LRow As g 15 34 (ds.length + 0) c (rs.flatten ++ [])
      rw [Nat.add_zero, List.append_nil]
      exact hrow, hlents⟩, ⟨rfl, rfl, trivial⟩, trivial, rfl⟩, fun (s : LbG) hG => ⟨⟨trivial, trivial, trivial⟩, trivial, ?_⟩⟩
    obtain ⟨j, At⟩ := s
    obtain ⟨hj, hsT, hrowT, hlentsT⟩ : j ≤ 12 ∧ A.Sub At ∧ LRow At g 15 34 (ds.length + j) c (rs.flatten ++ marksA j) ∧ LentsR At ds rs L := hG
    conv => lhs; whnf
    refine split_dec (fun hlt2 => ?_) (fun hlt2 => ?_)
    rotate_left
    · have hlt2 : ¬ (j : Int) < 12 := hlt2
      have h12 : j = 12 := by omega
      subst h12
      have hle1 : (ds.length : Int) ≤ (c : Int) := by omega
      have hend : (lentAsksS m).post ds [] A (.slice (some ⟨g, 0, none⟩) ds.length c) At := ⟨hsT, g, c, rs, L, rfl, hNw.none_, hrowT, hlentsT, hnew, hnd⟩
      conv => lhs; whnf
      refine go_dec hle1 ?_
      conv => lhs; whnf
      refine (hD _).2 ?_
      show (lentAsksS m).post ds [] A (.slice (some ⟨g, 0 + (bif c.beq (Int.toNat 0) then 0 else Int.toNat 0 * 15), none⟩) (Int.toNat (ds.length : Int) - Int.toNat 0) (c - Int.toNat 0)) At
      rw [win0]
      exact hend
    have hlt2 : (j : Int) < 12 := hlt2
    conv => lhs; whnf
    refine (hD _).2 ⟨((1 : Int), (j : Int)), rfl, fun v A9 hq => ?_⟩
    obtain ⟨h9, hv⟩ : A9 = At ∧ v = askV (markC 1 j) := hq
    subst h9; subst hv
    conv => lhs; whnf
    refine (hD _).2 fun gb A5 hN5 => ?_
    have hN5 : A9.New A5 gb (markC 1 j).toArray 34 := hN5
    have hrow5 : A5.rd gb 0 (1 * 15) = some (markC 1 j) := hN5.rd (o := 0) (n := 1 * 15) (by show 0 + 1 * 15 ≤ 15; omega)
    have hL5 := hrowT.sub hN5.sub
    conv => lhs; whnf
    refine (hD _).2 ⟨rs.flatten ++ marksA j, markC 1 j, hL5.base, by
      show (if 1 * 15 = 0 then some [] else A5.rd gb 0 (1 * 15)) = _
      rw [if_neg (by omega)]; exact hrow5, rfl, markC_one 1 j, by
      show ds.length + j + 1 ≤ _
      omega, fun h9 => (by
      have h9 : c < ds.length + j + 1 := h9
      omega), rfl, fun h => (by cases h), fun g' o' hb _ _ => (by
      injection hb with hb
      injection hb with e1 e2
      subst e1; subst e2
      refine hL5.room ?_
      show 0 + (ds.length + j) * 15 + 15 ≤ _
      omega), fun v A6 hA6 => ?_⟩
    obtain ⟨hv, hL6, hs6, ho6⟩ := lent_step hsT hNw.none_ hrowT hN5 (by omega) rfl hA6
    subst hv
    have e6 : rs.flatten ++ marksA (j + 1) = rs.flatten ++ marksA j ++ markC 1 j := by rw [marksA_succ, List.append_assoc]; rfl
    rw [← e6] at hL6
    conv => lhs; whnf
    exact (hD _).2 ⟨(⟨j + 1, A6⟩ : LbG), ⟨⟨by show j + 1 ≤ 12; omega, hs6, hL6, hlentsT.keep fun q hq => by
      obtain ⟨o, ho⟩ := hlentsT.live q hq
      rw [ho, ho6 q o (fun e => hgL (e ▸ hq)) ho]⟩, ⟨inc_slot (by omega), rfl, trivial⟩, trivial, rfl⟩, by show 12 - (j + 1) < 12 - j; omega, ⟨same1 rfl rfl, trivial⟩, trivial⟩
  have hlt : (k : Int) < (ds.length : Int) := hlt
  have hkl : k < ds.length := by omega
  obtain ⟨g', o', e, hra⟩ := Sl.at_ hc ha1 ha2 ha3 (by omega)
  subst e
  obtain ⟨ce, hce1, hde⟩ := ask_at hra hR k hkl rfl
  have hce2 := rd_sub hsA hce1
  have hde := AskR.sub hsA _ _ hde
  have hde0 := hde
  obtain ⟨p0, p1, p2, p3, p4, q5, u5, n5, p6, p7, p8, p9, p10, p11, p12, q13, u13, n13, q14, u14, n14, rfl⟩ := hde.form
  have i0 : (0 : Int) ≤ (k : Int) ∧ (k : Int) < (ds.length : Int) := by omega
  conv => lhs; whnf
  repeat (first | refine go_in i0 ?_ | refine go_rd hce2 ?_
          conv => lhs; whnf)
  refine (hD _).2 ⟨ds[k], ⟨_, rfl, hsz _ (List.getElem_mem _), hde0⟩, fun v A2 hq => ?_⟩
  have hq : As.Sub A2 ∧ ∃ cs L, v = askV cs ∧ LentR A2 ds[k] cs L ∧ ∀ k ∈ L, As.blk k = none := hq
  obtain ⟨s2, cs2, L2, hv, hlr, hn2⟩ := hq
  subst hv
  obtain ⟨p0, p1, p2, p3, p4, q5, u5, n5, p6, p7, p8, p9, p10, p11, p12, q13, u13, n13, q14, u14, n14, hcs2⟩ := hlr.ask.form
  subst hcs2
  obtain ⟨cs2, hcs2⟩ : ∃ cs2 : List Value, cs2 = [.int .u8 p0, .int .i64 p1, .int .i64 p2, .int .i64 p3, .string p4, .slice q5 u5 n5, .int .i64 p6, .int .i64 p7, .bool p8, .int .u8 p9, .int .i64 p10, .int .i64 p11, .int .i64 p12, .slice q13 u13 n13, .slice q14 u14 n14] := ⟨_, rfl⟩
  rw [← hcs2] at hlr
  have hone := hlr.one
  have hlen15 := hlr.len
  conv => lhs; whnf
  refine (hD _).2 fun gb A5 hN5 => ?_
  have hN5 : A2.New A5 gb #[.int .u8 p0, .int .i64 p1, .int .i64 p2, .int .i64 p3, .string p4, .slice q5 u5 n5, .int .i64 p6, .int .i64 p7, .bool p8, .int .u8 p9, .int .i64 p10, .int .i64 p11, .int .i64 p12, .slice q13 u13 n13, .slice q14 u14 n14] 34 := hN5
  have hrow5 : A5.rd gb 0 (1 * 15) = some cs2 := by
    rw [hcs2]
    exact hN5.rd (o := 0) (n := 1 * 15) (by show 0 + 1 * 15 ≤ 15; omega)
  have hrow2 := hrow.sub s2
  have hL5 := hrow2.sub hN5.sub
  conv => lhs; whnf
  refine (hD _).2 ⟨rs.flatten, cs2, hL5.base, by
    show (if 1 * 15 = 0 then some [] else A5.rd gb 0 (1 * 15)) = _
    rw [if_neg (by omega)]; exact hrow5, hlen15, hone, by
    show k + 1 ≤ _
    omega, fun h9 => (by
    have h9 : c < k + 1 := h9
    omega), rfl, fun h => (by cases h), fun g' o' hb _ _ => (by
    injection hb with hb
    injection hb with e1 e2
    subst e1; subst e2
    refine hL5.room ?_
    show 0 + k * 15 + cs2.length ≤ _
    omega), fun v A6 hA6 => ?_⟩
  obtain ⟨hv, hL6, hs6, ho6⟩ := lent_step (hsA.trans s2) hNw.none_ hrow2 hN5 (by omega) hlen15 hA6
  subst hv
  have hgL2 : g ∉ L2 := fresh_ne hn2 hgAs
  have hG' : LaI A g c ds ⟨k + 1, A6, rs ++ [cs2], L ++ L2⟩ := by
    refine ⟨hkl, hs6, ?_, ?_, fun q hq => ?_, ?_⟩
    · show LRow A6 g 15 34 (k + 1) c (rs ++ [cs2]).flatten
      rw [List.flatten_append, List.flatten_singleton]
      exact hL6
    · show LentsR A6 (ds.take (k + 1)) (rs ++ [cs2]) (L ++ L2)
      rw [List.take_succ_eq_append_getElem hkl]
      refine (hlents.keep fun q hq => ?_).snoc (hlr.keep fun q hq => ?_)
      · obtain ⟨o, ho⟩ := hlents.live q hq
        rw [ho, ho6 q o (fun e => hgL (e ▸ hq)) (s2 q o ho)]
      · obtain ⟨o, ho⟩ := hlr.live q hq
        rw [ho, ho6 q o (fun e => hgL2 (e ▸ hq)) ho]
    · rcases List.mem_append.1 hq with hq | hq
      · exact hnew q hq
      · cases hA : A.blk q with
        | none => rfl
        | some o => have := hn2 q hq; rw [hsA q o hA] at this; cases this
    · show (g :: (L ++ L2)).Nodup
      rw [List.nodup_cons]
      refine ⟨fun h => ?_, List.nodup_append.2 ⟨(List.nodup_cons.1 hnd).2, hlr.nodup, fun a ha b hb e => ?_⟩⟩
      · rcases List.mem_append.1 h with h | h
        · exact hgL h
        · exact hgL2 h
      · subst e
        obtain ⟨o, ho⟩ := hlents.live a ha
        have := hn2 a hb
        rw [ho] at this; cases this
  conv => lhs; whnf
  exact (hD _).2 ⟨(⟨k + 1, A6, rs ++ [cs2], L ++ L2⟩ : LaG), ⟨hG', ⟨inc_slot (by omega), rfl, trivial⟩, trivial, rfl⟩, by show ds.length - (k + 1) < ds.length - k; omega, ⟨same1 rfl rfl, trivial⟩, trivial⟩

theorem lentAsk_all : ∀ m, FOk Try.prog 9 (lentAskS m)
  | 0 => fun g vs A w _ hp => by obtain ⟨_, _, h, _⟩ := hp; omega
  | m + 1 => lentAsk_of m (lentAsks_of m (lentAsk_all m))

def lentAskS' : FSpec := ⟨AskD, fun d vs A => ∃ cs, vs = [askV cs] ∧ AskR A d cs,
  fun d _ A v A' => A.Sub A' ∧ ∃ cs L, v = askV cs ∧ LentR A' d cs L ∧ ∀ k ∈ L, A.blk k = none⟩

theorem lentAsk_ok : FOk Try.prog 9 lentAskS' := fun d vs A w hA ⟨x, h1, h2⟩ =>
  lentAsk_all (d.sz + 1) d vs A w hA ⟨x, h1, Nat.lt_succ_self _, h2⟩

end
end Go.Proofs.Ytpingnkjenicaaa

namespace Go.Proofs.Ytpingnkjenicaaa
open Go.Sx Go.RowKit
noncomputable section
open Classical

theorem LentsR.at_ {A : Arena} : ∀ {ds : List AskD} {rows : List (List Value)} {L : List Nat}, LentsR A ds rows L → ∀ k (hk : k < ds.length) (hr : k < rows.length), ∃ Lk, LentR A ds[k] rows[k] Lk
  | [], _, _, _, k, hk, _ => absurd hk (Nat.not_lt_zero _)
  | d :: ds, rows, L, h, k, hk, hr => by
    obtain ⟨r, rs, L1, L2, rfl, h1, h2, rfl⟩ := h.head
    cases k with
    | zero => exact ⟨L1, h1⟩
    | succ k => exact LentsR.at_ h2 k (by simpa using hk) (by simpa using hr)

theorem lents_flat {A : Arena} {ds : List AskD} {rows : List (List Value)} {L : List Nat} (h : LentsR A ds rows L) : rows.flatten.length = ds.length * 15 := by
  have key : ∀ rows : List (List Value), (∀ r ∈ rows, r.length = 15) → rows.flatten.length = rows.length * 15 := fun rows => by
    induction rows with
    | nil => intro _; rfl
    | cons r rows ih =>
      intro h
      rw [List.flatten_cons, List.length_append, h r (by simp), ih fun x hx => h x (List.mem_cons_of_mem _ hx), List.length_cons]
      omega
  rw [key rows h.lens, h.length]

/-- The k-th call of a row that is lent. -/
theorem lent_at {A : Arena} {g c : Nat} {ds : List AskD} {rows : List (List Value)} {L : List Nat} {ys : List Value} (h : LRow A g 15 34 (ds.length + 12) c (rows.flatten ++ ys)) (hr : LentsR A ds rows L) (k : Nat) (hk : k < ds.length) : ∃ cs Lk, A.rd g (0 + k * 15) 15 = some cs ∧ LentR A ds[k] cs Lk := by
  have hl := hr.length
  obtain ⟨Lk, hLk⟩ := hr.at_ k hk (by omega)
  have h1 := rd_at h.rd (i := 0) (m := ds.length * 15) (by omega)
  rw [List.drop_zero, List.take_left' (lents_flat hr)] at h1
  exact ⟨_, Lk, rows_at h1 hr.lens k (by omega) (by omega), hLk⟩

theorem marksA_len (k : Nat) : (marksA k).length = k * 15 := by
  induction k with
  | zero => rfl
  | succ k ih =>
    rw [marksA_succ, List.length_append, ih]
    show k * 15 + 15 = _
    omega

theorem markA_at {xs : List Value} {n : Nat} (hx : xs.length = n * 15) (k : Nat) (hk : k < 12) : ((xs ++ marksA 12).drop ((n + k) * 15)).take 15 = markC 1 k := by
  rw [List.drop_append, List.drop_eq_nil_of_le (by rw [hx]; omega), List.nil_append, hx]
  have e : (n + k) * 15 - n * 15 = k * 15 := by omega
  rw [e]
  have h12 : k = 0 ∨ k = 1 ∨ k = 2 ∨ k = 3 ∨ k = 4 ∨ k = 5 ∨ k = 6 ∨ k = 7 ∨ k = 8 ∨ k = 9 ∨ k = 10 ∨ k = 11 := by omega
  rcases h12 with rfl | rfl | rfl | rfl | rfl | rfl | rfl | rfl | rfl | rfl | rfl | rfl <;> rfl

/-- A mark as plain data. -/
def markD (k i : Int) : AskD := .mk 0 (mkI k i) 0 0 ⟨#[]⟩ [] 0 0 false 0 0 0 0 [] []

theorem markD_ok (A : Arena) (k i : Int) : AskR A (markD k i) (markC k i) := by
  unfold markD
  rw [AskR]
  exact ⟨_, _, _, [], rfl, ⟨Sl.nil _ _, by simp⟩, ⟨Sl.nil _ _, by simp⟩, Sl.nil _ _, by simp, by rw [AsksR]⟩

def keptAsksS (n : Nat) : FSpec := ⟨List AskD × List (List Value) × List Nat × Nat × Nat, fun x vs A => ∃ y, vs = [.slice (some ⟨x.2.2.2.1, 0, none⟩) x.1.length x.2.2.2.2, y] ∧ (∀ d ∈ x.1, d.sz < n) ∧ LRow A x.2.2.2.1 15 34 (x.1.length + 12) x.2.2.2.2 (x.2.1.flatten ++ marksA 12) ∧ LentsR A x.1 x.2.1 x.2.2.1 ∧ AsksS A y x.1,
  fun _ _ A v A' => A' = A ∧ v = .bool true⟩

def keptAskS (n : Nat) : FSpec := ⟨AskD × List Nat, fun x vs A => ∃ cs ds, vs = [askV cs, askV ds] ∧ x.1.sz < n ∧ LentR A x.1 cs x.2 ∧ AskR A x.1 ds,
  fun _ _ A v A' => A' = A ∧ v = .bool true⟩

set_option maxRecDepth 100000 in
set_option maxHeartbeats 0 in
theorem keptAsk_of (m : Nat) (ih : FOk Try.prog 34 (keptAsksS m)) : FOk Try.prog 12 (keptAskS (m + 1)) := by
  refine fok_v mixed fun ⟨d, L⟩ vs A hp => ?_
  obtain ⟨x, y, rfl, hsz, hx, hy⟩ : ∃ cs ds, vs = [askV cs, askV ds] ∧ d.sz < m + 1 ∧ LentR A d cs L ∧ AskR A d ds := hp
  have hx0 := hx.ask
  have hy0 := hy
  obtain ⟨kind, xid, ses, turn, path, data, flags, ver, watch, sort, last, tmo, frm, mem, parts⟩ := d
  rw [AskR] at hy
  rw [LentR] at hx
  obtain ⟨vd, vm, vp, rows, rfl, hy1, hy2, hy3, hy4, hy5⟩ := hy
  obtain ⟨gd, gm, gp, cd, cm, cp, rows', Lp, rfl, h2, h3, h4, b1, b2, b3, h5, h6, h7⟩ := hx
  have hC : CTSound Try.prog (lookC [specE 34 (keptAsksS m), specE 32 keptBytesS, specE 33 keptMembersS, specE 16 sameAskS'] noC) := lookC_sound (noC_sound _) (fun x hx => by
    simp only [List.mem_cons, List.not_mem_nil, or_false] at hx
    rcases hx with rfl | rfl | rfl | rfl
    · exact specE_ok ih
    · exact specE_ok keptBytes_ok
    · exact specE_ok keptMembers_ok
    · exact specE_ok sameAsk_ok)
  have hparts : ∀ d ∈ parts, d.sz < m := fun d hd => by
    obtain ⟨k, hk, rfl⟩ := List.getElem_of_mem hd
    have := sz_at hk
    simp only [AskD.sz] at hsz
    omega
  obtain ⟨a5, k5, rfl⟩ := hy1.1.form
  obtain ⟨a13, k13, rfl⟩ := hy2.1.form
  obtain ⟨a14, k14, rfl⟩ := hy3.form
  refine ⟨_, noL, 60, hC, noL_sound _, fun blk os out tape D hD => ?_⟩
  conv => lhs; whnf
  refine (hD _).2 ⟨(AskD.mk kind xid ses turn path data flags ver watch sort last tmo frm mem parts, AskD.mk kind xid ses turn path data flags ver watch sort last tmo frm mem parts), ⟨_, _, rfl, hx0, hy0⟩, fun v A1 hq => ?_⟩
  obtain ⟨h9, hv⟩ : A1 = A ∧ v = .bool (decide (AskD.mk kind xid ses turn path data flags ver watch sort last tmo frm mem parts = AskD.mk kind xid ses turn path data flags ver watch sort last tmo frm mem parts)) := hq
  rw [decide_eq_true rfl] at hv
  subst h9; subst hv
  conv => lhs; whnf
  refine (hD _).2 ⟨(data, gd, cd), ⟨_, rfl, hy1, h2⟩, fun v A2 hq => ?_⟩
  obtain ⟨h9, hv⟩ : A2 = A1 ∧ v = .bool true := hq
  subst h9; subst hv
  conv => lhs; whnf
  refine (hD _).2 ⟨(mem, gm, cm), ⟨_, rfl, hy2, h3⟩, fun v A3 hq => ?_⟩
  obtain ⟨h9, hv⟩ : A3 = A2 ∧ v = .bool true := hq
  subst h9; subst hv
  conv => lhs; whnf
  refine (hD _).2 ⟨(parts, rows', Lp, gp, cp), ⟨_, rfl, hparts, h4, h5, rows, hy3, hy4, hy5⟩, fun v A4 hq => ?_⟩
  obtain ⟨h9, hv⟩ : A4 = A3 ∧ v = .bool true := hq
  subst h9; subst hv
  have hend : (keptAskS (m + 1)).post (AskD.mk kind xid ses turn path data flags ver watch sort last tmo frm mem parts, L) [] A4 (.bool true) A4 := ⟨rfl, rfl⟩
  conv => lhs; whnf
  exact (hD _).2 hend

set_option maxRecDepth 100000 in
set_option maxHeartbeats 0 in
theorem keptAsks_of (m : Nat) (ih : FOk Try.prog 12 (keptAskS m)) : FOk Try.prog 34 (keptAsksS m) := by
  refine fok_v mixed fun ⟨ds, rows, L, g, c⟩ vs A hp => ?_
  obtain ⟨x, rfl, hsz, hL, hLs, rows0, ⟨ao, k7, rfl, hd7, hdl, hz1, hz2, hz3⟩, hdn, hR⟩ : ∃ y, vs = [.slice (some ⟨g, 0, none⟩) ds.length c, y] ∧ (∀ d ∈ ds, d.sz < m) ∧ LRow A g 15 34 (ds.length + 12) c (rows.flatten ++ marksA 12) ∧ LentsR A ds rows L ∧ AsksS A y ds := hp
  have hC : CTSound Try.prog (lookC [specE 12 (keptAskS m), specE 57 markAskS, specE 16 sameAskS'] noC) := lookC_sound (noC_sound _) (fun x hx => by
    simp only [List.mem_cons, List.not_mem_nil, or_false] at hx
    rcases hx with rfl | rfl | rfl
    · exact specE_ok ih
    · exact specE_ok markAsk_ok
    · exact specE_ok sameAsk_ok)
  refine ⟨_, tabO Try.prog _ noL 60 [(34, 0)], 60, hC, tabO_sound mixed hC (noL_sound _) _ _, fun blk os out tape D hD => ?_⟩
  have hw : IntKind.i64.wrap ((ds.length : Int) + 12) = ((ds.length + 12 : Nat) : Int) := by
    rw [Sx.wrap_i64 (by omega) (by omega)]; omega
  have hwn : (IntKind.i64.wrap ((ds.length : Int) + 12)).toNat = ds.length + 12 := by rw [hw, Int.toNat_natCast]
  have hrow := hL.rd
  have hend : (keptAsksS m).post (ds, rows, L, g, c) [] A (.bool true) A := ⟨rfl, rfl⟩
  conv => lhs; whnf
  refine split_nd (fun _ => ?_) (fun h => absurd rfl h)
  conv => lhs; whnf
  refine go_b (lbnd_to (k := ds.length + 12) hw hL.le) ?_
  conv => lhs; whnf
  refine (hD _).2 ⟨cnt A 6 [0, 1, 5] [] (ds.length + 12) fun _ => True, ⟨(0 : Nat), ⟨Nat.zero_le _, trivial⟩, ⟨rfl, trivial⟩, trivial, rfl⟩, fun (k : Nat) hk => ⟨⟨trivial, trivial⟩, trivial, ?_⟩⟩
  simp only [cnt] at hk
  conv => lhs; whnf
  refine split_dec (fun hlt => ?_) (fun hlt => ?_)
  rotate_left
  · conv => lhs; whnf
    exact (hD _).2 hend
  have hlt : (k : Int) < (((IntKind.i64.wrap ((ds.length : Int) + 12)).toNat : Nat) : Int) := hlt
  have hk2 : k < ds.length + 12 := by
    have h9 := hlt
    rw [hwn] at h9
    omega
  have i0 : (0 : Int) ≤ (k : Int) ∧ (k : Int) < (((IntKind.i64.wrap ((ds.length : Int) + 12)).toNat : Nat) : Int) := ⟨by omega, hlt⟩
  have hmu : (ds.length + 12) - (k + 1) < (ds.length + 12) - k := by omega
  by_cases h1 : k < ds.length
  · obtain ⟨g', o', e, hrb⟩ := Sl.at_ hd7 hz1 hz2 hz3 (by omega)
    subst e
    have h1i : (k : Int) < (ds.length : Int) := by omega
    have h1n : ¬ (ds.length : Int) ≤ (k : Int) := by omega
    have i1 : (0 : Int) ≤ (k : Int) ∧ (k : Int) < (ds.length : Int) := by omega
    obtain ⟨ca, Lk, r1, hlk⟩ := lent_at hL hLs k h1
    obtain ⟨cb, r2, hbk⟩ := ask_at hrb hR k h1 rfl
    have r1 : A.rd g ((0 + bif c.beq (Int.toNat 0) then 0 else Int.toNat 0 * 15) + k * 15) 15 = some ca := by
      rw [off0]
      exact r1
    have hlk0 := hlk
    have hbk0 := hbk
    obtain ⟨p0, p1, p2, p3, p4, q5, u5, n5, p6, p7, p8, p9, p10, p11, p12, q13, u13, n13, q14, u14, n14, hca⟩ := hlk.ask.form
    subst hca
    obtain ⟨p0, p1, p2, p3, p4, q5, u5, n5, p6, p7, p8, p9, p10, p11, p12, q13, u13, n13, q14, u14, n14, hcb⟩ := hbk.form
    subst hcb
    conv => lhs; whnf
    repeat (first | refine go_dec h1i ?_ | refine go_in i0 ?_ | refine go_in i1 ?_ | refine go_rd r1 ?_ | refine go_rd r2 ?_
            conv => lhs; whnf)
    refine (hD _).2 ⟨(ds[k], Lk), ⟨_, _, rfl, hsz _ (List.getElem_mem _), hlk0, hbk0⟩, fun v A4 hq => ?_⟩
    obtain ⟨h9, hv⟩ : A4 = A ∧ v = .bool true := hq
    subst h9; subst hv
    conv => lhs; whnf
    repeat (first | refine no_dec h1n ?_ | refine go_dec h1n ?_
            conv => lhs; whnf)
    exact (hD _).2 ⟨(k + 1 : Nat), ⟨⟨hk2, trivial⟩, ⟨inc_slot (by omega), trivial⟩, trivial, rfl⟩, hmu, ⟨same1 rfl rfl, same1 rfl rfl, same1 rfl rfl, trivial⟩, trivial⟩
  · have h1i : ¬ (k : Int) < (ds.length : Int) := by omega
    have h1n : (ds.length : Int) ≤ (k : Int) := by omega
    have hwk : IntKind.i64.wrap ((k : Int) - (ds.length : Int)) = ((k - ds.length : Nat) : Int) := by
      rw [Sx.wrap_i64 (by omega) (by omega)]; omega
    have r1 : A.rd g ((0 + bif c.beq (Int.toNat 0) then 0 else Int.toNat 0 * 15) + k * 15) 15 = some (markC 1 ((k - ds.length : Nat) : Int)) := by
      rw [off0]
      have h9 := rd_at hrow (i := k * 15) (m := 15) (by omega)
      have h8 := markA_at (lents_flat hLs) (k - ds.length) (by omega)
      rw [show ds.length + (k - ds.length) = k by omega] at h8
      rw [h8] at h9
      exact h9
    conv => lhs; whnf
    repeat (first | refine no_dec h1i ?_ | refine go_dec h1n ?_ | refine go_in i0 ?_ | refine go_rd r1 ?_
            conv => lhs; whnf)
    refine (hD _).2 ⟨((1 : Int), IntKind.i64.wrap ((k : Int) - (ds.length : Int))), rfl, fun v A9 hq => ?_⟩
    obtain ⟨h9, hv⟩ : A9 = A ∧ v = askV (markC 1 (IntKind.i64.wrap ((k : Int) - (ds.length : Int)))) := hq
    subst h9
    rw [hwk] at hv
    subst hv
    conv => lhs; whnf
    repeat (first | refine no_dec h1i ?_ | refine go_dec h1n ?_ | refine go_in i0 ?_ | refine go_rd r1 ?_ | refine go_D hD rfl ?_
            conv => lhs; whnf)
    refine (hD _).2 ⟨(markD 1 ((k - ds.length : Nat) : Int), markD 1 ((k - ds.length : Nat) : Int)), ⟨_, _, rfl, markD_ok _ _ _, markD_ok _ _ _⟩, fun v A4 hq => ?_⟩
    obtain ⟨h9, hv⟩ : A4 = A9 ∧ v = .bool (decide (markD 1 ((k - ds.length : Nat) : Int) = markD 1 ((k - ds.length : Nat) : Int))) := hq
    rw [decide_eq_true rfl] at hv
    subst h9; subst hv
    conv => lhs; whnf
    repeat (first | refine no_dec h1i ?_ | refine go_dec h1n ?_ | refine go_in i0 ?_ | refine go_rd r1 ?_ | refine go_D hD rfl ?_
            conv => lhs; whnf)
    exact (hD _).2 ⟨(k + 1 : Nat), ⟨⟨hk2, trivial⟩, ⟨inc_slot (by omega), trivial⟩, trivial, rfl⟩, hmu, ⟨same1 rfl rfl, same1 rfl rfl, same1 rfl rfl, trivial⟩, trivial⟩

theorem keptAsk_all : ∀ m, FOk Try.prog 12 (keptAskS m)
  | 0 => fun g vs A w _ hp => by obtain ⟨_, _, _, h, _⟩ := hp; omega
  | m + 1 => keptAsk_of m (keptAsks_of m (keptAsk_all m))

def keptAskS' : FSpec := ⟨AskD × List Nat, fun x vs A => ∃ cs ds, vs = [askV cs, askV ds] ∧ LentR A x.1 cs x.2 ∧ AskR A x.1 ds,
  fun _ _ A v A' => A' = A ∧ v = .bool true⟩

theorem keptAsk_ok : FOk Try.prog 12 keptAskS' := fun d vs A w hA ⟨x, y, h1, h2, h3⟩ =>
  keptAsk_all (d.1.sz + 1) d vs A w hA ⟨x, y, h1, Nat.lt_succ_self _, h2, h3⟩

end
end Go.Proofs.Ytpingnkjenicaaa

namespace Go.Proofs.Ytpingnkjenicaaa
open Go.Sx Go.RowKit
noncomputable section
open Classical

/-- What is written over: these blocks alone. -/
structure OverP (A A' : Arena) (L : List Nat) : Prop where
  other : ∀ k, k ∉ L → A'.blk k = A.blk k
  live : ∀ k ∈ L, ∃ o, A'.blk k = some o

def overAsksS (n : Nat) : FSpec := ⟨List AskD × List (List Value) × List Nat × Nat × Nat, fun x vs A => vs = [.slice (some ⟨x.2.2.2.1, 0, none⟩) x.1.length x.2.2.2.2] ∧ (∀ d ∈ x.1, d.sz < n) ∧ x.1.length * 168 ≤ 140737488351232 ∧ LRow A x.2.2.2.1 15 34 (x.1.length + 12) x.2.2.2.2 (x.2.1.flatten ++ marksA 12) ∧ LentsR A x.1 x.2.1 x.2.2.1 ∧ (x.2.2.2.1 :: x.2.2.1).Nodup,
  fun x _ A _ A' => OverP A A' (x.2.2.2.1 :: x.2.2.1)⟩

def overAskS (n : Nat) : FSpec := ⟨AskD × List Nat, fun x vs A => ∃ cs, vs = [askV cs] ∧ x.1.sz < n ∧ LentR A x.1 cs x.2,
  fun x _ A _ A' => OverP A A' x.2⟩

set_option maxRecDepth 100000 in
set_option maxHeartbeats 0 in
theorem overAsk_of (m : Nat) (ih : FOk Try.prog 37 (overAsksS m)) : FOk Try.prog 13 (overAskS (m + 1)) := by
  refine fok_v mixed fun ⟨d, L⟩ vs A hp => ?_
  obtain ⟨x, rfl, hsz, hx⟩ : ∃ cs, vs = [askV cs] ∧ d.sz < m + 1 ∧ LentR A d cs L := hp
  obtain ⟨kind, xid, ses, turn, path, data, flags, ver, watch, sort, last, tmo, frm, mem, parts⟩ := d
  rw [LentR] at hx
  obtain ⟨gd, gm, gp, cd, cm, cp, rows', Lp, rfl, h2, h3, h4, b1, b2, b3, h5, h6, h7⟩ := hx
  subst h6
  have hC : CTSound Try.prog (lookC [specE 37 (overAsksS m), specE 35 overBytesS, specE 36 overMembersS] noC) := lookC_sound (noC_sound _) (fun x hx => by
    simp only [List.mem_cons, List.not_mem_nil, or_false] at hx
    rcases hx with rfl | rfl | rfl
    · exact specE_ok ih
    · exact specE_ok overBytes_ok
    · exact specE_ok overMembers_ok)
  have hparts : ∀ d ∈ parts, d.sz < m := fun d hd => by
    obtain ⟨k, hk, rfl⟩ := List.getElem_of_mem hd
    have := sz_at hk
    simp only [AskD.sz] at hsz
    omega
  simp only [List.nodup_cons, List.mem_cons, not_or] at h7
  obtain ⟨⟨n12, n13, m1⟩, ⟨n23, m2⟩, m3, hnd⟩ := h7
  refine ⟨_, noL, 60, hC, noL_sound _, fun blk os out tape D hD => ?_⟩
  conv => lhs; whnf
  refine (hD _).2 ⟨(gd, data.length, cd), ⟨rfl, b1, _, h2⟩, fun v A1 hq => ?_⟩
  obtain ⟨o1, l1⟩ : (∀ k, k ≠ gd → A1.blk k = A.blk k) ∧ ∃ o, A1.blk gd = some o := hq
  conv => lhs; whnf
  refine (hD _).2 ⟨(gm, mem.length, cm), ⟨rfl, b2, _, h3.keep (o1 gm (Ne.symm n12))⟩, fun v A2 hq => ?_⟩
  obtain ⟨o2, l2⟩ : (∀ k, k ≠ gm → A2.blk k = A1.blk k) ∧ ∃ o, A2.blk gm = some o := hq
  have hp2 : A2.blk gp = A.blk gp := by rw [o2 gp (Ne.symm n23), o1 gp (Ne.symm n13)]
  have hl2 : ∀ k ∈ Lp, A2.blk k = A.blk k := fun k hk => by
    rw [o2 k fun e => m2 (e ▸ hk), o1 k fun e => m1 (e ▸ hk)]
  conv => lhs; whnf
  refine (hD _).2 ⟨(parts, rows', Lp, gp, cp), ⟨rfl, hparts, b3, h4.keep hp2, h5.keep hl2, List.nodup_cons.2 ⟨m3, hnd⟩⟩, fun v A3 hq => ?_⟩
  obtain ⟨o3, l3⟩ : OverP A2 A3 (gp :: Lp) := hq
  have hend : ∀ v, (overAskS (m + 1)).post (AskD.mk kind xid ses turn path data flags ver watch sort last tmo frm mem parts, gd :: gm :: gp :: Lp) [] A v A3 := fun _ => by
    constructor
    · intro k hk
      simp only [List.mem_cons, not_or] at hk
      obtain ⟨k1, k2, k3, k4⟩ := hk
      rw [o3 k (by simp only [List.mem_cons, not_or]; exact ⟨k3, k4⟩), o2 k k2, o1 k k1]
    · intro k hk
      simp only [List.mem_cons] at hk
      rcases hk with rfl | rfl | hk
      · obtain ⟨o, ho⟩ := l1
        exact ⟨o, by rw [o3 k (by simp only [List.mem_cons, not_or]; exact ⟨n13, m1⟩), o2 k n12, ho]⟩
      · obtain ⟨o, ho⟩ := l2
        exact ⟨o, by rw [o3 k (by simp only [List.mem_cons, not_or]; exact ⟨n23, m2⟩), ho]⟩
      · exact l3 k (by simpa using hk)
  conv => lhs; whnf
  exact (hD _).2 (hend (.bool false))

structure OaG where
  k : Nat
  A : Arena
  L : List Nat

structure OaI (A0 : Arena) (g c : Nat) (ds : List AskD) (rows : List (List Value)) (L : List Nat) (s : OaG) : Prop where
  le : s.k ≤ ds.length
  other : ∀ k, k ∉ L → s.A.blk k = A0.blk k
  live : ∀ k ∈ L, ∃ o, s.A.blk k = some o
  lents : LentsR s.A (ds.drop s.k) (rows.drop s.k) s.L
  sub : ∀ k ∈ s.L, k ∈ L
  nd : s.L.Nodup

def overAsksInv1 (A0 : Arena) (g c : Nat) (ds : List AskD) (rows : List (List Value)) (L : List Nat) : LInv :=
  { γ := OaG, G := OaI A0 g c ds rows L, keepS := [0], keepB := [], sl := fun s => [(2, .v (.int .i64 s.k))], bl := fun _ => [], ar := fun s => s.A, mu := fun s => ds.length - s.k }

def overAsksInv2 (A0 : Arena) (g n c : Nat) (L : List Nat) : LInv :=
  { γ := ObG, G := fun s => s.k ≤ n + 12 ∧ OverP A0 s.A (g :: L) ∧ ∃ cs, LRow s.A g 15 34 (n + 12) c cs,
    keepS := [3], keepB := [], sl := fun s => [(4, .v (.int .i64 s.k))], bl := fun _ => [], ar := fun s => s.A, mu := fun s => n + 12 - s.k }

set_option maxRecDepth 100000 in
set_option maxHeartbeats 0 in
theorem overAsks_of (m : Nat) (ih : FOk Try.prog 13 (overAskS m)) : FOk Try.prog 37 (overAsksS m) := by
  refine fok_v mixed fun ⟨ds, rows, L, g, c⟩ vs A hp => ?_
  obtain ⟨rfl, hsz, hdn, hL, hLs, hnd⟩ : vs = [.slice (some ⟨g, 0, none⟩) ds.length c] ∧ (∀ d ∈ ds, d.sz < m) ∧ ds.length * 168 ≤ 140737488351232 ∧ LRow A g 15 34 (ds.length + 12) c (rows.flatten ++ marksA 12) ∧ LentsR A ds rows L ∧ (g :: L).Nodup := hp
  have hC : CTSound Try.prog (lookC [specE 13 (overAskS m), specE 57 markAskS] noC) := lookC_sound (noC_sound _) (fun x hx => by
    simp only [List.mem_cons, List.not_mem_nil, or_false] at hx
    rcases hx with rfl | rfl
    · exact specE_ok ih
    · exact specE_ok markAsk_ok)
  refine ⟨_, tabO Try.prog _ noL 60 [(37, 0), (37, 2)], 60, hC, tabO_sound mixed hC (noL_sound _) _ _, fun blk os out tape D hD => ?_⟩
  have hw : IntKind.i64.wrap ((ds.length : Int) + 12) = ((ds.length + 12 : Nat) : Int) := by
    rw [Sx.wrap_i64 (by omega) (by omega)]; omega
  have hwn : (IntKind.i64.wrap ((ds.length : Int) + 12)).toNat = ds.length + 12 := by rw [hw, Int.toNat_natCast]
  obtain ⟨hgL, hndL⟩ := List.nodup_cons.1 hnd
  have hlr := hLs.length
  conv => lhs; whnf
  refine (hD _).2 ⟨overAsksInv1 A g c ds rows L, ⟨(⟨0, A, L⟩ : OaG), ⟨Nat.zero_le _, fun _ _ => rfl, fun k hk => hLs.live k hk, hLs, fun _ h => h, hndL⟩, ⟨rfl, trivial⟩, trivial, rfl⟩, fun (s : OaG) hG => ⟨⟨trivial, trivial⟩, trivial, ?_⟩⟩
  obtain ⟨k, As, L1⟩ := s
  obtain ⟨hk, hoth, hliv, hlents, hsub, hnd1⟩ : OaI A g c ds rows L ⟨k, As, L1⟩ := hG
  dsimp only at hk hoth hliv hlents hsub hnd1
  have hLA := hL.keep (hoth g hgL)
  conv => lhs; whnf
  refine split_dec (fun hlt => ?_) (fun hlt => ?_)
  rotate_left
  · have hlt : ¬ (k : Int) < (ds.length : Int) := hlt
    obtain rfl : k = ds.length := by omega
    have hO0 : OverP A As (g :: L) := ⟨fun j hj => hoth j fun h => hj (List.mem_cons_of_mem _ h), fun j hj => by
      rcases List.mem_cons.1 hj with rfl | hj
      · obtain ⟨cc, h1, _⟩ := hLA.at_
        exact ⟨_, h1⟩
      · exact hliv j hj⟩
    conv => lhs; whnf
    refine go_b (lbnd_to (k := ds.length + 12) hw hL.le) ?_
    conv => lhs; whnf
    refine (hD _).2 ⟨overAsksInv2 A g ds.length c L, ⟨(⟨0, As⟩ : ObG), ⟨Nat.zero_le _, hO0, _, hLA⟩, ⟨rfl, trivial⟩, trivial, rfl⟩, fun (s : ObG) hG => ⟨⟨trivial, trivial⟩, trivial, ?_⟩⟩
    obtain ⟨j, At⟩ := s
    obtain ⟨hj, hO, cs1, hLt⟩ : j ≤ ds.length + 12 ∧ OverP A At (g :: L) ∧ ∃ cs, LRow At g 15 34 (ds.length + 12) c cs := hG
    conv => lhs; whnf
    refine split_dec (fun hlt2 => ?_) (fun hlt2 => ?_)
    rotate_left
    · have hend : ∀ v, (overAsksS m).post (ds, rows, L, g, c) [] A v At := fun _ => hO
      conv => lhs; whnf
      exact (hD _).2 (hend (.bool false))
    have hlt2 : (j : Int) < (((IntKind.i64.wrap ((ds.length : Int) + 12)).toNat : Nat) : Int) := hlt2
    have hj2 : j < ds.length + 12 := by
      have h9 := hlt2
      rw [hwn] at h9
      omega
    have i0 : (0 : Int) ≤ (j : Int) ∧ (j : Int) < (((IntKind.i64.wrap ((ds.length : Int) + 12)).toNat : Nat) : Int) := ⟨by omega, hlt2⟩
    have hle := hLt.le
    have hk9 : j < 9223372036854775807 := by omega
    conv => lhs; whnf
    refine (hD _).2 ⟨((2 : Int), (j : Int)), rfl, fun v A9 hq => ?_⟩
    obtain ⟨h9, hv⟩ : A9 = At ∧ v = askV (markC 2 j) := hq
    subst h9; subst hv
    have hroom : A9.Room g ((0 + bif c.beq (Int.toNat 0) then 0 else Int.toNat 0 * 15) + j * 15) 15 := by
      rw [off0]
      refine hLt.room ?_
      omega
    conv => lhs; whnf
    repeat (first | refine go_in i0 ?_ | refine go_D hD rfl ?_
            conv => lhs; whnf)
    refine (hD _).2 ⟨hroom, fun A6 hPut => ?_⟩
    have hPut : A9.Put A6 g ((0 + bif c.beq (Int.toNat 0) then 0 else Int.toNat 0 * 15) + j * 15) (markC 2 j) := hPut
    rw [off0] at hPut
    obtain ⟨h6, ho6⟩ := hLt.over hPut (by show 0 + j * 15 + 15 ≤ c * 15; omega)
    obtain ⟨cs6, hL6⟩ := LRow.again hle h6
    have hO6 : OverP A A6 (g :: L) := ⟨fun q hq => by
      rw [ho6 q fun e => hq (by rw [e]; exact List.mem_cons_self)]
      exact hO.other q hq, fun q hq => by
      by_cases e : q = g
      · subst e
        obtain ⟨cc, h1, _⟩ := h6
        exact ⟨_, h1⟩
      · rw [ho6 q e]
        exact hO.live q hq⟩
    conv => lhs; whnf
    exact (hD _).2 ⟨(⟨j + 1, A6⟩ : ObG), ⟨⟨hj2, hO6, cs6, hL6⟩, ⟨inc_slot (k := j) hk9, trivial⟩, trivial, rfl⟩, by show (ds.length + 12) - (j + 1) < (ds.length + 12) - j; omega, ⟨same1 rfl rfl, trivial⟩, trivial⟩
  have hlt : (k : Int) < (ds.length : Int) := hlt
  have hkl : k < ds.length := by omega
  have hkr : k < rows.length := by omega
  have i0 : (0 : Int) ≤ (k : Int) ∧ (k : Int) < (ds.length : Int) := by omega
  have hk9 : k < 9223372036854775807 := by omega
  rw [List.drop_eq_getElem_cons hkl, List.drop_eq_getElem_cons hkr] at hlents
  obtain ⟨r, rs, La, Lb, hrr, hla, hlb, rfl⟩ := hlents.head
  injection hrr with e1 e2
  subst e2
  have r1 : As.rd g (0 + k * 15) 15 = some r := by
    have h1 := rd_at hLA.rd (i := 0) (m := ds.length * 15) (by omega)
    rw [List.drop_zero, List.take_left' (lents_flat hLs)] at h1
    rw [← e1]
    exact rows_at h1 hLs.lens k hkr (by omega)
  have hla0 := hla
  obtain ⟨p0, p1, p2, p3, p4, q5, u5, n5, p6, p7, p8, p9, p10, p11, p12, q13, u13, n13, q14, u14, n14, hr⟩ := hla.ask.form
  subst hr
  conv => lhs; whnf
  repeat (first | refine go_in i0 ?_ | refine go_rd r1 ?_
          conv => lhs; whnf)
  refine (hD _).2 ⟨(ds[k], La), ⟨_, rfl, hsz _ (List.getElem_mem _), hla0⟩, fun v A2 hq => ?_⟩
  obtain ⟨o2, l2⟩ : OverP As A2 La := hq
  obtain ⟨hna, hnb, hdis⟩ := List.nodup_append.1 hnd1
  have hG' : OaI A g c ds rows L ⟨k + 1, A2, Lb⟩ := by
    refine ⟨hkl, fun q hq => ?_, fun q hq => ?_, ?_, fun q hq => hsub q (List.mem_append_right _ hq), hnb⟩
    · show A2.blk q = A.blk q
      rw [o2 q fun h => hq (hsub q (List.mem_append_left _ h))]
      exact hoth q hq
    · show ∃ o, A2.blk q = some o
      by_cases h : q ∈ La
      · exact l2 q h
      · rw [o2 q h]
        exact hliv q hq
    · show LentsR A2 (ds.drop (k + 1)) (rows.drop (k + 1)) Lb
      exact hlb.keep fun q hq => o2 q fun h => hdis q h q hq rfl
  conv => lhs; whnf
  exact (hD _).2 ⟨(⟨k + 1, A2, Lb⟩ : OaG), ⟨hG', ⟨inc_slot (k := k) hk9, trivial⟩, trivial, rfl⟩, by show ds.length - (k + 1) < ds.length - k; omega, ⟨same1 rfl rfl, trivial⟩, trivial⟩

theorem overAsk_all : ∀ m, FOk Try.prog 13 (overAskS m)
  | 0 => fun g vs A w _ hp => by obtain ⟨_, _, h, _⟩ := hp; omega
  | m + 1 => overAsk_of m (overAsks_of m (overAsk_all m))

def overAskS' : FSpec := ⟨AskD × List Nat, fun x vs A => ∃ cs, vs = [askV cs] ∧ LentR A x.1 cs x.2,
  fun x _ A _ A' => OverP A A' x.2⟩

theorem overAsk_ok : FOk Try.prog 13 overAskS' := fun d vs A w hA ⟨x, h1, h2⟩ =>
  overAsk_all (d.1.sz + 1) d vs A w hA ⟨x, h1, Nat.lt_succ_self _, h2⟩

end
end Go.Proofs.Ytpingnkjenicaaa

namespace Go.Proofs.Ytpingnkjenicaaa
open Go.RowKit Go.Shelf

set_option maxRecDepth 100000 in
theorem idx1 (s : ByteArray) (c : Int) (w : World) :
    Calls Try.prog 96 #[.string s, .int .u8 c] w fun e w' => e = .returned (.int .i64 (Lib.indexByte s.data.toList c.toNat.toUInt8)) ∧ w' = w := by
  go_enter Try.func96, Try.ntmps96
  go_wp2
  rw [run_callFunc_extern Try.func101 (by kernel_rfl) (by kernel_rfl) (by kernel_rfl) (e := Extern.BytealgIndexByte.indexByte) (by kernel_rfl), Lib.run_indexByteString]
  simp only [Result.andThen]
  rw [Oper.upon_value]
  go_wp2
  go_ret
  exact ⟨rfl, rfl⟩

set_option maxRecDepth 100000 in
set_option maxHeartbeats 1000000 in
theorem idx2 (s : ByteArray) (w : World) :
    Calls Try.prog 88 #[.string s, .string ⟨#[47]⟩] w fun e w' => e = .returned (.int .i64 (Lib.index s.data.toList [47])) ∧ w' = w := by
  go_enter Try.func88, Try.ntmps88
  go_wp2_with (go_at_call 96; refine (idx1 _ _ _).mono ?_; rintro e w' ⟨rfl, rfl⟩)
  · have h1 : ([47] == s.toList) = true := by assumption
    go_ret
    refine ⟨?_, rfl⟩
    rw [show Lib.index s.data.toList [47] = 0 from Lib.zero s ⟨#[47]⟩ (.inr (by simpa using h1))]
    rfl
  · go_ret
    refine ⟨?_, rfl⟩
    rw [show Lib.index s.data.toList [47] = _ from Lib.one s ⟨#[47]⟩ rfl]
    rfl

set_option maxRecDepth 100000 in
set_option maxHeartbeats 2000000 in
theorem cut1 (s : ByteArray) (hs : s.size < 4294967281) (w : World) :
    Calls Try.prog 75 #[.string s, .string ⟨#[47]⟩] w fun e w' => e = .returned (.tuple #[.string ⟨(Lib.cut s.data.toList [47]).1.toArray⟩, .string ⟨(Lib.cut s.data.toList [47]).2.1.toArray⟩, .bool (Lib.cut s.data.toList [47]).2.2]) ∧ ∃ n, w' = w.drewN n := by
  have mixed : Try.prog.follows .mixedOrders = true := by kernel_rfl
  rcases Lib.indexB_cases s ⟨#[47]⟩ with hix | ⟨i, hix, hroom⟩
  · obtain ⟨e1, e2, e3⟩ := Lib.cutB_miss s ⟨#[47]⟩ hix
    rw [show (Lib.cut s.data.toList [47]).1 = _ from rfl, show (⟨(Lib.cut s.data.toList [47]).1.toArray⟩ : ByteArray) = _ from e1, show (⟨(Lib.cut s.data.toList [47]).2.1.toArray⟩ : ByteArray) = _ from e2, show (Lib.cut s.data.toList [47]).2.2 = _ from e3]
    go_enter Try.func75, Try.ntmps75
    go_wp2_with (go_at_call 88; refine (idx2 _ _).mono ?_; rintro e w' ⟨rfl, rfl⟩; rw [show Lib.index s.data.toList [47] = _ from hix])
    go_ret3
    exact ⟨rfl, 0, rfl⟩
  · obtain ⟨e1, e2, e3⟩ := Lib.cutB_hit s ⟨#[47]⟩ i hix
    rw [show (⟨(Lib.cut s.data.toList [47]).1.toArray⟩ : ByteArray) = _ from e1, show (⟨(Lib.cut s.data.toList [47]).2.1.toArray⟩ : ByteArray) = _ from e2, show (Lib.cut s.data.toList [47]).2.2 = _ from e3]
    have c0 : (⟨#[47]⟩ : ByteArray).size = 1 := rfl
    rw [c0] at hroom ⊢
    have c1 : (0 : Int) ≤ ↑i := by omega
    have c2 : (↑i : Int) ≤ ↑s.size := by omega
    have c3 : (0 : Int) ≤ ↑i + 1 := by omega
    have c4 : (↑i + 1 : Int) ≤ ↑s.size := by omega
    go_enter Try.func75, Try.ntmps75
    go_wp2_with (go_at_call 88; refine (idx2 _ _).mono ?_; rintro e w' ⟨rfl, rfl⟩; rw [show Lib.index s.data.toList [47] = _ from hix])
    go_region_o
    go_wp2
    go_ret3
    exact ⟨rfl, 1, rfl⟩

set_option maxRecDepth 100000 in
set_option maxHeartbeats 1000000 in
theorem cut2 (s : ByteArray) (hs : s.size < 4294967281) (w : World) :
    Calls Try.prog 70 #[.string s, .string ⟨#[47]⟩] w fun e w' => e = .returned (.tuple #[.string ⟨(Lib.cut s.data.toList [47]).1.toArray⟩, .string ⟨(Lib.cut s.data.toList [47]).2.1.toArray⟩, .bool (Lib.cut s.data.toList [47]).2.2]) ∧ ∃ n, w' = w.drewN n := by
  go_enter Try.func70, Try.ntmps70
  go_wp2_with (go_at_call 75; refine (cut1 _ hs _).mono ?_; rintro e w' ⟨rfl, n, rfl⟩)
  go_ret3
  exact ⟨rfl, n, rfl⟩
end Go.Proofs.Ytpingnkjenicaaa

namespace Go.Proofs.Ytpingnkjenicaaa
open Go.RowKit Go.Shelf

def okByte (b : UInt8) : Bool := decide (33 ≤ b.toNat) && decide (b.toNat ≤ 126) && !(b == 47)
def partOk (l : List UInt8) : Bool := l.all okByte && !l.isEmpty && !(l == [46]) && !(l == [46, 46])

theorem dec_cases (s : ByteArray) (pos : Nat) (hp : pos < s.size) :
    (okByte (s[pos]'hp) = true ∧ Utf8.decode s pos = ((s[pos]'hp).toNat, 1) ∧ 33 ≤ (Utf8.decode s pos).1 ∧ (Utf8.decode s pos).1 ≤ 126 ∧ (Utf8.decode s pos).1 ≠ 47) ∨
    (okByte (s[pos]'hp) = false ∧ ((Utf8.decode s pos).1 < 33 ∨ 126 < (Utf8.decode s pos).1 ∨ (Utf8.decode s pos).1 = 47)) := by
  by_cases ha : (s[pos]'hp).toNat < 128
  · have hd := decode_ascii s pos hp ha
    rw [hd]
    have h47 : ((s[pos]'hp) == 47) = decide ((s[pos]'hp).toNat = 47) := by
      rw [Bool.eq_iff_iff, beq_iff_eq, decide_eq_true_iff]
      exact ⟨fun h => by rw [h]; rfl, fun h => UInt8.toNat_inj.1 (by rw [h]; rfl)⟩
    unfold okByte
    rw [h47]
    by_cases h1 : 33 ≤ (s[pos]'hp).toNat <;> by_cases h2 : (s[pos]'hp).toNat ≤ 126 <;> by_cases h3 : (s[pos]'hp).toNat = 47 <;> simp [h1, h2, h3] <;> omega
  · refine .inr ⟨?_, .inr (.inl ?_)⟩
    · unfold okByte
      have : ¬ (s[pos]'hp).toNat ≤ 126 := by omega
      simp [this]
    · have := (decode_high s pos hp (by omega)).1
      omega

theorem part_bad (s : ByteArray) (pos : Nat) (hp : pos < s.size) (h : okByte (s[pos]'hp) = false) : partOk s.data.toList = false := by
  unfold partOk
  have : s.data.toList.all okByte = false := by
    rw [List.all_eq_false]
    exact ⟨s[pos]'hp, by simp [ByteArray.getElem_eq_getElem_data], by simp [h]⟩
  simp [this]

theorem part_end (s : ByteArray) (pos : Nat) (hp : ¬ pos < s.size) (h2 : (s.data.toList.take pos).all okByte = true) : Hid (partOk s.data.toList = (!s.toList.isEmpty && !s.toList == [46] && !s.toList == [46, 46])) := by
  show _ = _
  rw [List.take_of_length_le (by have : s.data.toList.length = s.size := rfl; omega)] at h2
  unfold partOk
  rw [h2, ByteArray.toList_eq]
  simp

theorem take_ok (s : ByteArray) (pos : Nat) (hp : pos < s.size) (h : okByte (s[pos]'hp) = true) (h2 : (s.data.toList.take pos).all okByte = true) : (s.data.toList.take (pos + 1)).all okByte = true := by
  have hl : pos < s.data.toList.length := by simpa using hp
  rw [List.take_succ_eq_append_getElem hl, List.all_append, h2]
  simpa [ByteArray.getElem_eq_getElem_data] using h

set_option maxRecDepth 100000 in
set_option maxHeartbeats 1000000 in
theorem part1 (s : ByteArray) (w : World) :
    Calls Try.prog 62 #[.string s] w fun e w' => e = .returned (.bool (partOk s.data.toList)) ∧ ∃ pos, w' = w.iter s pos := by
  go_enter Try.func62, Try.ntmps62
  go_wp2
  go_loopw [] (fun w' => ∃ (pos : Nat), w' = w.iter s pos ∧ pos ≤ s.size ∧ (s.data.toList.take pos).all okByte = true) (fun w' => s.size - w'.iterPos w.heap.size)
  case atStart => exact ⟨0, rfl, by omega, by simp⟩
  case round =>
    obtain ⟨pos, rfl, h1, h2⟩ := hrel
    by_cases hp : pos < s.size
    · have hnx : ∀ ty, (Instr.next (.pointer (some ⟨w.heap.size, 0, none⟩)) true ty).run Try.prog (w.iter s pos) = _ := fun ty => run_next_any w s pos ty hp
      go_wp2
      · rename_i g
        rcases dec_cases s pos hp with ⟨k1, k2, k3, k4, k5⟩ | ⟨k1, k2⟩
        · exfalso
          rcases g with g | g
          · omega
          · have := eq_of_beq g; omega
        · have k3 := part_bad s pos hp k1
          go_ret
          exact ⟨by rw [k3]; rfl, _, rfl⟩
      · rename_i g
        rcases dec_cases s pos hp with ⟨k1, k2, k3, k4, k5⟩ | ⟨k1, k2⟩
        · rw [k2]
          exact ⟨⟨pos + 1, rfl, by omega, take_ok s pos hp k1 h2⟩, by simp; omega⟩
        · exfalso
          obtain ⟨g, g'⟩ := g
          have := ne_of_beq_false g'
          omega
      · rename_i g
        rcases dec_cases s pos hp with ⟨k1, k2, k3, k4, k5⟩ | ⟨k1, k2⟩
        · exfalso; omega
        · have k3 := part_bad s pos hp k1
          go_ret
          exact ⟨by rw [k3]; rfl, _, rfl⟩
      · rename_i g
        rcases dec_cases s pos hp with ⟨k1, k2, k3, k4, k5⟩ | ⟨k1, k2⟩
        · exfalso; omega
        · have k3 := part_bad s pos hp k1
          go_ret
          exact ⟨by rw [k3]; rfl, _, rfl⟩
    · have hnx : ∀ ty, (Instr.next (.pointer (some ⟨w.heap.size, 0, none⟩)) true ty).run Try.prog (w.iter s pos) = _ := fun ty => run_next_end w s pos ty hp
      have h3 := part_end s pos hp h2
      go_wp2
      · rename_i g
        go_ret
        refine ⟨?_, _, rfl⟩
        rw [h3.out, g]; rfl
      · rename_i g
        go_ret
        refine ⟨?_, _, rfl⟩
        rw [h3.out, g]; rfl
      · go_ret
        refine ⟨?_, _, rfl⟩
        rw [h3.out]; rfl
end Go.Proofs.Ytpingnkjenicaaa

namespace Go.Proofs.Ytpingnkjenicaaa
open Go.RowKit Go.Shelf
attribute [local go_sem] Oper.semAt_some

/-- The parts between the slashes. -/
def splitL : List UInt8 → List (List UInt8)
  | [] => [[]]
  | b :: l => bif b == 47 then [] :: splitL l else match splitL l with
    | x :: xs => (b :: x) :: xs
    | [] => [[b]]

/-- What stands behind the first slash. -/
def restOk (q : List UInt8) : Bool := q.isEmpty || (splitL q).all partOk

theorem splitL_none : ∀ (l : List UInt8), (∀ b ∈ l, b ≠ 47) → splitL l = [l]
  | [], _ => rfl
  | b :: l, h => by
    have hb : (b == 47) = false := by simpa using h b (by simp)
    simp [splitL, hb, splitL_none l (fun x hx => h x (by simp [hx]))]

theorem splitL_cut : ∀ (a b : List UInt8), (∀ x ∈ a, x ≠ 47) → splitL (a ++ 47 :: b) = a :: splitL b
  | [], b, _ => by simp [splitL]
  | x :: a, b, h => by
    have hb : (x == 47) = false := by simpa using h x (by simp)
    simp [splitL, hb, splitL_cut a b (fun y hy => h y (by simp [hy]))]

theorem index_cases : ∀ (l : List UInt8), (Lib.index l [47] = -1 ∧ ∀ x ∈ l, x ≠ 47) ∨ (∃ a b, l = a ++ 47 :: b ∧ (∀ x ∈ a, x ≠ 47) ∧ Lib.index l [47] = a.length)
  | [] => .inl ⟨rfl, by simp⟩
  | x :: l => by
    by_cases hx : x = 47
    · subst hx
      exact .inr ⟨[], l, rfl, by simp, by simp [Lib.index, List.isPrefixOf]⟩
    · have e : List.isPrefixOf [47] (x :: l) = false := by
        simp [List.isPrefixOf]
        exact fun h => hx h.symm
      rcases index_cases l with ⟨h1, h2⟩ | ⟨a, b, h1, h2, h3⟩
      · refine .inl ⟨by simp [Lib.index, e, h1], fun y hy => ?_⟩
        rcases List.mem_cons.1 hy with rfl | hy
        · exact hx
        · exact h2 y hy
      · refine .inr ⟨x :: a, b, by simp [h1], fun y hy => ?_, ?_⟩
        · rcases List.mem_cons.1 hy with rfl | hy
          · exact hx
          · exact h2 y hy
        · have : ((a.length : Int) == -1) = false := by rw [beq_eq_false_iff_ne]; omega
          simp [Lib.index, e, h3, this]

/-- A text, cut at its first slash. -/
def CutFacts (q n1 n2 : List UInt8) : Prop :=
  (n1 = q ∧ n2 = [] ∧ splitL q = [q]) ∨ (q = n1 ++ 47 :: n2 ∧ splitL q = n1 :: splitL n2)

theorem cut_facts (q : List UInt8) : CutFacts q (Lib.cut q [47]).1 (Lib.cut q [47]).2.1 := by
  unfold Lib.cut
  rcases index_cases q with ⟨h1, h2⟩ | ⟨a, b, h1, h2, h3⟩
  · rw [h1]
    exact .inl ⟨rfl, rfl, splitL_none q h2⟩
  · rw [h3, if_pos (by omega)]
    refine .inr ?_
    have e1 : q.take (↑a.length : Int).toNat = a := by rw [h1]; simp
    have e2 : q.drop ((↑a.length : Int).toNat + [47].length) = b := by
      rw [h1]
      simp
    simp only [e1]
    rw [show q.drop ((↑a.length : Int).toNat + [(47 : UInt8)].length) = b from e2]
    rw [h1]
    exact ⟨rfl, splitL_cut a b h2⟩

theorem cut3 (s : ByteArray) (hs : s.size < 4294967281) (w : World) :
    Calls Try.prog 70 #[.string s, .string ⟨#[47]⟩] w fun e w' => ∃ n1 n2 b n, e = .returned (.tuple #[.string n1, .string n2, .bool b]) ∧ w' = w.drewN n ∧ Hid (CutFacts s.data.toList n1.data.toList n2.data.toList) := by
  refine (cut2 s hs w).mono ?_
  rintro e w' ⟨rfl, n, rfl⟩
  exact ⟨_, _, _, n, rfl, rfl, cut_facts _⟩

end Go.Proofs.Ytpingnkjenicaaa

namespace Go.Proofs.Ytpingnkjenicaaa
open Go.RowKit Go.Shelf
attribute [local go_sem] Oper.semAt_some

def strSize : Option Value → Nat
  | some (.string s) => s.size
  | _ => 0

theorem ext_tail {p : ByteArray} {b : UInt8} {q : List UInt8} (hp : p.data.toList = b :: q) : (p.extract 1 p.size).data.toList = q := by
  have : (p.extract 1 p.size).data.toList = (p.data.toList.drop 1).take (p.size - 1) := by
    rw [ByteArray.data_extract]
    simp [Array.toList_extract]
  rw [this, hp]
  have h : p.size = (b :: q).length := by rw [← hp]; rfl
  simp [h]

theorem wrap64_in' (n : Int) (h : -9223372036854775808 ≤ n ∧ n ≤ 9223372036854775807) : wrap64 n = n := by unfold wrap64; omega

theorem size_list (p : ByteArray) : p.size = p.data.toList.length := rfl

theorem part_nil : partOk [] = false := rfl

/-- A cut part that is none. -/
theorem rest_bad {q n1 n2 : List UInt8} (hq : q ≠ []) (h : CutFacts q n1 n2) (ho : partOk n1 = false) : restOk q = false := by
  unfold restOk
  rcases h with ⟨h1, _, h3⟩ | ⟨_, h3⟩
  · rw [h3, ← h1]
    cases n1 with
    | nil => exact absurd h1.symm hq
    | cons x xs => simp [ho]
  · rw [h3]
    cases q with
    | nil => exact absurd rfl hq
    | cons x xs => simp [ho]

/-- The last part. -/
theorem rest_last {q n1 n2 : List UInt8} (h : CutFacts q n1 n2) (ho : partOk n1 = true) (hl : n1.length = q.length) : restOk q = true := by
  unfold restOk
  rcases h with ⟨h1, _, h3⟩ | ⟨h1, _⟩
  · rw [h3, ← h1]
    simp [ho]
  · rw [h1] at hl; simp at hl

/-- A part with others behind it. -/
theorem rest_more {q n1 n2 : List UInt8} (h : CutFacts q n1 n2) (ho : partOk n1 = true) (hl : n1.length ≠ q.length) : q.length = n1.length + n2.length + 1 ∧ restOk q = (splitL n2).all partOk := by
  rcases h with ⟨h1, _, h3⟩ | ⟨h1, h2⟩
  · exact absurd (by rw [h1]) hl
  · refine ⟨by rw [h1]; simp; omega, ?_⟩
    unfold restOk
    rw [h2]
    cases q with
    | nil => simp at h1
    | cons x xs => simp [ho]

set_option maxRecDepth 100000 in
set_option maxHeartbeats 4000000 in
theorem iter1 (n : Nat) (_ : 2 ≤ n) (l Bn : Nat) (J Jx : ByteArray → World → Prop)
    (jc : ∀ p W, J p W → W.cell? ⟨Bn, 0, none⟩ = some (.string p) ∧ W.frozen? ⟨Bn, 0, none⟩ = false)
    (xc : ∀ p W, Jx p W → W.cell? ⟨Bn, 0, none⟩ = some (.string p))
    (jd : ∀ p W k, J p W → J p (W.drewN k))
    (js : ∀ p p' W, J p W → J p' (W.setCell ⟨Bn, 0, none⟩ (.string p')))
    (hY : ∀ p x W, J p W → YieldAt Fence.wide (n - 1) Try.prog l #[.string x] W fun e W' => (Hid (partOk x.data.toList = true) ∧ e = .returned (.bool true) ∧ J p W') ∨ (Hid (partOk x.data.toList = false) ∧ e = .returned (.bool false) ∧ Jx p W'))
    (p0 : ByteArray) (q0 : List UInt8) (hp0 : Hid (p0.data.toList = 47 :: q0)) (hsz : p0.size ≤ 200) (W : World) (h0 : J p0 W) :
    CallsIn Fence.wide n Try.prog 69 #[.func (.yield l) #[] #[], .pointer (some ⟨Bn, 0, none⟩)] W fun e W' => (∃ v, e = .returned v) ∧
      ((restOk q0 = true ∧ ∃ p, J p W') ∨ (restOk q0 = false ∧ ∃ p, Jx p W')) := by
  refine callsIn_of_wp Try.func69 rfl trivial ?_ rfl
  simp only [Try.ntmps69, List.size_toArray, List.length_cons, List.length_nil, Nat.reduceAdd, Nat.reduceSub, Array.replicate_succ, Array.replicate_zero, List.push_toArray, List.append_toArray, List.nil_append, List.cons_append]
  gi_wp2
  gi_loopw [] (fun wr => (∃ (p : ByteArray) (q : List UInt8), J p wr ∧ Hid (p.data.toList = 47 :: q) ∧ Hid (restOk q = restOk q0) ∧ p.size ≤ 200) ∨ (∃ p : ByteArray, Jx p wr ∧ Hid (p = ⟨#[47]⟩) ∧ Hid (restOk q0 = false)))
    (fun wr => strSize (wr.cell? ⟨Bn, 0, none⟩))
  case atStart => exact .inl ⟨p0, q0, h0, hp0, rfl, hsz⟩
  case round =>
    rcases hrel with ⟨p, q, hJ, hp, hq, hs⟩ | ⟨p, hX, hp, hq⟩
    · obtain ⟨hc, hf⟩ := jc p wr hJ
      have hs1 : (1 : Int) ≤ ↑p.size := by
        have : p.size = (47 :: q).length := by rw [← hp.out]; rfl
        simp at this; omega
      have hsq : Hid (p.size = q.length + 1) := by show _ = _; rw [size_list, hp.out]; rfl
      by_cases hq' : q = []
      · -- '/' alone
        have hp' : p = ⟨#[47]⟩ := by
          have h := hp.out
          rw [hq'] at h
          obtain ⟨⟨x⟩⟩ := p
          simp at h
          rw [h]
        subst hp'
        have hq2 : Hid (restOk q0 = true) := by
          have h := hq.out
          rw [hq'] at h
          exact h.symm
        clear hq'
        gi_wp2
        go_end0
        exact ⟨⟨_, rfl⟩, .inl ⟨hq2.out, _, hJ⟩⟩
      · have hne : (p.toList == [47]) = false := by
          rw [beq_eq_false_iff_ne, ByteArray.toList_eq, hp.out]
          intro h
          injection h with _ h
          exact hq' h
        have hee : p.toList.isEmpty = false := by
          rw [ByteArray.toList_eq, hp.out]; rfl
        have hq2 : Hid (q ≠ []) := hq'
        clear hq'
        gi_wp2
        refine ⟨trivial, fun h => (by cases h), ?_⟩
        refine (callsIn_wide.2 (cut3 _ (by rw [ByteArray.size_extract]; omega) _)).mono ?_
        rintro e w' ⟨n1, n2, b, k, rfl, rfl, hcut⟩
        have hcut' : Hid (CutFacts q n1.data.toList n2.data.toList) := by
          have h := hcut.out
          rw [ext_tail hp.out] at h
          exact h
        clear hcut
        have hJ1 := jd _ _ k hJ
        obtain ⟨hc1, hf1⟩ := jc _ _ hJ1
        obtain ⟨fn, tmps, assign, body, hy, hR⟩ := hY _ n1 _ hJ1
        gi_wp2
        refine ⟨fun h => (by cases h), hR.mono ?_⟩
        rintro e W3 (⟨ho, rfl, hJ3⟩ | ⟨ho, rfl, hX3⟩)
        · obtain ⟨hc3, hf3⟩ := jc _ _ hJ3
          by_cases hl : n1.data.toList.length = q.length
          · have hlast : Hid (restOk q0 = true) := by
              rw [← hq.out]; exact rest_last hcut'.out ho.out hl
            have hlen : wrap64 ((n1.size : Int) + 1) = (p.size : Int) := by
              have h1 := hsq.out
              rw [wrap64_in' _ (by rw [size_list]; omega), size_list n1, hl, h1]
              simp
            clear hl
            gi_wp2
            refine bodyPost_ret (results_none rfl _ _ _) rfl ?_
            exact ⟨⟨_, rfl⟩, .inl ⟨hlast.out, _, hJ3⟩⟩
          · obtain ⟨hlq, hmore'⟩ := rest_more hcut'.out ho.out hl
            have hmore : Hid (restOk q0 = (splitL n2.data.toList).all partOk) := by
              rw [← hq.out]; exact hmore'
            have hlen : (wrap64 ((n1.size : Int) + 1) == (p.size : Int)) = false := by
              have h1 := hsq.out
              rw [wrap64_in' _ (by rw [size_list]; omega), size_list n1, h1, beq_eq_false_iff_ne]
              omega
            have hn2 : ¬ 9223372036854775807 < 1 + n2.size := by
              have h1 := hsq.out
              rw [size_list]; omega
            have hlq2 : Hid (q.length = n1.data.toList.length + n2.data.toList.length + 1) := hlq
            clear hl hlq hmore'
            have hJ4 := js p (⟨#[47]⟩ ++ n2) W3 hJ3
            obtain ⟨fn2, tm2, as2, bo2, hy2, hR2⟩ := hY _ ⟨#[]⟩ _ hJ4
            gi_wp2
            · rename_i hz _ _
              have hz' : n2.data.toList = [] := by
                rw [ByteArray.toList_eq] at hz
                exact List.isEmpty_iff.1 hz
              have hz2 : n2 = ⟨#[]⟩ := by
                obtain ⟨⟨x⟩⟩ := n2
                simp at hz'
                rw [hz']
              clear hz hz'
              refine ⟨fun h => (by cases h), hR2.mono ?_⟩
              rintro e W4 (⟨ho2, rfl, hJ5⟩ | ⟨ho2, rfl, hX5⟩)
              · exact absurd (ho2.out : partOk [] = true) (by decide)
              · have hc4 := xc _ _ hX5
                have hbad : Hid (restOk q0 = false) := by
                  rw [hmore.out, hz2]; rfl
                gi_wp2
                refine ⟨.inr ⟨_, hX5, ?_, hbad⟩, ?_⟩
                · rw [hz2]; rfl
                · have h1 := hsq.out; have h2 := hlq2.out
                  rw [hc4, hc, hz2]
                  show 1 < p.size
                  omega
            · rename_i hz
              have hz' : n2.data.toList ≠ [] := by
                rw [ByteArray.toList_eq] at hz
                intro h
                rw [h] at hz
                cases hz
              have hs2 : (⟨#[47]⟩ ++ n2 : ByteArray).size = n2.size + 1 := by
                rw [ByteArray.size_append]
                have : (⟨#[47]⟩ : ByteArray).size = 1 := rfl
                omega
              have h1 := hsq.out; have h2 := hlq2.out
              have h3 := size_list n2
              refine ⟨.inl ⟨_, n2.data.toList, hJ4, ?_, ?_, ?_⟩, ?_⟩
              · show _ = _
                rw [ByteArray.data_append, Array.toList_append]; rfl
              · show _ = _
                rw [hmore.out]
                unfold restOk
                cases hd : n2.data.toList with
                | nil => exact absurd hd hz'
                | cons x xs => simp
              · rw [hs2]; omega
              · rw [(jc _ _ hJ4).1, hc]
                show (⟨#[47]⟩ ++ n2 : ByteArray).size < p.size
                rw [hs2]; omega
        · have hc3 := xc _ _ hX3
          have hbad : Hid (restOk q0 = false) := by
            rw [← hq.out]; exact rest_bad hq2.out hcut'.out ho.out
          gi_wp2
          refine bodyPost_ret (results_none rfl _ _ _) rfl ?_
          exact ⟨⟨_, rfl⟩, .inr ⟨hbad.out, _, hX3⟩⟩
    · have hc := xc _ _ hX
      have hp' := hp.out
      subst hp'
      gi_wp2
      go_end0
      exact ⟨⟨_, rfl⟩, .inr ⟨hq.out, _, hX⟩⟩
end Go.Proofs.Ytpingnkjenicaaa

namespace Go.Proofs.Ytpingnkjenicaaa
open Go.RowKit Go.Shelf
attribute [local go_sem] Oper.semAt_some

theorem cellNew (W : World) (v : Value) (t : TypeId) : (W.alloc (.cells #[v] t)).cell? ⟨W.heap.size, 0, none⟩ = some v ∧ (W.alloc (.cells #[v] t)).frozen? ⟨W.heap.size, 0, none⟩ = false := by
  have h := World.alloc_heap_new W (.cells #[v] t)
  constructor
  · simp only [World.cell?, h]; rfl
  · simp only [World.frozen?, h]; rfl

theorem setOther {W : World} {p a : Addr} (v : Value) (h : p.block ≠ a.block) : (W.setCell p v).cell? a = W.cell? a :=
  World.cell?_of_block (Below.heap_setCell _ _ _ _ (fun e => h e.symm))

theorem cellAlloc {W : World} {a : Addr} {v : Value} (o : Obj) (h : W.cell? a = some v) : (W.alloc o).cell? a = some v := cell_kept h (World.grownBy_alloc W o none) (fun r e => by cases e)
theorem frozenAlloc {W : World} {a : Addr} {v : Value} (o : Obj) (h : W.cell? a = some v) (hf : W.frozen? a = false) : (W.alloc o).frozen? a = false := (frozen_kept h (World.grownBy_alloc W o none) (fun r e => by cases e)).trans hf

theorem head_of (p : ByteArray) (h : 0 < p.size) (e : (((p[0]'h).toNat : Nat) : Int) = 47) : ∃ q, p.data.toList = 47 :: q ∧ q.length + 1 = p.size := by
  obtain ⟨⟨l⟩⟩ := p
  cases l with
  | nil => simp [ByteArray.size] at h
  | cons b l =>
    refine ⟨l, ?_, rfl⟩
    have e' : ((b.toNat : Nat) : Int) = 47 := e
    have : b = 47 := UInt8.toNat_inj.1 (by have h47 : (47 : UInt8).toNat = 47 := rfl; omega)
    rw [this]

theorem size_pos_of (p : ByteArray) (h : ¬ p.toList = []) : 0 < p.size := by
  rw [ByteArray.toList_eq] at h
  rw [size_list]
  exact List.length_pos_iff.2 h

theorem not_head (p : ByteArray) (q : List UInt8) (hp : p.data.toList = 47 :: q) (h : 0 < p.size) : (((p[0]'h).toNat : Nat) : Int) = 47 := by
  obtain ⟨⟨l⟩⟩ := p
  simp at hp
  subst hp
  rfl

/-- Is it a right path? -/
def pathOk : List UInt8 → Bool
  | 47 :: q => decide (q.length < 200) && restOk q
  | _ => false

set_option maxRecDepth 100000 in
theorem parts1 (p : ByteArray) (w : World) :
    Calls Try.prog 61 #[.string p] w fun e w' => e = .returned (.func (.func 69) #[] #[.pointer (some ⟨w.heap.size, 0, none⟩)]) ∧ w' = w.alloc (.cells #[.string p] 9) := by
  go_enter Try.func61, Try.ntmps61
  go_wp2
  go_ret
  exact ⟨rfl, rfl⟩

theorem pathOk_no {l : List UInt8} (h : ∀ q, l = 47 :: q → ¬ q.length < 200) : pathOk l = false := by
  unfold pathOk
  split
  · rename_i q
    simp [h q rfl]
  · rfl

/-- Where the function leaves ahead of the loop. -/
theorem leave0 {R : Ending → World → Prop} {fn : Func} {a : Act} {w : World} (hd : a.defers = []) {v : Value} (hr : (results fn a.tmps).run Try.prog w = .ok v w) (h : R (.returned v) w) : bodyPostM Fence.wide 5 Try.prog fn R .ret a w := by
  show LeavesInM _ _ _ _ _ _ _ _ _
  rw [hd]
  exact ⟨v, hr, h⟩

/-- What lies between two rounds. -/
structure I0 (w0 : World) (p : ByteArray) (W : World) : Prop where
  ca : W.cell? ⟨w0.heap.size, 0, none⟩ = some (.bool false)
  fa : W.frozen? ⟨w0.heap.size, 0, none⟩ = false
  cb : W.cell? ⟨w0.heap.size + 1, 0, none⟩ = some (.string p)
  fb : W.frozen? ⟨w0.heap.size + 1, 0, none⟩ = false
  bl : Below w0.heap.size w0 W

theorem I0.own {w0 : World} {p : ByteArray} {W W' : World} {row : Option Nat} (h : I0 w0 p W) (hg : W.grownBy W' row) (hr : ∀ r, row = some r → w0.heap.size ≤ r ∧ ∃ o : Obj, W.heap[r]? = some o ∧ o.isCells = false) : I0 w0 p W' :=
  ⟨cell_kept h.ca hg (fun r e => (hr r e).2), (frozen_kept h.ca hg (fun r e => (hr r e).2)).trans h.fa, cell_kept h.cb hg (fun r e => (hr r e).2), (frozen_kept h.cb hg (fun r e => (hr r e).2)).trans h.fb, h.bl.grown hg h.bl.size (fun k e => (hr k e).1)⟩

theorem I0.put {w0 : World} {p : ByteArray} {W : World} {k : Nat} {o : Obj} (o' : Obj) (h : I0 w0 p W) (hk : w0.heap.size ≤ k) (ho : W.heap[k]? = some o) (hc : o.isCells = false) : I0 w0 p (W.putObj k o') :=
  h.own (grownBy_putObj' W k o') (fun r e => by cases e; exact ⟨hk, o, ho, hc⟩)

theorem I0.alloc {w0 : World} {p : ByteArray} {W : World} (o : Obj) (h : I0 w0 p W) : I0 w0 p (W.alloc o) :=
  h.own (World.grownBy_alloc W o none) (fun r e => by cases e)

theorem I0.drew {w0 : World} {p : ByteArray} {W : World} (k : Nat) (h : I0 w0 p W) : I0 w0 p (W.drewN k) :=
  ⟨h.ca, h.fa, h.cb, h.fb, below_drewN h.bl k⟩

theorem I0.set {w0 : World} {p : ByteArray} {W : World} (p' : ByteArray) (h : I0 w0 p W) : I0 w0 p' (W.setCell ⟨w0.heap.size + 1, 0, none⟩ (.string p')) := by
  refine ⟨?_, ?_, ?_, ?_, h.bl.setCell (by simp) _⟩
  · exact (setOther _ (by show _ ≠ _; simp)).trans h.ca
  · rw [World.frozen?_setCell]; exact h.fa
  · exact World.cell?_setCell_same' _ _ _ (by rw [h.cb]; rfl)
  · rw [World.frozen?_setCell]; exact h.fb

/-- A round's body, where it goes on and where it leaves. -/
def bodyEnd (w0 : World) (p x : ByteArray) (W : World) : Exit → Act → World → Prop
  | .normal, _, W' => Hid (partOk x.data.toList = true) ∧ KeepsOthers W W' ∧ I0 w0 p W'
  | .ret, _, W' => Hid (partOk x.data.toList = false) ∧ KeepsOthers W W' ∧ I0 w0 p W'
  | _, _, _ => False

/-- The loop, at whatever assignments and body. -/
theorem loop0 {n : Nat} (hn : 3 ≤ n) {t : Tmp} {g : Operand} {assign body : Code} {Q : Exit → Act → World → Prop} {a : Act} {w0 w : World} (hw : w0.heap.size + 2 ≤ w.heap.size)
    (hg : a.eval g = .func (.func 69) #[] #[.pointer (some ⟨w0.heap.size + 1, 0, none⟩)]) (p0 : ByteArray) (q0 : List UInt8) (hp0 : Hid (p0.data.toList = 47 :: q0)) (hsz : p0.size ≤ 200)
    (hI : I0 w0 p0 w) (a₁ : ByteArray → Act)
    (hassign : ∀ (l : Nat) (x : ByteArray) (W : World) (K : Act → World → Prop), K (a₁ x) W →
      assign.wpIn (Fence.wide.inRound l) (n - 1 - 1) Try.prog (Exit.then K (fun _ _ _ => False)) { tmps := ((#[t] : Array Tmp).zip #[Value.string x]).foldl (fun t (p, v) => t.setIfInBounds p v) a.tmps, defers := [] } W)
    (hbody : ∀ (l : Nat) (p x : ByteArray) (W : World), I0 w0 p W → body.wpIn (Fence.wide.inRound l) (n - 1 - 1) Try.prog (bodyEnd w0 p x W) (a₁ x) W)
    (hdone : ∀ (D : Nat) (p : ByteArray) (W : World), w0.heap.size ≤ D → Hid (restOk q0 = true) → I0 w0 p W → W.heap[D]? = some (.deferred (some [])) → Q .normal { a with defers := { target := .collected D, args := #[] } :: a.defers } W)
    (hstop : ∀ (D : Nat) (p : ByteArray) (W : World), w0.heap.size ≤ D → Hid (restOk q0 = false) → I0 w0 p W → W.heap[D]? = some (.deferred (some [])) → Code.ret.wpIn Fence.wide n Try.prog Q { a with defers := { target := .collected D, args := #[] } :: a.defers } W) :
    (Code.rangeFunc g #[t] assign body).wpIn Fence.wide n Try.prog Q a w := by
  refine wpIn_rangeFunc ?_
  intro fn hfn
  obtain ⟨rec, hrec⟩ : ∃ rec : LoopState → Option Code → Loop, rec = fun st pe => { state := st, pending := pe, fn, tmps := a.tmps, params := #[t], assign, body, defers := w.heap.size } := ⟨_, rfl⟩
  obtain ⟨W1, hW1⟩ : ∃ W1, (w.alloc (.deferred (some []))).alloc (.loop (rec .ready none)) = W1 := ⟨_, rfl⟩
  have hL1 : W1.heap[w.heap.size + 1]? = some (.loop (rec .ready none)) := by
    rw [← hW1]; have := World.alloc_heap_new (w.alloc (.deferred (some []))) (.loop (rec .ready none)); rwa [World.size_alloc] at this
  have hK1 : W1.heap[w.heap.size]? = some (.deferred (some [])) := by
    rw [← hW1]; exact (Below.heap_alloc _ _ _ (by simp)).trans (World.alloc_heap_new w _)
  have hI1 : I0 w0 p0 W1 := by rw [← hW1]; exact (hI.alloc _).alloc _
  have eg : ∀ args w, (callFunc 69 args).run Try.prog w = .ok (.enter 69 args) w := enters_of Try.func69 (by kernel_rfl) rfl
  refine ⟨w.heap.size + 1, [{ target := .collected w.heap.size, args := #[] }], W1, { target := .fn (.func 69) #[.pointer (some ⟨w0.heap.size + 1, 0, none⟩)], args := #[.func (.yield (w.heap.size + 1)) #[] #[]] }, W1, 69,
    #[.func (.yield (w.heap.size + 1)) #[] #[]] ++ #[.pointer (some ⟨w0.heap.size + 1, 0, none⟩)], W1, ?_, ?_, ?_, ?_, fun h => (by cases h), ?_⟩
  · rw [← hW1, hrec]; exact run_enterLoop_outer _ _ _ _ _
  · simp only [resolve, hg]
    simp [go_sem]
  · intro f' hf'; trivial
  · simp [invoke, go_sem, eg]
  · refine (iter1 (n - 1) (by omega) (w.heap.size + 1) (w0.heap.size + 1)
      (fun p W => I0 w0 p W ∧ W.heap[w.heap.size + 1]? = some (.loop (rec .ready none)) ∧ W.heap[w.heap.size]? = some (.deferred (some [])))
      (fun p W => I0 w0 p W ∧ W.heap[w.heap.size + 1]? = some (.loop (rec .done (some .ret))) ∧ W.heap[w.heap.size]? = some (.deferred (some [])))
      (fun p W h => ⟨h.1.cb, h.1.fb⟩) (fun p W h => h.1.cb) (fun p W k h => ⟨h.1.drew k, h.2.1, h.2.2⟩)
      (fun p p' W h => ⟨h.1.set p', (Below.heap_setCell _ _ _ _ (by show _ ≠ w0.heap.size + 1; omega)).trans h.2.1, (Below.heap_setCell _ _ _ _ (by show _ ≠ w0.heap.size + 1; omega)).trans h.2.2⟩)
      ?_ p0 q0 hp0 hsz W1 ⟨hI1, hL1, hK1⟩).mono ?_
    · -- one round
      rintro p x W ⟨hi, hl, hk⟩
      have hlt : w.heap.size + 1 < W.heap.size := (Array.getElem?_eq_some_iff.1 hl).1
      have hy := run_yield (P := Try.prog) (args := #[.string x]) hl (by rw [hrec]; rfl)
      rw [hrec] at hy
      refine ⟨fn, _, assign, body, hy, roundIn_of_wpIn hfn (hassign _ x W _ ⟨_, run_beginRound hl (by rw [hrec]), ?_⟩)⟩
      have hl2 : (W.putObj (w.heap.size + 1) (.loop { rec .ready none with state := .busy })).heap[w.heap.size + 1]? = some (.loop { rec .ready none with state := .busy }) := World.putObj_heap_same hlt
      have hk2 : (W.putObj (w.heap.size + 1) (.loop { rec .ready none with state := .busy })).heap[w.heap.size]? = some (.deferred (some [])) := (World.putObj_heap_other (by omega)).trans hk
      refine wpIn_mono (hbody _ p x _ (hi.put _ (by omega) hl rfl)) ?_
      have fin : ∀ (jump : Option Code) (W3 : World), KeepsOthers (W.putObj (w.heap.size + 1) (.loop { rec .ready none with state := .busy })) W3 →
          (Instr.endRound (w.heap.size + 1) jump).run Try.prog W3 = .ok (.bool jump.isNone) (W3.putObj (w.heap.size + 1) (.loop (rec (if jump.isNone then .ready else .done) jump))) ∧
          W3.heap[w.heap.size + 1]? = some (.loop { rec .ready none with state := .busy }) ∧
          (W3.putObj (w.heap.size + 1) (.loop (rec (if jump.isNone then .ready else .done) jump))).heap[w.heap.size + 1]? = some (.loop (rec (if jump.isNone then .ready else .done) jump)) ∧
          (W3.putObj (w.heap.size + 1) (.loop (rec (if jump.isNone then .ready else .done) jump))).heap[w.heap.size]? = some (.deferred (some [])) := fun jump W3 hk3 => by
        have hl3 := hk3.same _ _ hl2 rfl
        have := run_endRound (P := Try.prog) jump hl3
        rw [hrec] at this ⊢
        exact ⟨this, by rw [hrec] at hl3; exact hl3, World.putObj_heap_same (Array.getElem?_eq_some_iff.1 hl3).1, (World.putObj_heap_other (by omega)).trans (hk3.same _ _ hk2 rfl)⟩
      rintro e a3 W3 hp
      cases e with
      | normal =>
        obtain ⟨ho, hk3, hi3⟩ := hp
        obtain ⟨hr, hl3, hl4, hk4⟩ := fin none W3 hk3
        exact ⟨_, _, hr, .inl ⟨ho, rfl, hi3.put _ (by omega) hl3 rfl, hl4, hk4⟩⟩
      | ret =>
        obtain ⟨ho, hk3, hi3⟩ := hp
        obtain ⟨hr, hl3, hl4, hk4⟩ := fin (some .ret) W3 hk3
        exact ⟨_, _, hr, .inr ⟨ho, rfl, hi3.put _ (by omega) hl3 rfl, hl4, hk4⟩⟩
      | exit id => exact hp.elim
      | goto t => exact hp.elim
      | panic ch => exact hp.elim
      | outgrown => exact hp.elim
    · -- behind the iterator
      rintro e W2 ⟨⟨v, rfl⟩, (⟨hS, p, hi, hl, hk⟩ | ⟨hS, p, hi, hl, hk⟩)⟩
      · exact ⟨none, _, by have := run_endLoop (P := Try.prog) hl (by rw [hrec]; simp); rw [hrec] at this; exact this, hdone _ p _ (by omega) hS (hi.put _ (by omega) hl rfl) ((World.putObj_heap_other (by omega)).trans hk)⟩
      · exact ⟨some .ret, _, by have := run_endLoop (P := Try.prog) hl (by rw [hrec]; simp); rw [hrec] at this; exact this, hstop _ p _ (by omega) hS (hi.put _ (by omega) hl rfl) ((World.putObj_heap_other (by omega)).trans hk)⟩

set_option maxRecDepth 100000 in
set_option maxHeartbeats 4000000 in
theorem check0 (p : ByteArray) (w : World) :
    CallsIn Fence.wide 5 Try.prog 48 #[.string p] w fun e w' => e = .returned (.bool (pathOk p.data.toList)) ∧ Below w.heap.size w w' := by
  have hb1 : Below w.heap.size w (w.alloc (.cells #[.bool false] 4)) := (Below.refl _ w).alloc (Nat.le_refl _) _
  have hcA := (cellNew w (.bool false) 4).1
  have hfA := (cellNew w (.bool false) 4).2
  by_cases hbad : ∀ q, p.data.toList = 47 :: q → ¬ q.length < 200
  · have hno : Hid (pathOk p.data.toList = false) := pathOk_no hbad
    have hbad' : Hid (∀ q, p.data.toList = 47 :: q → ¬ q.length < 200) := hbad
    clear hbad
    refine callsIn_of_wp_marks Try.func48 rfl trivial ?_ rfl
    simp only [Try.ntmps48, List.size_toArray, List.length_cons, List.length_nil, Nat.reduceAdd, Nat.reduceSub, Array.replicate_succ, Array.replicate_zero, List.push_toArray, List.append_toArray, List.nil_append, List.cons_append]
    gi_wp2
    · refine leave0 rfl (v := .bool false) ?_ ⟨by rw [hno.out], hb1⟩
      simp [results, Try.f48, go_sem, hcA]
    · refine leave0 rfl (v := .bool false) ?_ ⟨by rw [hno.out], hb1⟩
      simp [results, Try.f48, go_sem, hcA]
    · exfalso
      rename_i g1 g2 g3 g4 _ _ _ _ _ _
      obtain ⟨q, h1, h2⟩ := head_of p g2 g3
      exact hbad'.out q h1 (by have := g4.2; omega)
    · refine leave0 rfl (v := .bool false) ?_ ⟨by rw [hno.out], hb1⟩
      simp [results, Try.f48, go_sem, hcA]
    · exfalso
      rename_i g1 _ _ g3
      exact g3 (size_pos_of p g1)
  · obtain ⟨q, hq⟩ := Classical.not_forall.1 hbad
    obtain ⟨hp, hlen⟩ := Classical.not_imp.1 hq
    have hlen' : q.length < 200 := Classical.not_not.1 hlen
    have hsz : p.size = q.length + 1 := by rw [size_list, hp]; rfl
    have hpos : 0 < p.size := by omega
    have hhd := not_head p q hp hpos
    have hp' : Hid (p.data.toList = 47 :: q) := hp
    have hsz' : Hid (p.size = q.length + 1) := hsz
    have hle : (p.size : Int) ≤ 200 := by omega
    have hee : p.toList.isEmpty = false := by rw [ByteArray.toList_eq, hp]; rfl
    have hok : Hid (pathOk p.data.toList = restOk q) := by
      show _ = _
      rw [hp]; unfold pathOk; simp [hlen']
    clear hbad hq hlen hlen' hp hsz
    refine callsIn_of_wp_marks Try.func48 rfl trivial ?_ rfl
    simp only [Try.ntmps48, List.size_toArray, List.length_cons, List.length_nil, Nat.reduceAdd, Nat.reduceSub, Array.replicate_succ, Array.replicate_zero, List.push_toArray, List.append_toArray, List.nil_append, List.cons_append]
    gi_wp2
    refine ⟨trivial, (callsIn_wide.2 (parts1 _ _)).mono ?_⟩
    rintro e w' ⟨rfl, rfl⟩
    gi_wp2
    have hI : I0 w p ((w.alloc (.cells #[.bool false] 4)).alloc (.cells #[.string p] 9)) := by
      have h := cellNew (w.alloc (.cells #[.bool false] 4)) (.string p) 9
      rw [World.size_alloc] at h
      exact ⟨cellAlloc _ hcA, frozenAlloc _ hcA hfA, h.1, h.2, hb1.alloc (by simp) _⟩
    refine loop0 (by omega) (w0 := w) (by simp) rfl p q hp' (by omega) hI
      (fun x => { tmps := #[.string p, undef, .pointer (some ⟨w.heap.size, 0, none⟩), .string x, .string p, .bool false, .bool false, .string p, .int .u8 47, .bool false, .bool false, .bool false, .string p, .int .i64 p.size, .bool (decide (200 < (p.size : Int))), .bool (decide (200 < (p.size : Int))), .string p, .func (.func 69) #[] #[.pointer (some ⟨w.heap.size + 1, 0, none⟩)], .string x, undef, undef, undef], defers := [] }) ?assign ?body ?done ?stop
    case assign =>
      intro l x W K hK
      gi_wp2
      exact hK
    case body =>
      intro l p1 x W h1
      have hca := h1.ca
      have hfa := h1.fa
      gi_wp2
      refine ⟨trivial, (CallsIn.inRound l (callsIn_wide.2 (part1 x W))).mono ?_⟩
      rintro e W2 ⟨rfl, pos, rfl⟩
      have hi2 : I0 w p1 (W.iter x pos) := h1.alloc _
      have hk2 : KeepsOthers W (W.iter x pos) := KeepsOthers.alloc W _
      have hca2 := hi2.ca
      have hfa2 := hi2.fa
      cases hx : partOk x.data.toList with
      | true =>
        have hx' : Hid (partOk x.data.toList = true) := hx
        clear hx
        gi_wp2
        exact ⟨hx', hk2, hi2⟩
      | false =>
        have hx' : Hid (partOk x.data.toList = false) := hx
        clear hx
        gi_wp2
        refine ⟨hx', hk2.trans (KeepsOthers.setCell _ _ _), ?_, ?_, ?_, ?_, ?_⟩
        · exact World.cell?_setCell_same' _ _ _ (by rw [hca2]; rfl)
        · rw [World.frozen?_setCell]; exact hfa2
        · exact (setOther _ (by show _ ≠ _; simp)).trans hi2.cb
        · rw [World.frozen?_setCell]; exact hi2.fb
        · exact hi2.bl.setCell (p := ⟨w.heap.size, 0, none⟩) (Nat.le_refl _) _
    case done =>
      intro D p1 W hD hr h1 hK
      have hca := h1.ca
      have hfa := h1.fa
      gi_wp2
      have hK' := (KeepsOthers.setCell W ⟨w.heap.size, 0, none⟩ (.bool true)).same D _ hK rfl
      refine ⟨by simp, .inl ⟨_, _, rfl, run_takeDeferred hK', ?_⟩⟩
      have hc5 := cell_kept (World.cell?_setCell_same' W ⟨w.heap.size, 0, none⟩ (.bool true) (by rw [hca]; rfl)) (grownBy_putObj' _ D (.deferred none)) (fun r e => by cases e; exact ⟨_, hK', rfl⟩)
      refine ⟨.bool true, ?_, by rw [hok.out, hr.out], (h1.bl.setCell (p := ⟨w.heap.size, 0, none⟩) (Nat.le_refl _) _).trans (belowK_b (w := w) (Nat.le_refl _) _ D _ _ hD hK' rfl rfl)⟩
      simp [results, Try.f48, go_sem, hc5]
    case stop =>
      intro D p1 W hD hr h1 hK
      gi_wp2
      refine ⟨by simp, .inl ⟨_, _, rfl, run_takeDeferred hK, ?_⟩⟩
      have hc5 := cell_kept h1.ca (grownBy_putObj' _ D (.deferred none)) (fun r e => by cases e; exact ⟨_, hK, rfl⟩)
      refine ⟨.bool false, ?_, by rw [hok.out, hr.out], h1.bl.trans (belowK_b (w := w) (Nat.le_refl _) W D _ _ hD hK rfl rfl)⟩
      simp [results, Try.f48, go_sem, hc5]

/-- path.Check, at every text. -/
theorem check1 (p : ByteArray) (w : World) : Calls Try.prog 48 #[.string p] w fun e w' => e = .returned (.bool (pathOk p.data.toList)) ∧ Below w.heap.size w w' := callsIn_wide.1 (check0 p w)

#print axioms check1
end Go.Proofs.Ytpingnkjenicaaa

namespace Go.Proofs.Ytpingnkjenicaaa
open Go.Sx Go.RowKit Go.Shelf

def ctPath : CT := fun args h K => match args with
  | [.v (.string s)] => K (.v (.bool (pathOk s.data.toList))) h
  | [.str l] => K (.v (.bool (pathOk l))) h
  | _ => false

def ctIdx : CT := fun args h K => match args with
  | [.v (.string s), .v (.int .u8 c)] => K (.v (.int .i64 (Lib.indexByte s.data.toList c.toNat.toUInt8))) h
  | [.str l, .v (.int .u8 c)] => K (.v (.int .i64 (Lib.indexByte l c.toNat.toUInt8))) h
  | _ => false

/-- The functions whose contracts are laid down. -/
def C0 : FuncId → Option CT := fun f => bif Nat.beq f 48 then some ctPath else bif Nat.beq f 101 then some ctIdx else none

theorem C0_sound : CTSound Try.prog C0 := by
  intro f ct h args h0 K hk ρ w H hargs
  unfold C0 at h
  cases h1 : Nat.beq f 48 with
  | true =>
    rw [h1] at h
    have := Nat.eq_of_beq_eq_true h1
    subst this
    simp only [cond_true, Option.some.injEq] at h
    subst h
    unfold ctPath at hk
    split at hk
    · rename_i s
      exact goes_of_below Try.func48 (by kernel_rfl) rfl (check1 s w) H hk rfl trivial
    · rename_i l
      exact goes_of_below Try.func48 (by kernel_rfl) rfl (check1 ⟨l.toArray⟩ w) H hk rfl trivial
    · exact absurd hk Bool.false_ne_true
  | false =>
    rw [h1] at h
    simp only [cond_false] at h
    cases h2 : Nat.beq f 101 with
    | true =>
      rw [h2] at h
      have := Nat.eq_of_beq_eq_true h2
      subst this
      simp only [cond_true, Option.some.injEq] at h
      subst h
      have key : ∀ (s : ByteArray) (c : Int), (callFunc 101 #[.string s, .int .u8 c]).run Try.prog w = .ok (.value (.int .i64 (Lib.indexByte s.data.toList c.toNat.toUInt8))) w := fun s c => by
        rw [run_callFunc_extern Try.func101 (by kernel_rfl) (by kernel_rfl) (by kernel_rfl) (e := Extern.BytealgIndexByte.indexByte) (by kernel_rfl), Lib.run_indexByteString]
        rfl
      unfold ctIdx at hk
      split at hk
      · rename_i s c
        exact goes_of_entry (key s c) H hk rfl trivial
      · rename_i l c
        exact goes_of_entry (key ⟨l.toArray⟩ c) H hk rfl trivial
      · exact absurd hk Bool.false_ne_true
    | false => rw [h2] at h; cases h

end Go.Proofs.Ytpingnkjenicaaa

namespace Go.Proofs.Ytpingnkjenicaaa
open Go.Sx Go.RowKit
noncomputable section
open Classical

/-- A closed run that gives true changes nothing that lay. -/
theorem fok_closed {P : Program} (hm : P.follows .mixedOrders = true) {C : FuncId → Option CT} (hC : CTSound P C) {Λ : LTab} (hΛ : LTSound P Λ) {n : Nat} {f : FuncId} (hk : ∀ w : World, sxTop P C Λ n f [] ⟨.e, 0, memOf w⟩ (fun r _ => isT r) = true) :
    FOk P f ⟨Unit, fun _ vs _ => vs = [], fun _ _ A v A' => A' = A ∧ v = .bool true⟩ := by
  intro _ vs A w hA hvs
  simp only at hvs
  subst hvs
  have R : HRel (fun _ => ⟨0, 0, 0⟩) ⟨.e, 0, memOf w⟩ w := by
    refine ⟨rfl, rfl, rfl, fun k o hk => hk, fun b B hb => ?_, fun b b' B B' hb => ?_, fun b B hb => ?_, fun k o hk => (by cases hk), fun b B hb => ?_, fun k o hk => (by cases hk)⟩ <;> (rw [T.get_e] at hb; cases hb)
  refine (sxTop_sound hm hC hΛ n f [] _ _ (hk w) _ w R (fun x hx => by cases hx)).mono (fun v w' ⟨z, h', ρ', hz, hv, hl, R', _, _, hle⟩ => ?_) fun _ _ h => h
  have old : ∀ k o, w.heap[k]? = some o → w'.heap[k]? = some o := fun k o hk => R'.mem k o (hle.1 k o hk)
  refine ⟨A, ⟨rfl, ?_⟩, R'.os.trans hle.2.1, R'.out.trans hle.2.2.1, R'.tape.trans hle.2.2.2, fun k hk hlt => ?_, fun k o hk => old k o (hA k o hk), fun k o ho => .inl ⟨o, ho⟩⟩
  · rw [hv]
    cases z with
    | v x => cases x with
      | bool b => simp only [isT] at hz; subst hz; rfl
      | _ => simp [isT] at hz
    | _ => simp [isT] at hz
  · have h0 : w.heap[k]? = some w.heap[k] := Array.getElem?_eq_getElem hlt
    rw [old k _ h0, h0]

theorem awake_run (w : World) : sxTop Try.prog C0 noL 400 7 [] ⟨.e, 0, memOf w⟩ (fun r _ => isT r) = true := by kernel_rfl

end
end Go.Proofs.Ytpingnkjenicaaa

namespace Go.Proofs.Ytpingnkjenicaaa
open Go.Sx Go.RowKit
noncomputable section
open Classical

structure DoD where
  op : Int
  ask : AskD
  turn : Int
  xid : Int

def DoR (B : Arena) (d : DoD) (r : List Value) : Prop := ∃ cs, r = .int .i64 d.op :: (cs ++ [.int .i64 d.turn, .int .i64 d.xid]) ∧ AskR B d.ask cs

def DosR (B : Arena) (ds : List DoD) (rows : List (List Value)) : Prop := rows.length = ds.length ∧ ∀ k (h1 : k < ds.length) (h2 : k < rows.length), DoR B ds[k] rows[k]

theorem DoR.len {B : Arena} {d : DoD} {r : List Value} (h : DoR B d r) : r.length = 18 := by
  obtain ⟨cs, rfl, h⟩ := h
  have := h.len
  simp; omega

def DosS (B : Arena) (v : Value) (ds : List DoD) : Prop := ∃ rows, Sl B 18 ds.length v rows.flatten ∧ ds.length * 192 ≤ 140737488351232 ∧ DosR B ds rows

theorem dos_at {A : Arena} {ds : List DoD} {rows : List (List Value)} (hR : DosR A ds rows) {g o n : Nat} (hra : A.rd g o (n * 18) = some rows.flatten) (hn : n = ds.length) {k : Nat} (hk : k < ds.length) :
    ∃ op tn xn cs d, AskR A d cs ∧ A.rd g (o + k * 18 + 0) 1 = some [.int .i64 op] ∧ A.rd g (o + k * 18 + 1) 15 = some cs ∧ A.rd g (o + k * 18 + 16) 1 = some [.int .i64 tn] ∧ A.rd g (o + k * 18 + 17) 1 = some [.int .i64 xn] := by
  obtain ⟨h1, h2⟩ := hR
  have hlens : ∀ r ∈ rows, r.length = 18 := fun r hr => by
    obtain ⟨i, hi, rfl⟩ := List.mem_iff_getElem.1 hr
    exact (h2 i (by omega) hi).len
  have hrd := rows_at hra hlens k (by omega) (by omega)
  obtain ⟨cs, he, hc⟩ := h2 k hk (by omega)
  have h15 := hc.len
  rw [he] at hrd
  refine ⟨ds[k].op, ds[k].turn, ds[k].xid, cs, ds[k].ask, hc, ?_, ?_, ?_, ?_⟩
  · rw [rd_at (i := 0) (m := 1) hrd (by omega)]; rfl
  · rw [rd_at (i := 1) (m := 15) hrd (by omega), List.drop_succ_cons, List.drop_zero, List.take_left' h15]
  · rw [rd_at (i := 16) (m := 1) hrd (by omega), List.drop_succ_cons, List.drop_left' h15]; rfl
  · rw [rd_at (i := 17) (m := 1) hrd (by omega), List.drop_succ_cons, List.drop_append, List.drop_eq_nil_of_le (by omega), h15]; rfl

def pickS : FSpec := ⟨Int, fun x vs _ => vs = [.int .i64 x, .int .i64 4], fun _ _ A v A' => A' = A ∧ ∃ k, v = .int .i64 k⟩

set_option maxRecDepth 100000 in
set_option maxHeartbeats 0 in
theorem pick_ok : FOk Try.prog 8 pickS := by
  refine fok_v mixed fun x vs A hp => ?_
  simp only [pickS] at hp
  subst hp
  refine ⟨noC, noL, 60, noC_sound _, noL_sound _, fun blk os out tape D hD => ?_⟩
  conv => lhs; whnf
  refine split_dec (fun _ => ?_) (fun _ => ?_) <;> (conv => lhs; whnf)
  all_goals exact (hD _).2 ⟨rfl, _, rfl⟩

def greatS : FSpec := ⟨AskD, fun d vs A => ∃ cs, vs = [askV cs] ∧ AskR A d cs, fun _ _ A v A' => A' = A ∧ ∃ b, v = .bool b⟩

set_option maxRecDepth 100000 in
set_option maxHeartbeats 0 in
theorem great_ok : FOk Try.prog 6 greatS := by
  refine fok_v mixed fun d vs A hp => ?_
  simp only [greatS] at hp
  obtain ⟨cs, rfl, hR⟩ := hp
  obtain ⟨p0, p1, p2, p3, p4, q5, u5, n5, p6, p7, p8, p9, p10, p11, p12, q13, u13, n13, q14, u14, n14, rfl⟩ := hR.form
  refine ⟨noC, noL, 60, noC_sound _, noL_sound _, fun blk os out tape D hD => ?_⟩
  conv => lhs; whnf
  repeat' (first
    | exact (hD _).2 ⟨rfl, _, rfl⟩
    | (refine split_dec (fun _ => ?_) (fun _ => ?_) <;> (conv => lhs; whnf)))

end
end Go.Proofs.Ytpingnkjenicaaa

namespace Go.Proofs.Ytpingnkjenicaaa
open Go.Sx Go.RowKit
noncomputable section
open Classical

theorem qr_sub {B A : Arena} {g : Nat} {ds : List AskD} (h : QR B A g ds) : B.Sub A := by
  obtain ⟨_, _, h⟩ := h
  exact h.sub

theorem qr_le {B A : Arena} {g : Nat} {ds : List AskD} (h : QR B A g ds) : ds.length ≤ 8 := by
  obtain ⟨_, _, h⟩ := h
  exact h.hi

theorem qr_off {B A : Arena} {g : Nat} {ds : List AskD} (h : QR B A g ds) : B.blk g = none := by
  obtain ⟨_, _, h⟩ := h
  exact h.off

theorem qr_live {B A : Arena} {g : Nat} {ds : List AskD} (h : QR B A g ds) : ∃ o, A.blk g = some o := by
  obtain ⟨_, _, h⟩ := h
  obtain ⟨c, t, fz, h1, _⟩ := h.raw.at_
  exact ⟨_, h1⟩

theorem rq_sub {A B : Arena} {O : Nat → Prop} {r : Nat} {ds : List AskD} (h : RqAt A B O r ds) : B.Sub A := by
  obtain ⟨_, _, _, h⟩ := h
  exact h.sub

theorem rq_off {A B : Arena} {O : Nat → Prop} {r : Nat} {ds : List AskD} (h : RqAt A B O r ds) : ∀ k, O k → B.blk k = none := by
  obtain ⟨_, _, _, h⟩ := h
  exact h.off

theorem rq_live {A B : Arena} {O : Nat → Prop} {r : Nat} {ds : List AskD} (h : RqAt A B O r ds) : ∀ k, O k → ∃ o, A.blk k = some o := by
  obtain ⟨_, _, _, h⟩ := h
  exact h.live

/-- The program's queue and the document's. -/
structure LvAt (A0 A B1 : Arena) (g : Nat) (B2 : Arena) (O : Nat → Prop) (r : Nat) (ds1 ds2 : List AskD) : Prop where
  sub : A0.Sub A
  q : QR B1 A g ds1
  rq : RqAt A B2 O r ds2
  o0 : ∀ k, O k → A0.blk k = none
  o1 : ∀ k, O k → B1.blk k = none
  og : ∀ k, O k → k ≠ g
  g0 : A0.blk g = none
  g2 : B2.blk g = none

theorem LvAt.more {A0 A A' B1 B2 : Arena} {g r : Nat} {O : Nat → Prop} {ds1 ds2 : List AskD} (h : LvAt A0 A B1 g B2 O r ds1 ds2) (hs : A.Sub A') : LvAt A0 A' B1 g B2 O r ds1 ds2 :=
  ⟨h.sub.trans hs, h.q.up ((qr_sub h.q).trans hs) (fun _ ho => hs _ _ ho), h.rq.more hs, h.o0, h.o1, h.og, h.g0, h.g2⟩

/-- The program's queue changes. -/
theorem LvAt.qstep {A0 A A' B1 B1' B2 : Arena} {g r : Nat} {O : Nat → Prop} {ds1 ds2 ds1' : List AskD} (h : LvAt A0 A B1 g B2 O r ds1 ds2) (s : (Arena.but A g).Sub A') (hQ : QR B1' A' g ds1') (hB : ∀ k o, A.blk k = some o → B1.blk k = none → B1'.blk k = none) : LvAt A0 A' B1' g B2 O r ds1' ds2 := by
  refine ⟨(but_sub h.sub h.g0).trans s, hQ, h.rq.frame (fun k hk => ?_) ((but_sub (rq_sub h.rq) h.g2).trans s), h.o0, fun k hk => ?_, h.og, h.g0, h.g2⟩
  · obtain ⟨o, ho⟩ := rq_live h.rq k hk
    rw [ho]
    exact s _ _ (but_mk ho (h.og k hk))
  · obtain ⟨o, ho⟩ := rq_live h.rq k hk
    exact hB k o ho (h.o1 k hk)

/-- The document's queue changes. -/
theorem LvAt.rstep {A0 A A' B1 B2 B2' : Arena} {g r : Nat} {O O' : Nat → Prop} {ds1 ds2 ds2' : List AskD} (h : LvAt A0 A B1 g B2 O r ds1 ds2) (hR : RqAt A' B2' O' r ds2') (s : Step A B2 O A' B2' O') : LvAt A0 A' B1 g B2' O' r ds1 ds2' := by
  obtain ⟨og, hog⟩ := qr_live h.q
  refine ⟨fun k o hk => s.keep k o (h.sub k o hk) fun hO => ?_, h.q.up (fun k o hk => s.keep k o (qr_sub h.q k o hk) fun hO => ?_) (fun o ho => s.keep g o ho fun hO => h.og g hO rfl), hR, fun k hk => ?_, fun k hk => ?_, fun k hk => ?_, h.g0, ?_⟩
  · rw [h.o0 k hO] at hk; cases hk
  · rw [h.o1 k hO] at hk; cases hk
  · rcases s.own k hk with h1 | h1
    · exact h.o0 k h1
    · cases h2 : A0.blk k with
      | none => rfl
      | some o => rw [h.sub k o h2] at h1; cases h1
  · rcases s.own k hk with h1 | h1
    · exact h.o1 k h1
    · cases h2 : B1.blk k with
      | none => rfl
      | some o => rw [qr_sub h.q k o h2] at h1; cases h1
  · rcases s.own k hk with h1 | h1
    · exact h.og k h1
    · intro e
      rw [e, hog] at h1; cases h1
  · cases h2 : B2'.blk g with
    | none => rfl
    | some o =>
      rcases s.new g o h2 with h1 | h1
      · rw [h.g2] at h1; cases h1
      · rw [hog] at h1; cases h1

/-- A call that is lent lies apart from both. -/
structure Guest (A0 A B1 : Arena) (g : Nat) (B2 : Arena) (O : Nat → Prop) (d : AskD) (cs : List Value) (L : List Nat) : Prop where
  lent : LentR A d cs L
  l0 : ∀ k ∈ L, A0.blk k = none
  l1 : ∀ k ∈ L, B1.blk k = none
  l2 : ∀ k ∈ L, B2.blk k = none
  lo : ∀ k ∈ L, ¬ O k
  lg : ∀ k ∈ L, k ≠ g

theorem Guest.new {A0 A A1 B1 B2 : Arena} {g r : Nat} {O : Nat → Prop} {ds1 ds2 : List AskD} {d : AskD} {cs : List Value} {L : List Nat} (h : LvAt A0 A B1 g B2 O r ds1 ds2) (hl : LentR A1 d cs L) (hn : ∀ k ∈ L, A.blk k = none) : Guest A0 A1 B1 g B2 O d cs L := by
  obtain ⟨og, hog⟩ := qr_live h.q
  have up : ∀ {X : Arena}, X.Sub A → ∀ k ∈ L, X.blk k = none := fun {X} hs k hk => by
    cases hX : X.blk k with
    | none => rfl
    | some o => have := hn k hk; rw [hs k o hX] at this; cases this
  refine ⟨hl, up h.sub, up (qr_sub h.q), up (rq_sub h.rq), fun k hk hO => ?_, fun k hk e => ?_⟩
  · obtain ⟨o, ho⟩ := rq_live h.rq k hO
    have := hn k hk
    rw [ho] at this; cases this
  · have := hn k hk
    rw [e, hog] at this; cases this

theorem Guest.qstep {A0 A A' B1 B1' B2 : Arena} {g : Nat} {O : Nat → Prop} {d : AskD} {cs : List Value} {L : List Nat} (h : Guest A0 A B1 g B2 O d cs L) (s : (Arena.but A g).Sub A') (hB : ∀ k o, A.blk k = some o → B1.blk k = none → B1'.blk k = none) : Guest A0 A' B1' g B2 O d cs L := by
  refine ⟨h.lent.keep fun k hk => ?_, h.l0, fun k hk => ?_, h.l2, h.lo, h.lg⟩
  · obtain ⟨o, ho⟩ := h.lent.live k hk
    rw [ho]
    exact s _ _ (but_mk ho (h.lg k hk))
  · obtain ⟨o, ho⟩ := h.lent.live k hk
    exact hB k o ho (h.l1 k hk)

theorem Guest.rstep {A0 A A' B1 B2 B2' : Arena} {g : Nat} {O O' : Nat → Prop} {d : AskD} {cs : List Value} {L : List Nat} (h : Guest A0 A B1 g B2 O d cs L) (s : Step A B2 O A' B2' O') : Guest A0 A' B1 g B2' O' d cs L := by
  refine ⟨h.lent.keep fun k hk => ?_, h.l0, h.l1, fun k hk => ?_, fun k hk hO => ?_, h.lg⟩
  · obtain ⟨o, ho⟩ := h.lent.live k hk
    rw [ho]
    exact s.keep k o ho (h.lo k hk)
  · obtain ⟨o1, ho⟩ := h.lent.live k hk
    cases h2 : B2'.blk k with
    | none => rfl
    | some o =>
      rcases s.new k o h2 with h1 | h1
      · rw [h.l2 k hk] at h1; cases h1
      · rw [ho] at h1; cases h1
  · obtain ⟨o1, ho⟩ := h.lent.live k hk
    rcases s.own k hO with h1 | h1
    · exact h.lo k hk h1
    · rw [ho] at h1; cases h1

/-- It is written over: both queues stay. -/
theorem LvAt.over {A0 A A' B1 B2 : Arena} {g r : Nat} {O : Nat → Prop} {ds1 ds2 : List AskD} {d : AskD} {cs : List Value} {L : List Nat} (h : LvAt A0 A B1 g B2 O r ds1 ds2) (k : Guest A0 A B1 g B2 O d cs L) (hO : OverP A A' L) : LvAt A0 A' B1 g B2 O r ds1 ds2 := by
  have up : ∀ {X : Arena}, X.Sub A → (∀ j ∈ L, X.blk j = none) → X.Sub A' := fun {X} hs hX j o hj => by
    rw [hO.other j fun hL => by rw [hX j hL] at hj; cases hj]
    exact hs j o hj
  refine ⟨up h.sub k.l0, h.q.up (up (qr_sub h.q) k.l1) (fun o ho => by rw [hO.other g fun hL => k.lg g hL rfl]; exact ho), h.rq.frame (fun j hj => hO.other j fun hL => k.lo j hL hj) (up (rq_sub h.rq) k.l2), h.o0, h.o1, h.og, h.g0, h.g2⟩

/-- A step of the law as it lies in a row. -/
theorem dos_row {A : Arena} {ds : List DoD} {rows : List (List Value)} (hR : DosR A ds rows) {g o n : Nat} (hra : A.rd g o (n * 18) = some rows.flatten) (hn : n = ds.length) {k : Nat} (hk : k < ds.length) :
    ∃ op tn xn cs d, AskR A d cs ∧ A.rd g (o + k * 18) 18 = some (.int .i64 op :: (cs ++ [.int .i64 tn, .int .i64 xn])) := by
  obtain ⟨h1, h2⟩ := hR
  have hlens : ∀ r ∈ rows, r.length = 18 := fun r hr => by
    obtain ⟨i, hi, rfl⟩ := List.mem_iff_getElem.1 hr
    exact (h2 i (by omega) hi).len
  have hrd := rows_at hra hlens k (by omega) (by omega)
  obtain ⟨cs, he, hc⟩ := h2 k hk (by omega)
  rw [he] at hrd
  exact ⟨_, _, _, cs, _, hc, hrd⟩

/-- No call, as plain data. -/
def zeroD : AskD := .mk 0 0 0 0 ⟨#[]⟩ [] 0 0 false 0 0 0 0 [] []

theorem zeroD_ok (A : Arena) : AskR A zeroD zeroC := by
  unfold zeroD
  rw [AskR]
  exact ⟨_, _, _, [], rfl, ⟨Sl.nil _ _, by simp⟩, ⟨Sl.nil _ _, by simp⟩, Sl.nil _ _, by simp, by rw [AsksR]⟩

end
end Go.Proofs.Ytpingnkjenicaaa
