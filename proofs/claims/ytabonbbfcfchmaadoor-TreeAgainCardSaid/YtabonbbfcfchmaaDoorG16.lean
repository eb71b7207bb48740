/-
  Contracts: deeds with rising zxids, those that are right then.
-/
import Derived.Test.YtabonbbfcfchmaaDoorG15
import Derived.Test.YtabonbbfcfchmaaDoorG11
namespace Go.Proofs.YtabonbbfcfchmaaDoor
open Go.Sx Go.RowKit
noncomputable section
open Classical

theorem DeedsR.snoc {B : Arena} : ∀ {ds : List DeedD} {rows : List (List Value)} {d : DeedD} {r : List Value}, DeedsR B ds rows → DeedR B d r → DeedsR B (ds ++ [d]) (rows ++ [r])
  | [], rows, d, r, h, hd => by
    obtain rfl : rows = [] := h
    exact ⟨r, [], rfl, hd, rfl⟩
  | x :: ds, rows, d, r, h, hd => by
    obtain ⟨r0, rs, rfl, h1, h2⟩ := h
    exact ⟨r0, rs ++ [r], rfl, h1, DeedsR.snoc h2 hd⟩

structure NuG where
  k : Nat
  A : Arena
  v : Value
  ns : List DeedD
  rows : List (List Value)

structure NumI (A0 : Arena) (ds : List DeedD) (s : NuG) : Prop where
  le : s.k ≤ ds.length
  sub : A0.Sub s.A
  row : GrowR A0 s.A 16 53 s.ns.length s.v s.rows.flatten
  are : DeedsR A0 s.ns s.rows
  len : s.ns.length ≤ 60
  parts : ∀ d ∈ s.ns, d.parts.length ≤ 60

def numInv (A0 : Arena) (ds : List DeedD) : LInv := { γ := NuG, G := NumI A0 ds, keepS := [0], keepB := [], sl := fun s => [(4, .v (.int .i64 s.k)), (3, .v s.v)], bl := fun _ => [], ar := fun s => s.A, mu := fun s => ds.length - s.k }

def numberedS : FSpec := ⟨List DeedD, fun g vs A => ∃ v, vs = [v] ∧ DeedsS A v g ∧ HasA A,
  fun _ _ A v A' => A.Sub A' ∧ ∃ ns rows, GrowR A A' 16 53 ns.length v (List.flatten rows) ∧ DeedsR A ns rows ∧ ns.length ≤ 60 ∧ ∀ d ∈ ns, d.parts.length ≤ 60⟩

set_option maxRecDepth 100000 in
set_option maxHeartbeats 0 in
theorem numbered_ok : FOk Tryd.prog 6 numberedS := by
  refine fok_v mixed fun (ds : List DeedD) vs A hp => ?_
  obtain ⟨v, rfl, ⟨rows, hS, hlen, hR⟩, hHas⟩ : ∃ v, vs = [v] ∧ DeedsS A v ds ∧ HasA A := hp
  obtain ⟨ao, c, rfl, hc, hl, ha1, ha2, ha3⟩ := hS
  have hC : CTSound Tryd.prog (lookC [specE 26 rightS, specE 27 greatS] noC) := lookC_sound (noC_sound _) (fun x hx => by
    simp only [List.mem_cons, List.not_mem_nil, or_false] at hx
    rcases hx with rfl | rfl
    · exact specE_ok right_ok
    · exact specE_ok great_ok)
  refine ⟨_, tabO Tryd.prog _ noL 60 [(6, 0)], 60, hC, tabO_sound mixed hC (noL_sound _) _ _, fun blk os out tape D hD => ?_⟩
  conv => lhs; whnf
  have hI0 : NumI A ds ⟨0, A, .slice none 0 0, [], []⟩ := ⟨Nat.zero_le _, Arena.Sub.refl _, GrowR.nil _ _ _ _, rfl, Nat.zero_le _, fun _ h => by cases h⟩
  refine (hD _).2 ⟨numInv A ds, ⟨(⟨0, A, .slice none 0 0, [], []⟩ : NuG), hI0, ⟨rfl, rfl, trivial⟩, trivial, rfl⟩, fun (s : NuG) hG => ⟨⟨trivial, trivial, trivial⟩, trivial, ?_⟩⟩
  obtain ⟨k, Ak, vk, ns, rs⟩ := s
  obtain ⟨hk, hAk, hrow, hare, h60, hparts⟩ : NumI A ds ⟨k, Ak, vk, ns, rs⟩ := hG
  dsimp only at hk hAk hrow hare h60 hparts
  have hend : numberedS.post ds [.slice ao ds.length c] A vk Ak := ⟨hAk, ns, rs, hrow, hare, h60, hparts⟩
  obtain ⟨base, c9, rfl, hbase, hP, hA⟩ := hrow.formN
  conv => lhs; whnf
  refine split_dec (fun hlt => ?_) (fun hlt => ?_) <;> (conv => lhs; whnf)
  rotate_left
  · exact (hD _).2 hend
  refine split_dec (fun hl60 => ?_) (fun hl60 => ?_) <;> (conv => lhs; whnf)
  rotate_left
  · exact (hD _).2 hend
  have hkl : k < ds.length := by
    have hlt : (k : Int) < (ds.length : Int) := hlt
    omega
  have hn60 : ns.length < 60 := by
    have hl60 : (ns.length : Int) < 60 := hl60
    omega
  obtain ⟨g0, o, rfl, hra⟩ := Sl.at_ hc ha1 ha2 ha3 (by omega)
  obtain ⟨cs, r1, hR1⟩ := deed_at hra hR k hkl rfl
  generalize ds[k] = d at hR1
  obtain ⟨⟨zxid, kind, ses, turn, xid, dtime, path, data, owner, ver, cver, tmo, err, cfg, mem⟩, parts⟩ := d
  rw [DeedR] at hR1
  dsimp only [DeedH.cells] at hR1
  obtain ⟨vd, vm, vp, rws, rfl, hpl, hd1, hM, hSp, hlen2, hRows⟩ := hR1
  obtain ⟨a7, k7, rfl⟩ := hd1.1.form
  obtain ⟨a14, k14, rfl⟩ := hM.1.form
  obtain ⟨a15, k15, rfl⟩ := hSp.form
  have i0 : (0 : Int) ≤ (k : Int) ∧ (k : Int) < (ds.length : Int) := by omega
  have r2 := rd_sub hAk r1
  repeat (first | refine go_in i0 ?_ | refine go_rd r2 ?_
          conv => lhs; whnf)
  have hgo : ∀ (z cf : Int), DeedR Ak (.mk ⟨z, kind, ses, turn, xid, dtime, path, data, owner, ver, cver, tmo, err, cf, mem⟩ parts) [.int .i64 z, .int .u8 kind, .int .i64 ses, .int .i64 turn, .int .i64 xid, .int .i64 dtime, .string path, .slice a7 data.length k7, .int .i64 owner, .int .i64 ver, .int .i64 cver, .int .i64 tmo, .int .i64 err, .int .i64 cf, .slice a14 mem.length k14, .slice a15 parts.length k15] ∧ DeedR A (.mk ⟨z, kind, ses, turn, xid, dtime, path, data, owner, ver, cver, tmo, err, cf, mem⟩ parts) [.int .i64 z, .int .u8 kind, .int .i64 ses, .int .i64 turn, .int .i64 xid, .int .i64 dtime, .string path, .slice a7 data.length k7, .int .i64 owner, .int .i64 ver, .int .i64 cver, .int .i64 tmo, .int .i64 err, .int .i64 cf, .slice a14 mem.length k14, .slice a15 parts.length k15] := fun z cf => by
    have h1 : DeedR A (.mk ⟨z, kind, ses, turn, xid, dtime, path, data, owner, ver, cver, tmo, err, cf, mem⟩ parts) [.int .i64 z, .int .u8 kind, .int .i64 ses, .int .i64 turn, .int .i64 xid, .int .i64 dtime, .string path, .slice a7 data.length k7, .int .i64 owner, .int .i64 ver, .int .i64 cver, .int .i64 tmo, .int .i64 err, .int .i64 cf, .slice a14 mem.length k14, .slice a15 parts.length k15] := by
      rw [DeedR]
      exact ⟨_, _, _, rws, rfl, hpl, hd1, hM, hSp, hlen2, hRows⟩
    exact ⟨DeedR.sub hAk _ _ h1, h1⟩
  refine split_dec (fun h7 => ?_) (fun h7 => ?_) <;> (conv => lhs; whnf)
  · refine (hD _).2 ⟨(.mk ⟨(IntKind.i64.wrap (10 + IntKind.i64.wrap (3 * (k : Int)))), kind, ses, turn, xid, dtime, path, data, owner, ver, cver, tmo, err, (IntKind.i64.wrap (10 + IntKind.i64.wrap (3 * (k : Int)))), mem⟩ parts : DeedD), ⟨_, rfl, (hgo _ _).1, hHas.sub hAk⟩, fun v A4 hq => ?_⟩
    have hdr := hgo (IntKind.i64.wrap (10 + IntKind.i64.wrap (3 * (k : Int)))) (IntKind.i64.wrap (10 + IntKind.i64.wrap (3 * (k : Int))))
    have hlp : (DeedD.mk ⟨(IntKind.i64.wrap (10 + IntKind.i64.wrap (3 * (k : Int)))), kind, ses, turn, xid, dtime, path, data, owner, ver, cver, tmo, err, (IntKind.i64.wrap (10 + IntKind.i64.wrap (3 * (k : Int)))), mem⟩ parts).parts.length = parts.length := rfl
    have hq : A4 = Ak ∧ v = .bool (decide (RightD (.mk ⟨(IntKind.i64.wrap (10 + IntKind.i64.wrap (3 * (k : Int)))), kind, ses, turn, xid, dtime, path, data, owner, ver, cver, tmo, err, (IntKind.i64.wrap (10 + IntKind.i64.wrap (3 * (k : Int)))), mem⟩ parts))) := hq
    have h4 := hq.1.symm
    have hv := hq.2
    subst h4
    by_cases hr : RightD (.mk ⟨(IntKind.i64.wrap (10 + IntKind.i64.wrap (3 * (k : Int)))), kind, ses, turn, xid, dtime, path, data, owner, ver, cver, tmo, err, (IntKind.i64.wrap (10 + IntKind.i64.wrap (3 * (k : Int)))), mem⟩ parts)
    rotate_left
    · rw [decide_eq_false hr] at hv
      subst hv
      conv => lhs; whnf
      exact (hD _).2 ⟨(⟨k + 1, Ak, .slice (addrA base) ns.length c9, ns, rs⟩ : NuG), ⟨⟨by show k + 1 ≤ ds.length; omega, hAk, hrow, hare, h60, hparts⟩, ⟨inc_slot (k := k) (by omega), rfl, trivial⟩, trivial, rfl⟩, by show ds.length - (k + 1) < ds.length - k; omega, ⟨rfl, trivial⟩, trivial⟩
    rw [decide_eq_true hr] at hv
    subst hv
    conv => lhs; whnf
    refine (hD _).2 ⟨((.mk ⟨(IntKind.i64.wrap (10 + IntKind.i64.wrap (3 * (k : Int)))), kind, ses, turn, xid, dtime, path, data, owner, ver, cver, tmo, err, (IntKind.i64.wrap (10 + IntKind.i64.wrap (3 * (k : Int)))), mem⟩ parts : DeedD), Ak), ⟨_, rfl, hdr.1⟩, fun v A4 hq => ?_⟩
    have hq : A4 = Ak ∧ v = .bool (decide ((60 : Int) < parts.length)) := hq
    have h4 := hq.1.symm
    have hv := hq.2
    subst h4
    by_cases hg : (60 : Int) < parts.length
    · rw [decide_eq_true hg] at hv
      subst hv
      conv => lhs; whnf
      exact (hD _).2 ⟨(⟨k + 1, Ak, .slice (addrA base) ns.length c9, ns, rs⟩ : NuG), ⟨⟨by show k + 1 ≤ ds.length; omega, hAk, hrow, hare, h60, hparts⟩, ⟨inc_slot (k := k) (by omega), rfl, trivial⟩, trivial, rfl⟩, by show ds.length - (k + 1) < ds.length - k; omega, ⟨rfl, trivial⟩, trivial⟩
    rw [decide_eq_false hg] at hv
    subst hv
    conv => lhs; whnf
    refine (hD _).2 fun gb A7 hN => ?_
    have hN : Ak.New A7 gb (List.toArray [.int .i64 (IntKind.i64.wrap (10 + IntKind.i64.wrap (3 * (k : Int)))), .int .u8 kind, .int .i64 ses, .int .i64 turn, .int .i64 xid, .int .i64 dtime, .string path, .slice a7 data.length k7, .int .i64 owner, .int .i64 ver, .int .i64 cver, .int .i64 tmo, .int .i64 err, .int .i64 (IntKind.i64.wrap (10 + IntKind.i64.wrap (3 * (k : Int)))), .slice a14 mem.length k14, .slice a15 parts.length k15]) 53 := hN
    obtain ⟨row, hrw⟩ : ∃ row : List Value, row = [.int .i64 (IntKind.i64.wrap (10 + IntKind.i64.wrap (3 * (k : Int)))), .int .u8 kind, .int .i64 ses, .int .i64 turn, .int .i64 xid, .int .i64 dtime, .string path, .slice a7 data.length k7, .int .i64 owner, .int .i64 ver, .int .i64 cver, .int .i64 tmo, .int .i64 err, .int .i64 (IntKind.i64.wrap (10 + IntKind.i64.wrap (3 * (k : Int)))), .slice a14 mem.length k14, .slice a15 parts.length k15] := ⟨_, rfl⟩
    have hone : ∀ v ∈ row, v.oneCell' = true := fun v hv => by
      rw [hrw] at hv
      simp only [List.mem_cons, List.not_mem_nil, or_false] at hv
      rcases hv with rfl | rfl | rfl | rfl | rfl | rfl | rfl | rfl | rfl | rfl | rfl | rfl | rfl | rfl | rfl | rfl <;> rfl
    have hrl : row.length = 16 := by rw [hrw]; rfl
    have hdr2 := hdr.2
    rw [← hrw] at hN hdr2
    obtain ⟨hP, hA⟩ := (hrow.sub hN.sub).formB
    have hAk7 := hAk.trans hN.sub
    have hd7 : ∀ j, A7.blk j = none → A.blk j = none := fun j hj => by
      cases h9 : A.blk j with
      | none => rfl
      | some o => rw [hAk7 _ _ h9] at hj; cases hj
    have hP := hP 1 184 (by omega) (by omega)
    have hrow9 : A7.rd gb 0 (1 * 16) = some row := by
      have := hN.rd (o := 0) (n := 1 * 16) (by rw [List.size_toArray, hrl]; omega)
      rw [this, List.drop_zero, List.take_of_length_le (by show row.length ≤ 1 * 16; omega)]
    have hfin : ∀ v A6, Appended A7 base ns.length c9 16 53 rs.flatten row 1 v A6 → NumI A ds ⟨k + 1, A6, v, ns ++ [.mk ⟨(IntKind.i64.wrap (10 + IntKind.i64.wrap (3 * (k : Int)))), kind, ses, turn, xid, dtime, path, data, owner, ver, cver, tmo, err, (IntKind.i64.wrap (10 + IntKind.i64.wrap (3 * (k : Int)))), mem⟩ parts], rs ++ [row]⟩ := fun v A6 hAp => by
      obtain ⟨hG6, hk6⟩ := hA 1 row v A6 (by omega) hd7 hAp
      refine ⟨by show k + 1 ≤ ds.length; omega, fun j o hj => by rw [hk6 j o hj]; exact hAk7 _ _ hj, ?_, DeedsR.snoc hare hdr2, by show (ns ++ [_]).length ≤ 60; rw [List.length_append]; show ns.length + 1 ≤ 60; omega, fun x hx => ?_⟩
      · show GrowR A A6 16 _ (ns ++ [_]).length v (rs ++ [row]).flatten
        rw [List.length_append, List.flatten_append]
        simpa using hG6
      · rcases List.mem_append.1 hx with hx | hx
        · exact hparts x hx
        · simp only [List.mem_singleton] at hx
          subst hx
          show parts.length ≤ 60
          omega
    rcases hbase with rfl | ⟨gx, rfl⟩ <;> (conv => lhs; whnf)
    all_goals
      refine (hD _).2 ⟨rs.flatten, row, hP.rd, ?_, hrl, hone, ?_, hP.cap, rfl, hP.none_, fun g' o' he' hle' _ => hP.room row.length hrl g' o' he' hle', fun v A6 hAp => ?_⟩
      · show (if 1 * 16 = 0 then some [] else A7.rd gb 0 (1 * 16)) = _
        rw [if_neg (by omega)]; exact hrow9
      · show ns.length + 1 ≤ 9223372036854775807
        omega
      · have hI := hfin v A6 hAp
        conv => lhs; whnf
        exact (hD _).2 ⟨(⟨k + 1, A6, v, ns ++ [_], rs ++ [row]⟩ : NuG), ⟨hI, ⟨inc_slot (k := k) (by omega), rfl, trivial⟩, trivial, rfl⟩, by show ds.length - (k + 1) < ds.length - k; omega, ⟨rfl, trivial⟩, trivial⟩
  · refine (hD _).2 ⟨(.mk ⟨(IntKind.i64.wrap (10 + IntKind.i64.wrap (3 * (k : Int)))), kind, ses, turn, xid, dtime, path, data, owner, ver, cver, tmo, err, cfg, mem⟩ parts : DeedD), ⟨_, rfl, (hgo _ _).1, hHas.sub hAk⟩, fun v A4 hq => ?_⟩
    have hdr := hgo (IntKind.i64.wrap (10 + IntKind.i64.wrap (3 * (k : Int)))) cfg
    have hlp : (DeedD.mk ⟨(IntKind.i64.wrap (10 + IntKind.i64.wrap (3 * (k : Int)))), kind, ses, turn, xid, dtime, path, data, owner, ver, cver, tmo, err, cfg, mem⟩ parts).parts.length = parts.length := rfl
    have hq : A4 = Ak ∧ v = .bool (decide (RightD (.mk ⟨(IntKind.i64.wrap (10 + IntKind.i64.wrap (3 * (k : Int)))), kind, ses, turn, xid, dtime, path, data, owner, ver, cver, tmo, err, cfg, mem⟩ parts))) := hq
    have h4 := hq.1.symm
    have hv := hq.2
    subst h4
    by_cases hr : RightD (.mk ⟨(IntKind.i64.wrap (10 + IntKind.i64.wrap (3 * (k : Int)))), kind, ses, turn, xid, dtime, path, data, owner, ver, cver, tmo, err, cfg, mem⟩ parts)
    rotate_left
    · rw [decide_eq_false hr] at hv
      subst hv
      conv => lhs; whnf
      exact (hD _).2 ⟨(⟨k + 1, Ak, .slice (addrA base) ns.length c9, ns, rs⟩ : NuG), ⟨⟨by show k + 1 ≤ ds.length; omega, hAk, hrow, hare, h60, hparts⟩, ⟨inc_slot (k := k) (by omega), rfl, trivial⟩, trivial, rfl⟩, by show ds.length - (k + 1) < ds.length - k; omega, ⟨rfl, trivial⟩, trivial⟩
    rw [decide_eq_true hr] at hv
    subst hv
    conv => lhs; whnf
    refine (hD _).2 ⟨((.mk ⟨(IntKind.i64.wrap (10 + IntKind.i64.wrap (3 * (k : Int)))), kind, ses, turn, xid, dtime, path, data, owner, ver, cver, tmo, err, cfg, mem⟩ parts : DeedD), Ak), ⟨_, rfl, hdr.1⟩, fun v A4 hq => ?_⟩
    have hq : A4 = Ak ∧ v = .bool (decide ((60 : Int) < parts.length)) := hq
    have h4 := hq.1.symm
    have hv := hq.2
    subst h4
    by_cases hg : (60 : Int) < parts.length
    · rw [decide_eq_true hg] at hv
      subst hv
      conv => lhs; whnf
      exact (hD _).2 ⟨(⟨k + 1, Ak, .slice (addrA base) ns.length c9, ns, rs⟩ : NuG), ⟨⟨by show k + 1 ≤ ds.length; omega, hAk, hrow, hare, h60, hparts⟩, ⟨inc_slot (k := k) (by omega), rfl, trivial⟩, trivial, rfl⟩, by show ds.length - (k + 1) < ds.length - k; omega, ⟨rfl, trivial⟩, trivial⟩
    rw [decide_eq_false hg] at hv
    subst hv
    conv => lhs; whnf
    refine (hD _).2 fun gb A7 hN => ?_
    have hN : Ak.New A7 gb (List.toArray [.int .i64 (IntKind.i64.wrap (10 + IntKind.i64.wrap (3 * (k : Int)))), .int .u8 kind, .int .i64 ses, .int .i64 turn, .int .i64 xid, .int .i64 dtime, .string path, .slice a7 data.length k7, .int .i64 owner, .int .i64 ver, .int .i64 cver, .int .i64 tmo, .int .i64 err, .int .i64 cfg, .slice a14 mem.length k14, .slice a15 parts.length k15]) 53 := hN
    obtain ⟨row, hrw⟩ : ∃ row : List Value, row = [.int .i64 (IntKind.i64.wrap (10 + IntKind.i64.wrap (3 * (k : Int)))), .int .u8 kind, .int .i64 ses, .int .i64 turn, .int .i64 xid, .int .i64 dtime, .string path, .slice a7 data.length k7, .int .i64 owner, .int .i64 ver, .int .i64 cver, .int .i64 tmo, .int .i64 err, .int .i64 cfg, .slice a14 mem.length k14, .slice a15 parts.length k15] := ⟨_, rfl⟩
    have hone : ∀ v ∈ row, v.oneCell' = true := fun v hv => by
      rw [hrw] at hv
      simp only [List.mem_cons, List.not_mem_nil, or_false] at hv
      rcases hv with rfl | rfl | rfl | rfl | rfl | rfl | rfl | rfl | rfl | rfl | rfl | rfl | rfl | rfl | rfl | rfl <;> rfl
    have hrl : row.length = 16 := by rw [hrw]; rfl
    have hdr2 := hdr.2
    rw [← hrw] at hN hdr2
    obtain ⟨hP, hA⟩ := (hrow.sub hN.sub).formB
    have hAk7 := hAk.trans hN.sub
    have hd7 : ∀ j, A7.blk j = none → A.blk j = none := fun j hj => by
      cases h9 : A.blk j with
      | none => rfl
      | some o => rw [hAk7 _ _ h9] at hj; cases hj
    have hP := hP 1 184 (by omega) (by omega)
    have hrow9 : A7.rd gb 0 (1 * 16) = some row := by
      have := hN.rd (o := 0) (n := 1 * 16) (by rw [List.size_toArray, hrl]; omega)
      rw [this, List.drop_zero, List.take_of_length_le (by show row.length ≤ 1 * 16; omega)]
    have hfin : ∀ v A6, Appended A7 base ns.length c9 16 53 rs.flatten row 1 v A6 → NumI A ds ⟨k + 1, A6, v, ns ++ [.mk ⟨(IntKind.i64.wrap (10 + IntKind.i64.wrap (3 * (k : Int)))), kind, ses, turn, xid, dtime, path, data, owner, ver, cver, tmo, err, cfg, mem⟩ parts], rs ++ [row]⟩ := fun v A6 hAp => by
      obtain ⟨hG6, hk6⟩ := hA 1 row v A6 (by omega) hd7 hAp
      refine ⟨by show k + 1 ≤ ds.length; omega, fun j o hj => by rw [hk6 j o hj]; exact hAk7 _ _ hj, ?_, DeedsR.snoc hare hdr2, by show (ns ++ [_]).length ≤ 60; rw [List.length_append]; show ns.length + 1 ≤ 60; omega, fun x hx => ?_⟩
      · show GrowR A A6 16 _ (ns ++ [_]).length v (rs ++ [row]).flatten
        rw [List.length_append, List.flatten_append]
        simpa using hG6
      · rcases List.mem_append.1 hx with hx | hx
        · exact hparts x hx
        · simp only [List.mem_singleton] at hx
          subst hx
          show parts.length ≤ 60
          omega
    rcases hbase with rfl | ⟨gx, rfl⟩ <;> (conv => lhs; whnf)
    all_goals
      refine (hD _).2 ⟨rs.flatten, row, hP.rd, ?_, hrl, hone, ?_, hP.cap, rfl, hP.none_, fun g' o' he' hle' _ => hP.room row.length hrl g' o' he' hle', fun v A6 hAp => ?_⟩
      · show (if 1 * 16 = 0 then some [] else A7.rd gb 0 (1 * 16)) = _
        rw [if_neg (by omega)]; exact hrow9
      · show ns.length + 1 ≤ 9223372036854775807
        omega
      · have hI := hfin v A6 hAp
        conv => lhs; whnf
        exact (hD _).2 ⟨(⟨k + 1, A6, v, ns ++ [_], rs ++ [row]⟩ : NuG), ⟨hI, ⟨inc_slot (k := k) (by omega), rfl, trivial⟩, trivial, rfl⟩, by show ds.length - (k + 1) < ds.length - k; omega, ⟨rfl, trivial⟩, trivial⟩

end
end Go.Proofs.YtabonbbfcfchmaaDoor
