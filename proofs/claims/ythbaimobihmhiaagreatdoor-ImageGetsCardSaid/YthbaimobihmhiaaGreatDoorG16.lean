/-
  The document's Get.
  A closed run as a contract.
  Chapter 12's examples: the law is awake.
  Contracts: two rows of bytes: are they the same?
  Contracts: are two nodes the same?
  Contracts: are rows of nodes, of sittings the same?
  Contracts: two rows of members: are they the same?
  ImageGets: the law.
  Lifting: what a row's arguments are in memory, as plain data of an arena that holds all that lay.
-/
import Derived.Test.YthbaimobihmhiaaGreatDoorG10
import Derived.Test.YthbaimobihmhiaaGreatDoorG15
import Derived.Test.YthbaimobihmhiaaGreatDoorG07
import Derived.Test.YthbaimobihmhiaaGreatDoorG06
import Derived.Test.YthbaimobihmhiaaGreatDoorG13
import Derived.Test.YthbaimobihmhiaaGreatDoorG08
import Derived.Test.YthbaimobihmhiaaGreatDoorG14
import Derived.ChangeArms
import Derived.DataReads
import Derived.SizedLaws
namespace Go.Proofs.YthbaimobihmhiaaGreatDoor
open Go.Sx Go.RowKit
noncomputable section
open Classical

def rdDInv (A1 : Arena) (r : Nat) (B : Arena) (m : Nat) (st : RdSt) (sl : List (Nat × SV)) : LInv :=
  { γ := IhG, G := fun s => s.k ≤ m ∧ KeepR A1 s.A r ∧ RdG badF B s.A r (pNodes s.k st).2 ∧ NodeRow A1 s.A s.L s.xs ∧ s.xs.map (·.1) = (pNodes s.k st).1,
    keepS := [], keepB := [0], sl := fun s => (15, .v (.int .i64 s.k)) :: (13, .v (.slice (addrA s.base) s.k s.c)) :: sl, bl := fun _ => [], ar := fun s => s.A, mu := fun s => m - s.k }

def rdEInv (A1 : Arena) (r : Nat) (B : Arena) (m : Nat) (st : RdSt) (sl : List (Nat × SV)) : LInv :=
  { γ := Nat × Arena × (Option (Nat × Nat) × Nat), G := fun s => s.1 ≤ m ∧ KeepR A1 s.2.1 r ∧ RdG badF B s.2.1 r (pSits s.1 st).2 ∧ GrowR A1 s.2.1 3 57 s.1 (.slice (addrA s.2.2.1) s.1 s.2.2.2) ((pSits s.1 st).1.flatMap sitC),
    keepS := [], keepB := [0], sl := fun s => (16, .v (.int .i64 s.1)) :: (14, .v (.slice (addrA s.2.2.1) s.1 s.2.2.2)) :: sl, bl := fun _ => [], ar := fun s => s.2.1, mu := fun s => m - s.1 }

def rgTab : FuncId → Option CT := lookC [specE 46 dunfS, specE 47 yNewS, specE 48 yByteS, specE 52 yIntS, specE 49 yCountS, specE 51 rnodeS, specE 54 yBytesS, specE 53 rensGetS, specE 16 rimgS] noC

theorem rgTab_ok : CTSound Tryz.prog rgTab := lookC_sound (noC_sound _) (fun x hx => by
  simp only [List.mem_cons, List.not_mem_nil, or_false] at hx
  rcases hx with rfl | rfl | rfl | rfl | rfl | rfl | rfl | rfl | rfl
  · exact specE_ok dunf_ok
  · exact specE_ok yNew_ok
  · exact specE_ok yByte_ok
  · exact specE_ok yInt_ok
  · exact specE_ok yCount_ok
  · exact specE_ok rnode_ok
  · exact specE_ok yBytes_ok
  · exact specE_ok rensGet_ok
  · exact specE_ok rimg_ok)

set_option maxRecDepth 100000 in
set_option maxHeartbeats 0 in
theorem rget_ok : FOk Tryz.prog 26 getS := by
  refine fok_v mixed fun (l : List UInt8) vs A hp => ?_
  obtain ⟨x, rfl, hX, hlen⟩ : ∃ x, vs = [x] ∧ SlB A x l ∧ l.length ≤ 900000000 := hp
  obtain ⟨ax, cx, hxf⟩ := hX.1.form
  subst hxf
  refine ⟨rgTab, tabO Tryz.prog rgTab noL 60 [(26, 0), (26, 2)], 60, rgTab_ok, tabO_sound mixed rgTab_ok (noL_sound _) _ _, fun blk os out tape D hD => ?_⟩
  conv => lhs; whnf
  refine (hD _).2 ⟨l, ⟨_, rfl, hX, hlen⟩, fun v A1 hq => ?_⟩
  obtain ⟨s1, hno1, hok1⟩ : A.Sub A1 ∧ (unfrL l = none → v = .tuple #[.slice none 0 0, .int .i64 0, .int .i64 4]) ∧ ∀ p n, unfrL l = some (p, n) → ∃ y, v = .tuple #[y, .int .i64 (n : Nat), .int .i64 0] ∧ SlB (A1.minus A) y p := hq
  have hgI : getI l = match unfrL l with
    | none => none
    | some (p, n) => if n = l.length ∧ (pByte (some p)).1 = 1 then nodesI (pByte (some p)).2 else none := rfl
  have hbad : ∀ A', A.Sub A' → getI l = none → getS.post l [] A (.tuple #[.slice none 0 0, .slice none 0 0, .agg #[.int .i64 0, .slice none 0 0], .int .i64 0, .int .i64 0, .int .i64 4]) A' := fun A' h1 h2 => ⟨h1, fun _ => rfl, fun ns ss ver ms f t h => (by rw [h2] at h; cases h)⟩
  cases hu : unfrL l with
  | none =>
    have hv := hno1 hu
    subst hv
    have hN0 : getI l = none := by rw [hgI, hu]
    conv => lhs; whnf
    repeat (first | refine go_D hD rfl ?_
            conv => lhs; whnf)
    have hend := hbad A1 s1 (hN0)
    conv => lhs; whnf
    repeat (first | refine go_D hD rfl ?_
            conv => lhs; whnf)
    exact (hD _).2 hend
  | some pn =>
    obtain ⟨p, n⟩ := pn
    rw [hu] at hgI
    have hgI : getI l = if n = l.length ∧ (pByte (some p)).1 = 1 then nodesI (pByte (some p)).2 else none := hgI
    have hy := hok1 p n hu
    obtain ⟨y, hv, hB⟩ := hy
    obtain ⟨ay, cy, hyf⟩ := hB.1.form
    subst hyf
    subst hv
    have hpl : p.length ≤ l.length := by
      have hu := hu
      unfold unfrL at hu
      split at hu
      · cases hu
      · injection hu with hu
        injection hu with hu _
        rw [← hu, List.length_take, List.length_drop]
        omega
    clear hno1 hok1
    conv => lhs; whnf
    repeat (first | refine go_D hD rfl ?_
            conv => lhs; whnf)
    refine split_nd (fun q0 => ?_) (fun q0 => ?_)
    rotate_left
    · have q0 : n ≠ l.length := fun e => q0 (by rw [e])
      have hend := hbad A1 s1 (by rw [hgI]; exact if_neg fun h => q0 h.1)
      conv => lhs; whnf
      repeat (first | refine go_D hD rfl ?_
              conv => lhs; whnf)
      exact (hD _).2 hend
    have hnl : n = l.length := by
      have q0 : (n : Int) = (l.length : Int) := q0
      omega
    conv => lhs; whnf
    repeat (first | refine go_D hD rfl ?_
            conv => lhs; whnf)
    refine (hD _).2 ⟨p, ⟨_, rfl, hB.sub (minus_sub _ _)⟩, fun v A2 hq => ?_⟩
    obtain ⟨s2, r, hv, hr1, B, hR⟩ : A1.Sub A2 ∧ ∃ r, v = .pointer (some ⟨r, 0, none⟩) ∧ A1.blk r = none ∧ ∃ D, RdG badF D A2 r (some p) := hq
    subst hv
    have hr : A.blk r = none := none_of s1 hr1
    have hA2 : A.Sub A2 := s1.trans s2
    conv => lhs; whnf
    repeat (first | refine go_D hD rfl ?_
            conv => lhs; whnf)
    refine (hD _).2 ⟨(⟨r, some p, B⟩ : RyG), ⟨rfl, hR, by show p.length ≤ _; omega⟩, fun v A3 hq => ?_⟩
    obtain ⟨hv, k3, hR3⟩ : v = bv (pByte (some p)).1 ∧ KeepR A2 A3 r ∧ RdG badF B A3 r (pByte (some p)).2 := hq
    have hl3 := pByte_len (some p)
    have hl3 : stLen (pByte (some p)).2 ≤ p.length := hl3
    have hgI : getI l = if (pByte (some p)).1 = 1 then nodesI (pByte (some p)).2 else none := by
      rw [hgI]
      by_cases h : (pByte (some p)).1 = 1
      · rw [if_pos ⟨hnl, h⟩, if_pos h]
      · rw [if_neg fun h2 => h h2.2, if_neg h]
    generalize (pByte (some p)).1 = b1 at *
    generalize (pByte (some p)).2 = t3 at *
    obtain ⟨nb, hnb⟩ : ∃ nb : Nat, b1.toNat = nb := ⟨_, rfl⟩
    have hv : v = .int .u8 ((nb : Nat) : Int) := by rw [hv, ← hnb]; rfl
    subst hv
    conv => lhs; whnf
    repeat (first | refine go_D hD rfl ?_
            conv => lhs; whnf)
    refine (hD _).2 ⟨((⟨r, t3, B⟩, 500) : RyG × Int), ⟨rfl, hR3, by show stLen t3 ≤ _; omega, by show (0 : Int) ≤ 500; decide, by show (500 : Int) ≤ _; decide⟩, fun v A4 hq => ?_⟩
    obtain ⟨hv, k4, hR4⟩ : v = .int .i64 (pCount 500 t3).1 ∧ KeepR A3 A4 r ∧ RdG badF B A4 r (pCount 500 t3).2 := hq
    have hn5 := pCount_in (s := t3) (show (0 : Int) ≤ 500 by decide)
    have hl4 := pCount_len 500 t3
    obtain ⟨m, hm⟩ : ∃ m : Nat, (pCount 500 t3).1 = m := ⟨(pCount 500 t3).1.toNat, by omega⟩
    have hgN : nodesI t3 = sitsI (pNodes m (pCount 500 t3).2).1 (pNodes m (pCount 500 t3).2).2 := by
      unfold nodesI
      rw [hm, Int.toNat_natCast]
    have hgNb : ∀ j, (pNodes j (pCount 500 t3).2).2 = none → j ≤ m → nodesI t3 = none := fun j h1 h2 => nodesI_bad h1 (by rw [hm, Int.toNat_natCast]; exact h2)
    rw [hm] at hv hn5
    generalize (pCount 500 t3).2 = t4 at *
    subst hv
    conv => lhs; whnf
    repeat (first | refine go_D hD rfl ?_
            conv => lhs; whnf)
    have hA4 : A.Sub A4 := k4.sub (k3.sub hA2 hr) hr
    obtain ⟨or4, hor4⟩ := hR4.live2
    have hr4 : A4.blk r ≠ none := by rw [hor4]; simp
    have hG0 : (rdDInv A4 r B m t4 [(9, .v (.int .i64 m)), (11, .v (.pointer (some ⟨r, 0, none⟩))), (12, .v (.int .u8 ((nb : Nat) : Int))), (14, .v (.slice none 0 0)), (4, .ptr 0 0)]).G ⟨0, A4, none, 0, none, []⟩ := ⟨Nat.zero_le _, KeepR.refl _ _, hR4, NodeRow.nil _ _, rfl⟩
    refine (hD _).2 ⟨rdDInv A4 r B m t4 [(9, .v (.int .i64 m)), (11, .v (.pointer (some ⟨r, 0, none⟩))), (12, .v (.int .u8 ((nb : Nat) : Int))), (14, .v (.slice none 0 0)), (4, .ptr 0 0)], ⟨(⟨0, A4, none, 0, none, []⟩ : IhG), hG0, ⟨rfl, rfl, rfl, rfl, rfl, rfl, rfl, trivial⟩, trivial, rfl⟩, fun (s : IhG) hG => ⟨⟨trivial, trivial, trivial, trivial, trivial, trivial, Nat.succ_pos 0, trivial⟩, trivial, ?_⟩⟩
    clear hG0
    obtain ⟨k, A5, base, c, g, xs⟩ := s
    obtain ⟨hk, hK5, hR5, hrow, hxs⟩ : k ≤ m ∧ KeepR A4 A5 r ∧ RdG badF B A5 r (pNodes k t4).2 ∧ NodeRow A4 A5 ⟨.slice (addrA base) k c, k, c, g⟩ xs ∧ xs.map (·.1) = (pNodes k t4).1 := hG
    have hsl5 := pNodes_stlen t4 k
    have hA5 : A.Sub A5 := hK5.sub hA4 hr
    have R5' := hR5
    obtain ⟨v5, htop5, -, -, -, -⟩ := R5'
    have rg5 : A5.rd r 1 1 = some [.bool (badF (pNodes k t4).2)] := htop5.rd (o := 1) (n := 1) (by show 1 + 1 ≤ 2; omega)
    clear htop5
    conv => lhs; whnf
    by_cases hgo : k < m ∧ (pNodes k t4).2 ≠ none
    · obtain ⟨hkm, hgo⟩ := hgo
      have hsm := Option.ne_none_iff_exists'.1 hgo
      obtain ⟨u9, hst9⟩ := hsm
      rw [hst9] at rg5
      have rg5 : A5.rd r 1 1 = some [.bool false] := rg5
      have hnext : pNodes (k + 1) t4 = ((pNodes k t4).1 ++ [(pNode (pNodes k t4).2).1], (pNode (pNodes k t4).2).2) := rfl
      clear hgN hgNb hst9 hgo
      generalize (pNodes k t4).1 = ns0 at *
      generalize (pNodes k t4).2 = u0 at *
      refine split_dec (fun hlt => ?_) (fun hlt => absurd (Int.ofNat_lt.2 hkm) hlt)
      conv => lhs; whnf
      repeat (first | refine go_rd rg5 ?_ | refine go_D hD rfl ?_
              conv => lhs; whnf)
      refine (hD _).2 ⟨(⟨r, u0, B⟩ : RyG), ⟨rfl, hR5, by show stLen u0 ≤ _; omega⟩, fun v B2 hq => ?_⟩
      obtain ⟨dv, hv, hdat, j1, R2⟩ : ∃ d, v = .agg (nodeC ((pNode u0).1, d)).toArray ∧ SlB (B2.minus A5) d (pNode u0).1.data ∧ KeepR A5 B2 r ∧ RdG badF B B2 r (pNode u0).2 := hq
      generalize (pNode u0).1 = nx at *
      generalize (pNode u0).2 = w2 at *
      obtain ⟨pp, dat, ⟨i0, i1, i2, i3, i4, i5, i6, i7, i8, i9⟩⟩ := nx
      have hdat : SlB (B2.minus A5) dv dat := hdat
      obtain ⟨ad, cd, hvf⟩ := hdat.1.form
      subst hvf
      have hv : v = .agg #[.string pp, .slice ad dat.length cd, .int .i64 i0, .int .i64 i1, .int .i64 i2, .int .i64 i3, .int .i64 i4, .int .i64 i5, .int .i64 i6, .int .i64 i7, .int .i64 i8, .int .i64 i9] := hv
      subst hv
      have hK42 : KeepR A4 B2 r := hK5.trans j1
      have hlive1 : ∀ j, A5.blk j = none → A4.blk j = none := fun j hj => by
        cases h4 : A4.blk j with
        | none => rfl
        | some o =>
          by_cases e : j = r
          · obtain ⟨o', ho⟩ := hR5.live2
            rw [e, ho] at hj; cases hj
          · rw [hK5 j o h4 e] at hj; cases hj
      have hrow2 := hrow.keep j1 hr4
      have hdat2 : SlB (offA A4 B2 g) (.slice ad dat.length cd) dat := dat_new hdat hlive1 fun j hj => hrow.row.live hj
      conv => lhs; whnf
      repeat (first | refine go_D hD rfl ?_
              conv => lhs; whnf)
      refine (hD _).2 fun ge B11 hN => ?_
      have hN : B2.New B11 ge #[.string pp, .slice ad dat.length cd, .int .i64 i0, .int .i64 i1, .int .i64 i2, .int .i64 i3, .int .i64 i4, .int .i64 i5, .int .i64 i6, .int .i64 i7, .int .i64 i8, .int .i64 i9] 46 := hN
      have hrow11 := hrow2.keep (KeepR.of_sub hN.sub r) hr4
      have hdat11 := dat_keep hdat2 (KeepR.of_sub hN.sub r) hr4
      have hap := hrow11.row.app
      obtain ⟨base', hvb, hbase, hG, hcont⟩ := hap
      have eb : base = base' := by
        injection hvb with eb _ _
        exact addrA_inj eb
      subst eb
      have hPd := hG 1 120 (by omega) (by show k + 1 ≤ 1000000000; omega) (by omega)
      have hy11 : B11.rd ge 0 (1 * 12) = some [.string pp, .slice ad dat.length cd, .int .i64 i0, .int .i64 i1, .int .i64 i2, .int .i64 i3, .int .i64 i4, .int .i64 i5, .int .i64 i6, .int .i64 i7, .int .i64 i8, .int .i64 i9] := hN.rd (o := 0) (n := 1 * 12) (by show 0 + 1 * 12 ≤ 12; omega)
      have hlive11 : ∀ j, B11.blk j = none → A4.blk j = none := fun j hj => by
        cases h4 : A4.blk j with
        | none => rfl
        | some o =>
          by_cases e : j = r
          · obtain ⟨o', ho⟩ := R2.live2
            rw [e, hN.sub r o' ho] at hj; cases hj
          · rw [hN.sub j o (hK42 j o h4 e)] at hj; cases hj
      rcases hbase with rfl | ⟨gx, ox, rfl⟩ <;> (conv => lhs; whnf)
      all_goals
        repeat (first | refine go_D hD rfl ?_
                conv => lhs; whnf)
        refine (hD _).2 ⟨_, [.string pp, .slice ad dat.length cd, .int .i64 i0, .int .i64 i1, .int .i64 i2, .int .i64 i3, .int .i64 i4, .int .i64 i5, .int .i64 i6, .int .i64 i7, .int .i64 i8, .int .i64 i9], hPd.rd, hy11, rfl, fun v hv => by
          simp only [List.mem_cons, List.not_mem_nil, or_false] at hv
          rcases hv with rfl | rfl | rfl | rfl | rfl | rfl | rfl | rfl | rfl | rfl | rfl | rfl <;> rfl, ?_, hPd.cap, rfl, hPd.none_, fun g' o' he' hle' _ => hPd.room 12 rfl g' o' he' hle', fun v9 B12 hAp => ?_⟩
        · show k + 1 ≤ 9223372036854775807
          omega
        · have hc9 := hcont 1 [.string pp, .slice ad dat.length cd, .int .i64 i0, .int .i64 i1, .int .i64 i2, .int .i64 i3, .int .i64 i4, .int .i64 i5, .int .i64 i6, .int .i64 i7, .int .i64 i8, .int .i64 i9] v9 B12 rfl (by omega) hAp
          obtain ⟨L9, q1, q2, q3, q4, q5, -⟩ := hc9
          have hap9 := q3.app
          obtain ⟨b9, hb9, -⟩ := hap9
          have hrow12 := NodeRow.more (x := ((⟨pp, dat, ⟨i0, i1, i2, i3, i4, i5, i6, i7, i8, i9⟩⟩ : ToldD), .slice ad dat.length cd)) hrow11 hdat11 hlive11 q3 q4 q5
          obtain ⟨vL, nL, cL, gL⟩ := L9
          have q1 : vL = v9 := q1
          have q2 : nL = k + 1 := q2
          have hb9 : vL = .slice (addrA b9) nL cL := hb9
          subst q2
          subst hb9
          subst q1
          have hgr : ∀ j, g = some j → A4.blk j = none := hrow11.new
          have hK12 : KeepR A4 B12 r := fun j o hj hjr => q5 j o (hN.sub j o (hK42 j o hj hjr)) fun e => (by rw [hgr j e] at hj; cases hj)
          have hr12 : B12.blk r = B11.blk r := by
            obtain ⟨o', ho⟩ := R2.live2
            rw [q5 r o' (hN.sub r o' ho) fun e => hr4 (hgr r e), hN.sub r o' ho]
          have hBs : B.Sub B12 := fun j o hj => q5 j o (hN.sub j o (R2.dsub j o hj)) fun e => (by have h7 := hgr j e; rw [hR4.dsub j o hj] at h7; cases h7)
          have R12 := (R2.keep hN.sub).other hBs hr12
          have hGn : (rdDInv A4 r B m t4 [(9, .v (.int .i64 m)), (11, .v (.pointer (some ⟨r, 0, none⟩))), (12, .v (.int .u8 ((nb : Nat) : Int))), (14, .v (.slice none 0 0)), (4, .ptr 0 0)]).G ⟨k + 1, B12, b9, cL, gL, xs ++ [((⟨pp, dat, ⟨i0, i1, i2, i3, i4, i5, i6, i7, i8, i9⟩⟩ : ToldD), .slice ad dat.length cd)]⟩ := by
            refine ⟨hkm, hK12, ?_, hrow12, ?_⟩
            · show RdG badF B B12 r (pNodes (k + 1) t4).2
              rw [hnext]
              exact R12
            · show List.map (fun (y : ToldD × Value) => y.1) (xs ++ [_]) = (pNodes (k + 1) t4).1
              rw [hnext, List.map_append, hxs]
              rfl
          conv => lhs; whnf
          repeat (first | refine go_D hD rfl ?_
                  conv => lhs; whnf)
          exact (hD _).2 ⟨(⟨k + 1, B12, b9, cL, gL, _⟩ : IhG), ⟨hGn, ⟨inc_slot (by omega), rfl, rfl, rfl, rfl, rfl, rfl, trivial⟩, trivial, rfl⟩, by show m - (k + 1) < m - k; omega, trivial, ⟨same1 rfl rfl, trivial⟩⟩
    have hexk : (k : Int) < (m : Int) → (pNodes k t4).2 = none := fun h => Classical.byContradiction fun h2 => hgo ⟨Int.ofNat_lt.1 h, h2⟩
    have rg6 : (pNodes k t4).2 = none → A5.rd r 1 1 = some [.bool true] := fun h => by rw [rg5, h]; rfl
    have hPA : (pNodes k t4).2 = none → getI l = none := fun h => by
      rw [hgI, hgNb k h hk]
      split <;> rfl
    have hPB : (pNodes k t4).2 ≠ none → getI l = if b1 = 1 then sitsI (xs.map (·.1)) (pNodes k t4).2 else none := fun h => by
      have hkm : k = m := by
        have : ¬ k < m := fun h2 => hgo ⟨h2, h⟩
        omega
      rw [hgI, hgN, hxs, hkm]
    have hxl : xs.length = k := by
      have h := pNodes_len t4 k
      rw [← hxs, List.length_map] at h
      exact h
    have hsh : ShortL xs := fun y hy => by
      have h := pNodes_short t4 k y.1 (by rw [← hxs]; exact List.mem_map.2 ⟨y, hy, rfl⟩)
      omega
    clear hgN hgNb hxs hgo hgI rg5
    generalize (pNodes k t4).2 = t5 at *
    refine split_dec (fun hlt => ?_) (fun hlt => ?_)
    all_goals
      conv => lhs; whnf
      repeat (first | refine go_rd (rg6 (hexk hlt)) ?_ | refine go_D hD rfl ?_
              conv => lhs; whnf)
      refine (hD _).2 ⟨((⟨r, t5, B⟩, 200) : RyG × Int), ⟨rfl, hR5, by show stLen t5 ≤ _; omega, by show (0 : Int) ≤ 200; decide, by show (200 : Int) ≤ _; decide⟩, fun v A6 hq => ?_⟩
      obtain ⟨hv, k6, hR6⟩ : v = .int .i64 (pCount 200 t5).1 ∧ KeepR A5 A6 r ∧ RdG badF B A6 r (pCount 200 t5).2 := hq
      have hn2 := pCount_in (s := t5) (show (0 : Int) ≤ 200 by decide)
      have hl6 := pCount_len 200 t5
      have ht56 : t5 = none → (pCount 200 t5).2 = none := fun h => by rw [h, pCount_none (by decide : (0 : Int) ≤ 200)]
      obtain ⟨n2, hm2⟩ : ∃ n2 : Nat, (pCount 200 t5).1 = n2 := ⟨(pCount 200 t5).1.toNat, by omega⟩
      have hgS : sitsI (xs.map (·.1)) t5 = tailI (xs.map (·.1)) (pSits n2 (pCount 200 t5).2).1 (pSits n2 (pCount 200 t5).2).2 := by
        unfold sitsI
        rw [hm2, Int.toNat_natCast]
      have hgSb : ∀ j, (pSits j (pCount 200 t5).2).2 = none → j ≤ n2 → sitsI (xs.map (·.1)) t5 = none := fun j h1 h2 => sitsI_bad _ h1 (by rw [hm2, Int.toNat_natCast]; exact h2)
      rw [hm2] at hv hn2
      clear hm2
      generalize (pCount 200 t5).2 = t6 at *
      subst hv
      have hK46 : KeepR A4 A6 r := hK5.trans k6
      have hrow6 := hrow.keep k6 hr4
      have hA6 : A.Sub A6 := k6.sub hA5 hr
      obtain ⟨or6, hor6⟩ := hR6.live2
      have hr6 : A6.blk r ≠ none := by rw [hor6]; simp
      conv => lhs; whnf
      repeat (first | refine go_D hD rfl ?_
              conv => lhs; whnf)
      have hG1 : (rdEInv A6 r B n2 t6 [(13, .v (.slice (addrA base) k c)), (9, .v (.int .i64 n2)), (11, .v (.pointer (some ⟨r, 0, none⟩))), (12, .v (.int .u8 ((nb : Nat) : Int))), (4, .ptr 0 0)]).G ((0, A6, none, 0) : Nat × Arena × (Option (Nat × Nat) × Nat)) := ⟨Nat.zero_le _, KeepR.refl _ _, hR6, GrowR.nil _ _ _ _⟩
      refine (hD _).2 ⟨rdEInv A6 r B n2 t6 [(13, .v (.slice (addrA base) k c)), (9, .v (.int .i64 n2)), (11, .v (.pointer (some ⟨r, 0, none⟩))), (12, .v (.int .u8 ((nb : Nat) : Int))), (4, .ptr 0 0)], ⟨((0, A6, none, 0) : Nat × Arena × (Option (Nat × Nat) × Nat)), hG1, ⟨rfl, rfl, rfl, rfl, rfl, rfl, rfl, trivial⟩, trivial, rfl⟩, fun (s : Nat × Arena × (Option (Nat × Nat) × Nat)) hG => ⟨⟨trivial, trivial, trivial, trivial, trivial, trivial, Nat.succ_pos 0, trivial⟩, trivial, ?_⟩⟩
      clear hG1
      obtain ⟨j, A7, bs, cs⟩ := s
      obtain ⟨hj, hK7, hR7, hgrow⟩ : j ≤ n2 ∧ KeepR A6 A7 r ∧ RdG badF B A7 r (pSits j t6).2 ∧ GrowR A6 A7 3 57 j (.slice (addrA bs) j cs) ((pSits j t6).1.flatMap sitC) := hG
      have hsl7 := pSits_stlen t6 j
      have hA7 : A.Sub A7 := hK7.sub hA6 hr
      have R7' := hR7
      obtain ⟨v7, htop7, -, -, -, -⟩ := R7'
      have rg7 : A7.rd r 1 1 = some [.bool (badF (pSits j t6).2)] := htop7.rd (o := 1) (n := 1) (by show 1 + 1 ≤ 2; omega)
      clear htop7
      conv => lhs; whnf
      by_cases hgo : j < n2 ∧ (pSits j t6).2 ≠ none
      · obtain ⟨hjn, hgo⟩ := hgo
        have hsm := Option.ne_none_iff_exists'.1 hgo
        obtain ⟨u9, hst9⟩ := hsm
        rw [hst9] at rg7
        have rg7 : A7.rd r 1 1 = some [.bool false] := rg7
        have hnext : pSits (j + 1) t6 = ((pSits j t6).1 ++ [(pSit (pSits j t6).2).1], (pSit (pSits j t6).2).2) := rfl
        clear hgS hgSb hst9 hgo
        generalize (pSits j t6).1 = ss0 at *
        generalize (pSits j t6).2 = u0 at *
        have hnd : pSit u0 = (⟨pI 0 u0, pI 1 u0, pI 2 u0⟩, pIs 3 u0) := rfl
        refine split_dec (fun hlt2 => ?_) (fun hlt2 => absurd (Int.ofNat_lt.2 hjn) hlt2)
        conv => lhs; whnf
        repeat (first | refine go_rd rg7 ?_ | refine go_D hD rfl ?_
                conv => lhs; whnf)
        refine (hD _).2 ⟨(⟨r, pIs 0 u0, B⟩ : RyG), ⟨rfl, hR7, by show stLen (pIs 0 u0) ≤ _; have := pIs_stlen u0 0; omega⟩, fun v B1 hq => ?_⟩
        obtain ⟨hv, j1, R1⟩ : v = .int .i64 (pI 0 u0) ∧ KeepR A7 B1 r ∧ RdG badF B B1 r (pIs 1 u0) := hq
        generalize pI 0 u0 = i0 at *
        subst hv
        conv => lhs; whnf
        repeat (first | refine go_D hD rfl ?_
                conv => lhs; whnf)
        refine (hD _).2 ⟨(⟨r, pIs 1 u0, B⟩ : RyG), ⟨rfl, R1, by show stLen (pIs 1 u0) ≤ _; have := pIs_stlen u0 1; omega⟩, fun v B2 hq => ?_⟩
        obtain ⟨hv, j2, R2⟩ : v = .int .i64 (pI 1 u0) ∧ KeepR B1 B2 r ∧ RdG badF B B2 r (pIs 2 u0) := hq
        generalize pI 1 u0 = i1 at *
        subst hv
        conv => lhs; whnf
        repeat (first | refine go_D hD rfl ?_
                conv => lhs; whnf)
        refine (hD _).2 ⟨(⟨r, pIs 2 u0, B⟩ : RyG), ⟨rfl, R2, by show stLen (pIs 2 u0) ≤ _; have := pIs_stlen u0 2; omega⟩, fun v B3 hq => ?_⟩
        obtain ⟨hv, j3, R3⟩ : v = .int .i64 (pI 2 u0) ∧ KeepR B2 B3 r ∧ RdG badF B B3 r (pIs 3 u0) := hq
        generalize pI 2 u0 = i2 at *
        subst hv
        have hK73 : KeepR A7 B3 r := j1.trans (j2.trans j3)
        have hK63 : KeepR A6 B3 r := hK7.trans hK73
        have hgrow3 := GrowR.keepR hgrow hK73 hr6
        have hf := hgrow3.formN
        obtain ⟨bs', cs', hvb, hbase, -, -⟩ := hf
        injection hvb with e1 e2 e3
        have e1 := addrA_inj e1
        subst e1; subst e3
        conv => lhs; whnf
        repeat (first | refine go_D hD rfl ?_
                conv => lhs; whnf)
        refine (hD _).2 fun ge B4 hN => ?_
        have hN : B3.New B4 ge #[.int .i64 i0, .int .i64 i1, .int .i64 i2] 57 := hN
        have hgrow4 := hgrow3.sub hN.sub
        have hf9 := hgrow4.formN
        obtain ⟨bs', cs', hvb, -, hP, hAp0⟩ := hf9
        injection hvb with e1 e2 e3
        have e1 := addrA_inj e1
        subst e1; subst e3
        have hPd := hP 1 24 (by omega) (by omega)
        have hy4 : B4.rd ge 0 (1 * 3) = some [.int .i64 i0, .int .i64 i1, .int .i64 i2] := hN.rd (o := 0) (n := 1 * 3) (by show 0 + 1 * 3 ≤ 3; omega)
        have hlive4 : ∀ q, B4.blk q = none → A6.blk q = none := fun q hq => by
          cases h4 : A6.blk q with
          | none => rfl
          | some o =>
            by_cases e : q = r
            · obtain ⟨o', ho⟩ := R3.live2
              rw [e, hN.sub r o' ho] at hq; cases hq
            · rw [hN.sub q o (hK63 q o h4 e)] at hq; cases hq
        rcases hbase with rfl | ⟨gx, rfl⟩ <;> (conv => lhs; whnf)
        all_goals
          repeat (first | refine go_D hD rfl ?_
                  conv => lhs; whnf)
          refine (hD _).2 ⟨_, [.int .i64 i0, .int .i64 i1, .int .i64 i2], hPd.rd, hy4, rfl, fun v hv => by
            simp only [List.mem_cons, List.not_mem_nil, or_false] at hv
            rcases hv with rfl | rfl | rfl <;> rfl, ?_, hPd.cap, rfl, hPd.none_, fun g' o' he' hle' _ => hPd.room 3 rfl g' o' he' hle', fun v9 B5 hAp => ?_⟩
          · show j + 1 ≤ 9223372036854775807
            omega
          · have hc9 := hAp0 1 [.int .i64 i0, .int .i64 i1, .int .i64 i2] v9 B5 rfl hlive4 hAp
            obtain ⟨hgrow5, hsame⟩ := hc9
            have hf10 := hgrow5.formN
            obtain ⟨b10, c10, hv10, -⟩ := hf10
            subst hv10
            have hr5 : B5.blk r = B4.blk r := hsame r or6 hor6
            have hB5 : B.Sub B5 := fun q o hq => by
              rw [hsame q o (hR6.dsub q o hq)]
              exact hN.sub q o (R3.dsub q o hq)
            have R5 := (R3.keep hN.sub).other hB5 hr5
            have hK65 : KeepR A6 B5 r := fun q o hq hqr => by
              rw [hsame q o hq]
              exact hN.sub q o (hK63 q o hq hqr)
            have hgrow5 : GrowR A6 B5 3 57 (j + 1) (.slice (addrA b10) (j + 1) c10) ((pSits (j + 1) t6).1.flatMap sitC) := by
              rw [hnext, hnd]
              show GrowR A6 B5 3 _ (j + 1) _ ((ss0 ++ [(⟨i0, i1, i2⟩ : SitD)]).flatMap sitC)
              have e : (ss0 ++ [(⟨i0, i1, i2⟩ : SitD)]).flatMap sitC = ss0.flatMap sitC ++ [.int .i64 i0, .int .i64 i1, .int .i64 i2] := by
                rw [List.flatMap_append]
                rfl
              rw [e]
              exact hgrow5
            have R5 : RdG badF B B5 r (pSits (j + 1) t6).2 := by rw [hnext, hnd]; exact R5
            conv => lhs; whnf
            repeat (first | refine go_D hD rfl ?_
                    conv => lhs; whnf)
            exact (hD _).2 ⟨((j + 1, B5, b10, c10) : Nat × Arena × (Option (Nat × Nat) × Nat)), ⟨⟨hjn, hK65, R5, hgrow5⟩, ⟨inc_slot (by omega), rfl, rfl, rfl, rfl, rfl, rfl, trivial⟩, trivial, rfl⟩, by show n2 - (j + 1) < n2 - j; omega, trivial, ⟨same1 rfl rfl, trivial⟩⟩
      have hexj : (j : Int) < (n2 : Int) → (pSits j t6).2 = none := fun h => Classical.byContradiction fun h2 => hgo ⟨Int.ofNat_lt.1 h, h2⟩
      have rg8 : (pSits j t6).2 = none → A7.rd r 1 1 = some [.bool true] := fun h => by rw [rg7, h]; rfl
      have hQA : (pSits j t6).2 = none → getI l = none := fun h => by
        by_cases h5 : t5 = none
        · exact hPA h5
        · rw [hPB h5, hgSb j h hj]
          split <;> rfl
      have hQB : (pSits j t6).2 ≠ none → getI l = if b1 = 1 then tailI (xs.map (·.1)) (pSits j t6).1 (pSits j t6).2 else none := fun h => by
        have h5 : t5 ≠ none := fun e => h (by rw [ht56 e]; exact pSits_none j)
        have hjn : j = n2 := by
          have : ¬ j < n2 := fun h2 => hgo ⟨h2, h⟩
          omega
        rw [hPB h5, hgS, hjn]
      have hssl : (pSits j t6).1.length = j := pSits_len t6 j
      clear hgS hgSb hPA hPB ht56 hgo rg7
      generalize (pSits j t6).1 = ss at *
      generalize (pSits j t6).2 = t7 at *
      refine split_dec (fun hlt2 => ?_) (fun hlt2 => ?_)
      all_goals
        conv => lhs; whnf
        repeat (first | refine go_rd (rg8 (hexj hlt2)) ?_ | refine go_D hD rfl ?_
                conv => lhs; whnf)
        refine (hD _).2 ⟨((⟨r, t7, B⟩, 1048576) : RyG × Int), ⟨rfl, hR7, by show stLen t7 ≤ _; omega, by show (0 : Int) ≤ 1048576; decide, by show (1048576 : Int) ≤ _; decide⟩, fun v A8 hq => ?_⟩
        obtain ⟨hdat, k8, hR8⟩ : SlB (A8.minus A7) v (pText 1048576 t7).1 ∧ KeepR A7 A8 r ∧ RdG badF B A8 r (pText 1048576 t7).2 := hq
        have hs8 := (pText_len 1048576 t7).1
        have hdl := pText_short (most := 1048576) (by decide) t7
        obtain ⟨ad, cd, hvf⟩ := hdat.1.form
        have ht78 : t7 = none → pIs 2 (pText 1048576 t7).2 = none := fun h => by
          rw [h, pText_none0 (by decide : (0 : Int) ≤ 1048576)]
          exact pIs_none 2
        have hgT1 : getE (pText 1048576 t7).1 = none → getI l = none := fun h => by
          by_cases h7 : t7 = none
          · exact hQA h7
          · rw [hQB h7]
            by_cases hb : b1 = 1
            · rw [if_pos hb]
              unfold tailI
              rw [h]
            · rw [if_neg hb]
        have hgT2 : ∀ ver ms, getE (pText 1048576 t7).1 = some (ver, ms) → getI l = if b1 = 1 ∧ pIs 2 (pText 1048576 t7).2 = some [] ∧ RightI (xs.map (·.1)) ss ver ms (pI 0 (pText 1048576 t7).2) (pI 1 (pText 1048576 t7).2) then some (xs.map (·.1), ss, ver, ms, pI 0 (pText 1048576 t7).2, pI 1 (pText 1048576 t7).2) else none := fun ver ms h => by
          by_cases h7 : t7 = none
          · rw [hQA h7, if_neg]
            rintro ⟨_, h8, _⟩
            rw [ht78 h7] at h8
            cases h8
          · rw [hQB h7]
            by_cases hb : b1 = 1
            · rw [if_pos hb]
              unfold tailI
              rw [h]
              show (if _ then _ else none) = _
              by_cases hc : pIs 2 (pText 1048576 t7).2 = some [] ∧ RightI (xs.map (·.1)) ss ver ms (pI 0 (pText 1048576 t7).2) (pI 1 (pText 1048576 t7).2)
              · rw [if_pos hc, if_pos ⟨hb, hc⟩]
              · rw [if_neg hc, if_neg fun h => hc h.2]
            · rw [if_neg hb, if_neg fun h => hb h.1]
        clear hQA hQB ht78
        generalize (pText 1048576 t7).1 = cf at *
        generalize (pText 1048576 t7).2 = t8 at *
        subst hvf
        conv => lhs; whnf
        repeat (first | refine go_D hD rfl ?_
                conv => lhs; whnf)
        refine (hD _).2 ⟨cf, ⟨_, rfl, hdat.sub (minus_sub _ _), by omega⟩, fun v A9 hq => ?_⟩
        obtain ⟨s9, hno9, hok9⟩ : A8.Sub A9 ∧ (getE cf = none → v = .tuple #[.agg #[.int .i64 0, .slice none 0 0], .int .i64 4]) ∧ ∀ ver ms, getE cf = some (ver, ms) → ∃ x, v = .tuple #[.agg #[.int .i64 ver, x], .int .i64 0] ∧ MemR (A9.minus A8) x ms := hq
        have hA8 : A.Sub A8 := k8.sub hA7 hr
        have hR9 := hR8.keep s9
        have hnb3 : nb = 0 ∨ nb = 1 ∨ ∃ q, nb = q + 2 := by
          rcases Nat.lt_or_ge nb 2 with h | h
          · omega
          · exact .inr (.inr ⟨nb - 2, by omega⟩)
        have hb1 : b1 = 1 ↔ nb = 1 := by
          constructor
          · rintro rfl
            rw [← hnb]
            rfl
          · intro h
            exact UInt8.toNat_inj.1 (by show b1.toNat = 1; omega)
        clear hnb
        by_cases hge : getE cf = none
        · have hv := hno9 hge
          subst hv
          have hN0 := hgT1 hge
          clear hgT1 hgT2 hno9 hok9
          conv => lhs; whnf
          repeat (first | refine go_D hD rfl ?_
                  conv => lhs; whnf)
          refine (hD _).2 ⟨(⟨r, t8, B⟩ : RyG), ⟨rfl, hR9, by show stLen t8 ≤ _; omega⟩, fun v A10 hq => ?_⟩
          obtain ⟨hv, k10, hR10⟩ : v = .int .i64 (pI 0 t8) ∧ KeepR A9 A10 r ∧ RdG badF B A10 r (pIs 1 t8) := hq
          generalize pI 0 t8 = fr at *
          subst hv
          conv => lhs; whnf
          repeat (first | refine go_D hD rfl ?_
                  conv => lhs; whnf)
          refine (hD _).2 ⟨(⟨r, pIs 1 t8, B⟩ : RyG), ⟨rfl, hR10, by show stLen (pIs 1 t8) ≤ _; have := pIs_stlen t8 1; omega⟩, fun v A11 hq => ?_⟩
          obtain ⟨hv, k11, hR11⟩ : v = .int .i64 (pI 1 t8) ∧ KeepR A10 A11 r ∧ RdG badF B A11 r (pIs 2 t8) := hq
          generalize pI 1 t8 = to at *
          subst hv
          have hA11 : A.Sub A11 := k11.sub (k10.sub (hA8.trans s9) hr) hr
          rcases hnb3 with h | h | ⟨q, h⟩
          all_goals
            subst h
            have hend := hbad A11 hA11 (hN0)
            conv => lhs; whnf
            repeat (first | refine go_D hD rfl ?_
                    conv => lhs; whnf)
            exact (hD _).2 hend
        · have hx := Option.ne_none_iff_exists'.1 hge
          obtain ⟨⟨ver, ms⟩, hge⟩ := hx
          have hx := hok9 ver ms hge
          obtain ⟨vm, hv, hvm⟩ := hx
          have hgT := hgT2 ver ms hge
          clear hgT1 hgT2 hno9 hok9
          have hx := hvm.1.form
          obtain ⟨am, cm, hf⟩ := hx
          subst hf
          subst hv
          conv => lhs; whnf
          repeat (first | refine go_D hD rfl ?_
                  conv => lhs; whnf)
          refine (hD _).2 ⟨(⟨r, t8, B⟩ : RyG), ⟨rfl, hR9, by show stLen t8 ≤ _; omega⟩, fun v A10 hq => ?_⟩
          obtain ⟨hv, k10, hR10⟩ : v = .int .i64 (pI 0 t8) ∧ KeepR A9 A10 r ∧ RdG badF B A10 r (pIs 1 t8) := hq
          generalize pI 0 t8 = fr at *
          subst hv
          conv => lhs; whnf
          repeat (first | refine go_D hD rfl ?_
                  conv => lhs; whnf)
          refine (hD _).2 ⟨(⟨r, pIs 1 t8, B⟩ : RyG), ⟨rfl, hR10, by show stLen (pIs 1 t8) ≤ _; have := pIs_stlen t8 1; omega⟩, fun v A11 hq => ?_⟩
          obtain ⟨hv, k11, hR11⟩ : v = .int .i64 (pI 1 t8) ∧ KeepR A10 A11 r ∧ RdG badF B A11 r (pIs 2 t8) := hq
          generalize pI 1 t8 = to at *
          subst hv
          have hA11 : A.Sub A11 := k11.sub (k10.sub (hA8.trans s9) hr) hr
          rcases hnb3 with h | h | ⟨q, h⟩
          · subst h
            have hN0 : getI l = none := by
              rw [hgT, if_neg]
              rintro ⟨h, _⟩
              have := hb1.1 h
              omega
            have hend := hbad A11 hA11 (hN0)
            conv => lhs; whnf
            repeat (first | refine go_D hD rfl ?_
                    conv => lhs; whnf)
            exact (hD _).2 hend
          rotate_left
          · subst h
            have hN0 : getI l = none := by
              rw [hgT, if_neg]
              rintro ⟨h, _⟩
              have := hb1.1 h
              omega
            have hend := hbad A11 hA11 (hN0)
            conv => lhs; whnf
            repeat (first | refine go_D hD rfl ?_
                    conv => lhs; whnf)
            exact (hD _).2 hend
          subst h
          have hb1 := hb1.2 rfl
          have hgT : getI l = if pIs 2 t8 = some [] ∧ RightI (xs.map (·.1)) ss ver ms fr to then some (xs.map (·.1), ss, ver, ms, fr, to) else none := by
            rw [hgT]
            by_cases hc : pIs 2 t8 = some [] ∧ RightI (xs.map (·.1)) ss ver ms fr to
            · rw [if_pos hc, if_pos ⟨hb1, hc⟩]
            · rw [if_neg hc, if_neg fun h => hc h.2]
          have hK71 : KeepR A7 A11 r := (k8.trans (KeepR.of_sub s9 r)).trans (k10.trans k11)
          have hK61 : KeepR A6 A11 r := hK7.trans hK71
          have hrow11 := hrow6.keep hK61 hr4
          have hgrow11 := GrowR.keepR hgrow hK71 hr6
          have hnewA4 : ∀ q, A4.blk q = none → A.blk q = none := fun q hq => none_of hA4 hq
          have hND : NodesR (A11.minus A) (.slice (addrA base) k c) xs := hrow11.nodes hnewA4
          have hSS : SlS (A11.minus A) (.slice (addrA bs) j cs) ss := ⟨by rw [hssl]; exact GrowR.slM hgrow11 fun q hq => none_of hA6 hq, by rw [hssl]; omega⟩
          have hMM : MemR (A11.minus A) (.slice am ms.length cm) ms := hvm.sub fun q o hq => by
            obtain ⟨h1, h2⟩ := minus_blk hq
            refine minus_mk (none_of hA8 h1) ?_
            have hqr : q ≠ r := fun e => by
              obtain ⟨o', ho⟩ := hR8.live2
              rw [e, ho] at h1; cases h1
            exact k11 q o (k10 q o h2 hqr) hqr
          conv => lhs; whnf
          repeat (first | refine go_D hD rfl ?_
                  conv => lhs; whnf)
          obtain ⟨v11, htop, hDs, hDr, hSl11, hnil11⟩ := hR11
          have r1 : A11.rd r 1 1 = some [.bool (badF (pIs 2 t8))] := htop.rd (o := 1) (n := 1) (by show 1 + 1 ≤ 2; omega)
          by_cases hst : pIs 2 t8 = none
          · rw [hst] at r1
            have r1 : A11.rd r 1 1 = some [.bool true] := r1
            have hN0 : getI l = none := by
              rw [hgT, if_neg]
              rintro ⟨h, _⟩
              rw [hst] at h; cases h
            repeat (first | refine go_rd r1 ?_ | refine go_D hD rfl ?_
                    conv => lhs; whnf)
            have hend := hbad A11 hA11 (hN0)
            conv => lhs; whnf
            repeat (first | refine go_D hD rfl ?_
                    conv => lhs; whnf)
            exact (hD _).2 hend
          have hsm : ∃ u2, pIs 2 t8 = some u2 := Option.ne_none_iff_exists'.1 hst
          obtain ⟨l4, hst⟩ := hsm
          rw [hst] at r1 htop hSl11 hgT
          have hSl11 : Sl B 1 l4.length v11 (l4.map bv) := hSl11
          have hx := hSl11.form
          obtain ⟨a4, c4, hf4⟩ := hx
          subst hf4
          have r1 : A11.rd r 1 1 = some [.bool false] := r1
          have r0 : A11.rd r 0 1 = some [.slice a4 l4.length c4] := htop.rd (o := 0) (n := 1) (by show 0 + 1 ≤ 2; omega)
          have hln : l4.length = 0 ∨ ∃ q, l4.length = q + 1 := by
            cases l4 with
            | nil => exact .inl rfl
            | cons b0 l5 => exact .inr ⟨l5.length, rfl⟩
          rcases hln with hln | hln
          rotate_left
          · obtain ⟨q, hln⟩ := hln
            rw [hln] at r0
            have hN0 : getI l = none := by
              rw [hgT, if_neg]
              rintro ⟨h, _⟩
              injection h with h
              rw [h] at hln
              cases hln
            repeat (first | refine go_rd r1 ?_ | refine go_rd r0 ?_ | refine go_D hD rfl ?_
                    conv => lhs; whnf)
            have hend := hbad A11 hA11 (hN0)
            conv => lhs; whnf
            repeat (first | refine go_D hD rfl ?_
                    conv => lhs; whnf)
            exact (hD _).2 hend
          have hl40 : l4 = [] := List.length_eq_zero_iff.1 hln
          subst hl40
          have r0 : A11.rd r 0 1 = some [.slice a4 0 c4] := r0
          repeat (first | refine go_rd r1 ?_ | refine go_rd r0 ?_ | refine go_D hD rfl ?_
                  conv => lhs; whnf)
          refine (hD _).2 ⟨(⟨xs, ss, ver, ms, fr, to⟩ : ImgG), ⟨_, _, _, rfl, ⟨hND.1.sub (minus_sub _ _), fun x hx => (hND.2 x hx).sub (minus_sub _ _)⟩, ⟨hSS.1.sub (minus_sub _ _), hSS.2⟩, hMM.sub (minus_sub _ _), by show xs.length ≤ _; omega, hsh⟩, fun v A12 hq => ?_⟩
          obtain ⟨s12, hv⟩ : A11.Sub A12 ∧ v = .bool (decide (ImgG.mk xs ss ver ms fr to).ok) := hq
          have hA12 : A.Sub A12 := hA11.trans s12
          have hup : (A11.minus A).Sub (A12.minus A) := fun q o hq => by
            obtain ⟨h1, h2⟩ := minus_blk hq
            exact minus_mk h1 (s12 q o h2)
          by_cases hok : RightI (xs.map (·.1)) ss ver ms fr to
          · have hv : v = .bool true := hv.trans (img_yes (g := ⟨xs, ss, ver, ms, fr, to⟩) hok).symm
            subst hv
            have hend : getS.post l [] A (.tuple #[.slice (addrA base) k c, .slice (addrA bs) j cs, .agg #[.int .i64 ver, .slice am ms.length cm], .int .i64 fr, .int .i64 to, .int .i64 0]) A12 := by
              refine ⟨hA12, fun h => ?_, fun ns' ss' ver' ms' f' t' h => ?_⟩
              · rw [hgT, if_pos ⟨rfl, hok⟩] at h; cases h
              · rw [hgT, if_pos ⟨rfl, hok⟩] at h
                injection h with h
                injection h with h1 h
                injection h with h2 h
                injection h with h3 h
                injection h with h4 h
                injection h with h5 h6
                subst h1; subst h2; subst h3; subst h4; subst h5; subst h6
                exact ⟨xs, _, _, _, rfl, rfl, ⟨hND.1.sub hup, fun x hx => (hND.2 x hx).sub hup⟩, ⟨hSS.1.sub hup, hSS.2⟩, hMM.sub hup⟩
            conv => lhs; whnf
            repeat (first | refine go_D hD rfl ?_
                    conv => lhs; whnf)
            exact (hD _).2 hend
          · have hv : v = .bool false := hv.trans (img_no (g := ⟨xs, ss, ver, ms, fr, to⟩) hok).symm
            subst hv
            have hN0 : getI l = none := by
              rw [hgT, if_neg]
              rintro ⟨_, h⟩
              exact hok h
            have hend := hbad A12 hA12 (hN0)
            conv => lhs; whnf
            repeat (first | refine go_D hD rfl ?_
                    conv => lhs; whnf)
            exact (hD _).2 hend

end
end Go.Proofs.YthbaimobihmhiaaGreatDoor

namespace Go.Proofs.YthbaimobihmhiaaGreatDoor
open Go.Sx Go.RowKit
noncomputable section
open Classical

/-- A closed run that gives true changes nothing that lay. -/
theorem fok_closed {P : Program} (hm : P.follows .mixedOrders = true) {C : FuncId → Option CT} (hC : CTSound P C) {Λ : LTab} (hΛ : LTSound P Λ) {n : Nat} {f : FuncId} (hk : ∀ w : World, sxTop P C Λ n f [] ⟨.e, 0, memOf w⟩ (fun r _ => isT r) = true) :
    FOk P f ⟨Unit, fun _ vs _ => vs = [], fun _ _ A v A' => A' = A ∧ v = .bool true⟩ := by
  intro _ vs A w hA hvs
  simp only at hvs
  subst hvs
  have R : HRel (fun _ => ⟨0, 0, 0⟩) ⟨.e, 0, memOf w⟩ w := by
    refine ⟨rfl, rfl, rfl, fun k o hk => hk, fun b B hb => ?_, fun b b' B B' hb => ?_, fun b B hb => ?_, fun k o hk => (by cases hk), fun b B hb => ?_, fun k o hk => (by cases hk)⟩ <;> (rw [T.get_e] at hb; cases hb)
  refine (sxTop_sound hm hC hΛ n f [] _ _ (hk w) _ w R (fun x hx => by cases hx)).mono (fun v w' ⟨z, h', ρ', hz, hv, hl, R', _, _, hle⟩ => ?_) fun _ _ h => h
  have old : ∀ k o, w.heap[k]? = some o → w'.heap[k]? = some o := fun k o hk => R'.mem k o (hle.1 k o hk)
  refine ⟨A, ⟨rfl, ?_⟩, R'.os.trans hle.2.1, R'.out.trans hle.2.2.1, R'.tape.trans hle.2.2.2, fun k hk hlt => ?_, fun k o hk => old k o (hA k o hk), fun k o ho => .inl ⟨o, ho⟩⟩
  · rw [hv]
    cases z with
    | v x => cases x with
      | bool b => simp only [isT] at hz; subst hz; rfl
      | _ => simp [isT] at hz
    | _ => simp [isT] at hz
  · have h0 : w.heap[k]? = some w.heap[k] := Array.getElem?_eq_getElem hlt
    rw [old k _ h0, h0]

end
end Go.Proofs.YthbaimobihmhiaaGreatDoor

namespace Go.Proofs.YthbaimobihmhiaaGreatDoor
open Go.Sx Go.RowKit
noncomputable section
open Classical

def C1 : FuncId → Option CT := fun f => bif Nat.beq f 45 then some (deferCT Tryz.prog C0 noL 400 45) else C0 f

theorem C1_sound : CTSound Tryz.prog C1 := by
  intro f ct h args h0 K hk ρ w H hargs
  unfold C1 at h
  cases h1 : Nat.beq f 45 with
  | true =>
    rw [h1] at h
    have := Nat.eq_of_beq_eq_true h1
    subst this
    simp only [cond_true, Option.some.injEq] at h
    subst h
    exact deferCT_goes mixed C0_sound (noL_sound _) hk H hargs
  | false =>
    rw [h1] at h
    exact C0_sound f ct h args h0 K hk ρ w H hargs

set_option maxRecDepth 100000 in
theorem awake_run (w : World) : sxTop Tryz.prog C1 noL 400 6 [] ⟨.e, 0, memOf w⟩ (fun r _ => isT r) = true := by kernel_rfl

def awakeS : FSpec := ⟨Unit, fun _ vs _ => vs = [], fun _ _ A v A' => A' = A ∧ v = .bool true⟩

theorem awake_ok : FOk Tryz.prog 6 awakeS := fok_closed mixed C1_sound (noL_sound _) awake_run

end
end Go.Proofs.YthbaimobihmhiaaGreatDoor

namespace Go.Proofs.YthbaimobihmhiaaGreatDoor
open Go.Sx Go.RowKit
noncomputable section
open Classical

/-! ### Bytes -/

def sameBytesS : FSpec := ⟨List UInt8 × List UInt8, fun g vs A => ∃ x y, vs = [x, y] ∧ SlB A x g.1 ∧ SlB A y g.2, fun g _ A v A' => A' = A ∧ v = .bool (decide (g.1 = g.2))⟩

set_option maxRecDepth 100000 in
set_option maxHeartbeats 0 in
theorem sameBytes_ok : FOk Tryz.prog 9 sameBytesS := by
  refine fok_v mixed fun ⟨ls, bs⟩ vs A hp => ?_
  simp only [sameBytesS] at hp
  obtain ⟨x, y, rfl, ⟨⟨ao, c, rfl, hc, _, ha1, ha2, ha3⟩, hxl⟩, ⟨bo, d, rfl, hd, _, hb1, hb2, hb3⟩, hyl⟩ := hp
  refine ⟨noC, tabO Tryz.prog noC noL 60 [(9, 0)], 60, noC_sound _, tabO_sound mixed (noC_sound _) (noL_sound _) _ _, fun blk os out tape D hD => ?_⟩
  conv => lhs; whnf
  refine split_b (fun hb => ?_) (fun hb => ?_) <;> (conv => lhs; whnf)
  · refine (hD _).2 ⟨rfl, ?_⟩
    have : ls ≠ bs := fun e => by subst e; simp at hb
    simp [this]
  · have hlen : ls.length = bs.length := by
      have : (ls.length : Int) = bs.length := by simpa using hb
      omega
    refine (hD _).2 ⟨cnt A 5 [0, 1] [] ls.length fun k => ls.take k = bs.take k, ⟨(0 : Nat), ⟨Nat.zero_le _, rfl⟩, ⟨rfl, trivial⟩, trivial, rfl⟩, fun (k : Nat) hk => ⟨⟨trivial, trivial⟩, trivial, ?_⟩⟩
    simp only [cnt] at hk
    conv => lhs; whnf
    refine split_dec (fun hlt => ?_) (fun hb => ?_) <;> (conv => lhs; whnf)
    · have hlt : k < ls.length := by omega
      obtain ⟨g, o, rfl, hra⟩ := Sl.at_ hc ha1 ha2 ha3 (by omega)
      obtain ⟨g', o', rfl, hrb⟩ := Sl.at_ hd hb1 hb2 hb3 (by omega)
      conv => lhs; whnf
      refine split_in (fun _ _ => ?_) (fun h => by omega)
      conv => lhs; whnf
      refine go_rd (byte_at hra k hlt rfl) ?_
      conv => lhs; whnf
      refine split_in (fun _ _ => ?_) (fun h => by omega)
      conv => lhs; whnf
      refine go_rd (byte_at hrb k (by omega) rfl) ?_
      conv => lhs; whnf
      refine split_b (fun hb => ?_) (fun hb => ?_) <;> (conv => lhs; whnf)
      · refine (hD _).2 ⟨rfl, ?_⟩
        have : ls ≠ bs := fun e => by subst e; simp at hb
        simp [this]
      · have he : ls[k] = bs[k] := by
          have : (ls[k].toNat : Int) = bs[k].toNat := by simpa using hb
          exact UInt8.toNat_inj.1 (by omega)
        refine (hD _).2 ⟨(k + 1 : Nat), ⟨⟨by omega, ?_⟩, ⟨inc_slot (by omega), trivial⟩, trivial, rfl⟩, ?_, ⟨rfl, rfl, trivial⟩, trivial⟩
        · show ls.take (k + 1) = bs.take (k + 1)
          rw [List.take_succ_eq_append_getElem hlt, List.take_succ_eq_append_getElem (by omega), hk.2, he]
        · show ls.length - (k + 1) < ls.length - k
          omega
    · refine (hD _).2 ⟨rfl, ?_⟩
      have h1 : k = ls.length := by omega
      have : ls = bs := by
        have := hk.2
        rw [h1, List.take_length, hlen, List.take_length] at this
        exact this
      simp [this]

end
end Go.Proofs.YthbaimobihmhiaaGreatDoor

namespace Go.Proofs.YthbaimobihmhiaaGreatDoor
open Go.Sx Go.RowKit
noncomputable section
open Classical

def sameNode2S : FSpec := ⟨(ToldD × Value) × (ToldD × Value), fun g vs A => vs = [.agg (nodeC g.1).toArray, .agg (nodeC g.2).toArray] ∧ SlB A g.1.2 g.1.1.data ∧ SlB A g.2.2 g.2.1.data, fun g _ A v A' => A' = A ∧ v = .bool (decide (g.1.1 = g.2.1))⟩

set_option maxRecDepth 100000 in
set_option maxHeartbeats 0 in
theorem sameNode2_ok : FOk Tryz.prog 56 sameNode2S := by
  refine fok_v mixed fun ⟨⟨⟨p, d, ⟨s1, s2, s3, s4, s5, s6, s7, s8, s9, s10⟩⟩, vd⟩, ⟨⟨q, e, ⟨u1, u2, u3, u4, u5, u6, u7, u8, u9, u10⟩⟩, ve⟩⟩ vs A hp => ?_
  obtain ⟨rfl, hd, he⟩ : vs = [.agg #[.string p, vd, .int .i64 s1, .int .i64 s2, .int .i64 s3, .int .i64 s4, .int .i64 s5, .int .i64 s6, .int .i64 s7, .int .i64 s8, .int .i64 s9, .int .i64 s10], .agg #[.string q, ve, .int .i64 u1, .int .i64 u2, .int .i64 u3, .int .i64 u4, .int .i64 u5, .int .i64 u6, .int .i64 u7, .int .i64 u8, .int .i64 u9, .int .i64 u10]] ∧ SlB A vd d ∧ SlB A ve e := hp
  obtain ⟨ad, cd, rfl⟩ := hd.1.form
  obtain ⟨ae, ce, rfl⟩ := he.1.form
  have hCt : CTSound Tryz.prog (lookC [specE 9 sameBytesS] noC) := lookC_sound (noC_sound _) (fun x hx => by
    simp only [List.mem_singleton] at hx
    subst hx; exact specE_ok sameBytes_ok)
  refine ⟨_, noL, 60, hCt, noL_sound _, fun blk os out tape D hD => ?_⟩
  have hend : ∀ b : Bool, (b = true ↔ ((p = q ∧ d = e) ∧ ((s1 = u1 ∧ s2 = u2 ∧ s3 = u3 ∧ s4 = u4 ∧ s5 = u5) ∧ s6 = u6 ∧ s7 = u7 ∧ s8 = u8 ∧ s9 = u9 ∧ s10 = u10))) → sameNode2S.post ⟨⟨⟨p, d, ⟨s1, s2, s3, s4, s5, s6, s7, s8, s9, s10⟩⟩, .slice ad d.length cd⟩, ⟨⟨q, e, ⟨u1, u2, u3, u4, u5, u6, u7, u8, u9, u10⟩⟩, .slice ae e.length ce⟩⟩ [] A (.bool b) A := fun b hb => by
    refine ⟨rfl, ?_⟩
    congr 1
    rw [Bool.eq_iff_iff, hb, decide_eq_true_iff]
    simp only [ToldD.mk.injEq, StatD.mk.injEq]
    constructor
    · rintro ⟨⟨h1, h8⟩, ⟨h2, h3, h4, h5, h6⟩, h7⟩
      exact ⟨h1, h8, h2, h3, h4, h5, h6, h7⟩
    · rintro ⟨h1, h8, h2, h3, h4, h5, h6, h7⟩
      exact ⟨⟨h1, h8⟩, ⟨h2, h3, h4, h5, h6⟩, h7⟩
  conv => lhs; whnf
  refine split_b (fun hb => ?_) (fun hb => ?_) <;> (conv => lhs; whnf)
  rotate_left
  · exact (hD _).2 (hend false ⟨fun h => (by cases h), fun h => absurd (congrArg (fun x : ByteArray => x.data.toList) h.1.1) (beqL_ff.1 hb)⟩)
  have hpq : p = q := bytes_ext (beqL_iff.1 hb)
  refine (hD _).2 ⟨(d, e), ⟨_, _, rfl, hd, he⟩, fun v A' hq => ?_⟩
  obtain ⟨hA, rfl⟩ : A = A' ∧ v = .bool (decide (d = e)) := ⟨hq.1.symm, hq.2⟩
  subst hA
  conv => lhs; whnf
  refine split_dec (fun hde => ?_) (fun hde => ?_) <;> (conv => lhs; whnf)
  rotate_left
  · exact (hD _).2 (hend false ⟨fun h => (by cases h), fun h => absurd h.1.2 hde⟩)
  refine go_D hD (by kernel_rfl) ?_
  conv => lhs; whnf
  exact (hD _).2 (hend _ (by
    simp only [cond_true, Bool.and_eq_true, decide_eq_true_iff]
    constructor
    · intro h
      exact ⟨⟨hpq, hde⟩, by simp at h; omega⟩
    · rintro ⟨-, ⟨rfl, rfl, rfl, rfl, rfl⟩, rfl, rfl, rfl, rfl, rfl⟩
      simp))

end
end Go.Proofs.YthbaimobihmhiaaGreatDoor

namespace Go.Proofs.YthbaimobihmhiaaGreatDoor
open Go.Sx Go.RowKit
noncomputable section
open Classical

def sameNodesS : FSpec := ⟨List (ToldD × Value) × List (ToldD × Value), fun g vs A => ∃ x y, vs = [x, y] ∧ NodesR A x g.1 ∧ NodesR A y g.2 ∧ g.1.length ≤ 1000000 ∧ g.2.length ≤ 1000000,
  fun g _ A v A' => A' = A ∧ v = .bool (decide (g.1.map (·.1) = g.2.map (·.1)))⟩

set_option maxRecDepth 100000 in
set_option maxHeartbeats 0 in
theorem sameNodes_ok : FOk Tryz.prog 27 sameNodesS := by
  refine fok_v mixed fun ⟨ls, bs⟩ vs A hp => ?_
  obtain ⟨x, y, rfl, ⟨⟨ao, c, rfl, hc, _, ha1, ha2, ha3⟩, hda⟩, ⟨⟨bo, d, rfl, hd, _, hb1, hb2, hb3⟩, hdb⟩, hl1, hl2⟩ : ∃ x y, vs = [x, y] ∧ NodesR A x ls ∧ NodesR A y bs ∧ ls.length ≤ 1000000 ∧ bs.length ≤ 1000000 := hp
  have hC : CTSound Tryz.prog (lookC [specE 56 sameNode2S] noC) := lookC_sound (noC_sound _) (fun x hx => by
    simp only [List.mem_singleton] at hx
    subst hx; exact specE_ok sameNode2_ok)
  refine ⟨_, tabO Tryz.prog _ noL 60 [(27, 0)], 60, hC, tabO_sound mixed hC (noL_sound _) _ _, fun blk os out tape D hD => ?_⟩
  conv => lhs; whnf
  refine split_b (fun hb => ?_) (fun hb => ?_) <;> (conv => lhs; whnf)
  · refine (hD _).2 ⟨rfl, ?_⟩
    have : ls.map (·.1) ≠ bs.map (·.1) := fun e => by
      have e2 := congrArg List.length e
      rw [List.length_map, List.length_map] at e2
      simp [e2] at hb
    simp [this]
  · have hlen : ls.length = bs.length := by
      have : (ls.length : Int) = bs.length := by simpa using hb
      omega
    refine (hD _).2 ⟨cnt A 5 [0, 1] [] ls.length fun k => (ls.take k).map (·.1) = (bs.take k).map (·.1), ⟨(0 : Nat), ⟨Nat.zero_le _, rfl⟩, ⟨rfl, trivial⟩, trivial, rfl⟩, fun (k : Nat) hk => ⟨⟨trivial, trivial⟩, trivial, ?_⟩⟩
    simp only [cnt] at hk
    conv => lhs; whnf
    refine split_dec (fun hlt => ?_) (fun hb => ?_) <;> (conv => lhs; whnf)
    · have hlt : k < ls.length := by omega
      have hlt2 : k < bs.length := by omega
      obtain ⟨g, o, rfl, hra⟩ := Sl.at_ hc ha1 ha2 ha3 (by omega)
      obtain ⟨g', o', rfl, hrb⟩ := Sl.at_ hd hb1 hb2 hb3 (by omega)
      have r1 := row_at (enc := nodeC) (fun _ => rfl) hra k hlt rfl
      have r2 := row_at (enc := nodeC) (fun _ => rfl) hrb k hlt2 rfl
      have d1 := hda ls[k] (List.getElem_mem hlt)
      have d2 := hdb bs[k] (List.getElem_mem hlt2)
      have i1 : (0 : Int) ≤ (k : Int) ∧ (k : Int) < (ls.length : Int) := by omega
      have i2 : (0 : Int) ≤ (k : Int) ∧ (k : Int) < (bs.length : Int) := by omega
      have hx : ∃ x, x = ls[k] := ⟨_, rfl⟩
      have hy : ∃ y, y = bs[k] := ⟨_, rfl⟩
      obtain ⟨⟨⟨p, e, ⟨s1, s2, s3, s4, s5, s6, s7, s8, s9, s10⟩⟩, vd⟩, hx⟩ := hx
      obtain ⟨⟨⟨q, f, ⟨u1, u2, u3, u4, u5, u6, u7, u8, u9, u10⟩⟩, ve⟩, hy⟩ := hy
      rw [← hx] at r1 d1
      rw [← hy] at r2 d2
      have r1 : A.rd g (o + k * 12) 12 = some [.string p, vd, .int .i64 s1, .int .i64 s2, .int .i64 s3, .int .i64 s4, .int .i64 s5, .int .i64 s6, .int .i64 s7, .int .i64 s8, .int .i64 s9, .int .i64 s10] := r1
      have r2 : A.rd g' (o' + k * 12) 12 = some [.string q, ve, .int .i64 u1, .int .i64 u2, .int .i64 u3, .int .i64 u4, .int .i64 u5, .int .i64 u6, .int .i64 u7, .int .i64 u8, .int .i64 u9, .int .i64 u10] := r2
      dsimp only at d1 d2
      obtain ⟨ad, cd, rfl⟩ := d1.1.form
      obtain ⟨ae, ce, rfl⟩ := d2.1.form
      conv => lhs; whnf
      repeat (first | refine go_in i1 ?_ | refine go_in i2 ?_ | refine go_rd r1 ?_ | refine go_rd r2 ?_
              conv => lhs; whnf)
      refine (hD _).2 ⟨((⟨p, e, ⟨s1, s2, s3, s4, s5, s6, s7, s8, s9, s10⟩⟩, .slice ad e.length cd), (⟨q, f, ⟨u1, u2, u3, u4, u5, u6, u7, u8, u9, u10⟩⟩, .slice ae f.length ce)), ⟨rfl, d1, d2⟩, fun v A9 hq => ?_⟩
      obtain ⟨h9, hv⟩ : A = A9 ∧ v = .bool (decide ((⟨p, e, ⟨s1, s2, s3, s4, s5, s6, s7, s8, s9, s10⟩⟩ : ToldD) = ⟨q, f, ⟨u1, u2, u3, u4, u5, u6, u7, u8, u9, u10⟩⟩)) := ⟨hq.1.symm, hq.2⟩
      subst h9
      have hx1 : ls[k].1 = ⟨p, e, ⟨s1, s2, s3, s4, s5, s6, s7, s8, s9, s10⟩⟩ := by rw [← hx]
      have hy1 : bs[k].1 = ⟨q, f, ⟨u1, u2, u3, u4, u5, u6, u7, u8, u9, u10⟩⟩ := by rw [← hy]
      by_cases he : (⟨p, e, ⟨s1, s2, s3, s4, s5, s6, s7, s8, s9, s10⟩⟩ : ToldD) = ⟨q, f, ⟨u1, u2, u3, u4, u5, u6, u7, u8, u9, u10⟩⟩
      · have hv : v = .bool true := by rw [hv, decide_eq_true he]
        subst hv
        conv => lhs; whnf
        refine (hD _).2 ⟨(k + 1 : Nat), ⟨⟨by omega, ?_⟩, ⟨inc_slot (by omega), trivial⟩, trivial, rfl⟩, ?_, ⟨same1 rfl rfl, same1 rfl rfl, trivial⟩, trivial⟩
        · show (ls.take (k + 1)).map (·.1) = (bs.take (k + 1)).map (·.1)
          rw [List.take_succ_eq_append_getElem hlt, List.take_succ_eq_append_getElem hlt2, List.map_append, List.map_append, hk.2, List.map_singleton, List.map_singleton, hx1, hy1, he]
        · show ls.length - (k + 1) < ls.length - k
          omega
      · have hv : v = .bool false := by rw [hv, decide_eq_false he]
        subst hv
        have hend : sameNodesS.post (ls, bs) [] A (.bool false) A := by
          refine ⟨rfl, ?_⟩
          have : ls.map (·.1) ≠ bs.map (·.1) := fun e2 => he (by
            have h1 : (ls.map (·.1))[k]? = (bs.map (·.1))[k]? := by rw [e2]
            rw [List.getElem?_map, List.getElem?_map, List.getElem?_eq_getElem hlt, List.getElem?_eq_getElem hlt2, Option.map_some, Option.map_some, hx1, hy1] at h1
            injection h1)
          show Value.bool false = .bool (decide (ls.map (·.1) = bs.map (·.1)))
          rw [decide_eq_false this]
        conv => lhs; whnf
        exact (hD _).2 hend
    · refine (hD _).2 ⟨rfl, ?_⟩
      have h1 : k = ls.length := by omega
      have : ls.map (·.1) = bs.map (·.1) := by
        have := hk.2
        rw [h1, List.take_length, hlen, List.take_length] at this
        exact this
      simp [this]

def sameSitsS : FSpec := ⟨List SitD × List SitD, fun g vs A => ∃ x y, vs = [x, y] ∧ Sl A 3 g.1.length x (g.1.flatMap sitC) ∧ Sl A 3 g.2.length y (g.2.flatMap sitC) ∧ g.1.length ≤ 1000000 ∧ g.2.length ≤ 1000000,
  fun g _ A v A' => A' = A ∧ v = .bool (decide (g.1 = g.2))⟩

set_option maxRecDepth 100000 in
set_option maxHeartbeats 0 in
theorem sameSits_ok : FOk Tryz.prog 28 sameSitsS := by
  refine fok_v mixed fun ⟨ls, bs⟩ vs A hp => ?_
  obtain ⟨x, y, rfl, ⟨ao, c, rfl, hc, _, ha1, ha2, ha3⟩, ⟨bo, d, rfl, hd, _, hb1, hb2, hb3⟩, hl1, hl2⟩ : ∃ x y, vs = [x, y] ∧ Sl A 3 ls.length x (ls.flatMap sitC) ∧ Sl A 3 bs.length y (bs.flatMap sitC) ∧ ls.length ≤ 1000000 ∧ bs.length ≤ 1000000 := hp
  refine ⟨noC, tabO Tryz.prog noC noL 60 [(28, 0)], 60, noC_sound _, tabO_sound mixed (noC_sound _) (noL_sound _) _ _, fun blk os out tape D hD => ?_⟩
  conv => lhs; whnf
  refine split_b (fun hb => ?_) (fun hb => ?_) <;> (conv => lhs; whnf)
  · refine (hD _).2 ⟨rfl, ?_⟩
    have : ls ≠ bs := fun e => by subst e; simp at hb
    simp [this]
  · have hlen : ls.length = bs.length := by
      have : (ls.length : Int) = bs.length := by simpa using hb
      omega
    refine (hD _).2 ⟨cnt A 5 [0, 1] [] ls.length fun k => ls.take k = bs.take k, ⟨(0 : Nat), ⟨Nat.zero_le _, rfl⟩, ⟨rfl, trivial⟩, trivial, rfl⟩, fun (k : Nat) hk => ⟨⟨trivial, trivial⟩, trivial, ?_⟩⟩
    simp only [cnt] at hk
    conv => lhs; whnf
    refine split_dec (fun hlt => ?_) (fun hb => ?_) <;> (conv => lhs; whnf)
    · have hlt : k < ls.length := by omega
      have hlt2 : k < bs.length := by omega
      obtain ⟨g, o, rfl, hra⟩ := Sl.at_ hc ha1 ha2 ha3 (by omega)
      obtain ⟨g', o', rfl, hrb⟩ := Sl.at_ hd hb1 hb2 hb3 (by omega)
      have r1 := row_at (enc := sitC) (fun _ => rfl) hra k hlt rfl
      have r2 := row_at (enc := sitC) (fun _ => rfl) hrb k hlt2 rfl
      have i1 : (0 : Int) ≤ (k : Int) ∧ (k : Int) < (ls.length : Int) := by omega
      have i2 : (0 : Int) ≤ (k : Int) ∧ (k : Int) < (bs.length : Int) := by omega
      obtain ⟨⟨s1, s2, s3⟩, hx⟩ : ∃ x, x = ls[k] := ⟨_, rfl⟩
      obtain ⟨⟨u1, u2, u3⟩, hy⟩ : ∃ y, y = bs[k] := ⟨_, rfl⟩
      rw [← hx] at r1
      rw [← hy] at r2
      have r1 : A.rd g (o + k * 3) 3 = some [.int .i64 s1, .int .i64 s2, .int .i64 s3] := r1
      have r2 : A.rd g' (o' + k * 3) 3 = some [.int .i64 u1, .int .i64 u2, .int .i64 u3] := r2
      conv => lhs; whnf
      repeat (first | refine go_in i1 ?_ | refine go_in i2 ?_ | refine go_rd r1 ?_ | refine go_rd r2 ?_ | refine go_D hD (by kernel_rfl) ?_
              conv => lhs; whnf)
      refine split_b (fun hb => ?_) (fun hb => ?_) <;> (conv => lhs; whnf)
      · refine (hD _).2 ⟨rfl, ?_⟩
        have hne : ls ≠ bs := fun e => by
          subst e
          rw [← hx] at hy
          injection hy with e1 e2 e3
          subst e1; subst e2; subst e3
          simp at hb
        show Value.bool false = .bool (decide (ls = bs))
        rw [decide_eq_false hne]
      · have he : s1 = u1 ∧ s2 = u2 ∧ s3 = u3 := by
          simp at hb
          omega
        obtain ⟨e1, e2, e3⟩ := he
        subst e1; subst e2; subst e3
        refine (hD _).2 ⟨(k + 1 : Nat), ⟨⟨by omega, ?_⟩, ⟨inc_slot (by omega), trivial⟩, trivial, rfl⟩, ?_, ⟨same1 rfl rfl, same1 rfl rfl, trivial⟩, trivial⟩
        · show ls.take (k + 1) = bs.take (k + 1)
          rw [List.take_succ_eq_append_getElem hlt, List.take_succ_eq_append_getElem hlt2, hk.2, ← hx, ← hy]
        · show ls.length - (k + 1) < ls.length - k
          omega
    · refine (hD _).2 ⟨rfl, ?_⟩
      have h1 : k = ls.length := by omega
      have : ls = bs := by
        have := hk.2
        rw [h1, List.take_length, hlen, List.take_length] at this
        exact this
      simp [this]

end
end Go.Proofs.YthbaimobihmhiaaGreatDoor

namespace Go.Proofs.YthbaimobihmhiaaGreatDoor
open Go.Sx Go.RowKit
noncomputable section
open Classical

/-! ### Members -/

def sameMembersS : FSpec := ⟨List MemD × List MemD, fun g vs A => ∃ x y, vs = [x, y] ∧ MemR A x g.1 ∧ MemR A y g.2, fun g _ A v A' => A' = A ∧ v = .bool (decide (g.1 = g.2))⟩

theorem mem_at2 {A : Arena} {g o n : Nat} {l : List MemD} (h : A.rd g o (n * 4) = some (memCells l)) (k : Nat) (hk : k < l.length) (hn : n = l.length) : A.rd g (o + k * 4) 4 = some [.int .i64 l[k].id, .int .u8 l[k].role, .int .i64 l[k].weight, .int .i64 l[k].group] := by
  have := rows_at (rows := l.map MemD.cells) h (memCells_rows l) k (by simpa using hk) (by simpa using hn)
  simpa [MemD.cells] using this

set_option maxRecDepth 100000 in
set_option maxHeartbeats 0 in
theorem sameMembers_ok : FOk Tryz.prog 57 sameMembersS := by
  refine fok_v mixed fun ⟨ls, bs⟩ vs A hp => ?_
  simp only [sameMembersS] at hp
  obtain ⟨x, y, rfl, ⟨⟨ao, c, rfl, hc, _, ha1, ha2, ha3⟩, hxl⟩, ⟨bo, d, rfl, hd, _, hb1, hb2, hb3⟩, hyl⟩ := hp
  refine ⟨noC, tabO Tryz.prog noC noL 60 [(57, 0)], 60, noC_sound _, tabO_sound mixed (noC_sound _) (noL_sound _) _ _, fun blk os out tape D hD => ?_⟩
  conv => lhs; whnf
  refine split_b (fun hb => ?_) (fun hb => ?_) <;> (conv => lhs; whnf)
  · refine (hD _).2 ⟨rfl, ?_⟩
    have : ls ≠ bs := fun e => by subst e; simp at hb
    simp [this]
  · have hlen : ls.length = bs.length := by
      have : (ls.length : Int) = bs.length := by simpa using hb
      omega
    refine (hD _).2 ⟨cnt A 5 [0, 1] [] ls.length fun k => ls.take k = bs.take k, ⟨(0 : Nat), ⟨Nat.zero_le _, rfl⟩, ⟨rfl, trivial⟩, trivial, rfl⟩, fun (k : Nat) hk => ⟨⟨trivial, trivial⟩, trivial, ?_⟩⟩
    simp only [cnt] at hk
    conv => lhs; whnf
    refine split_dec (fun hlt => ?_) (fun hb => ?_) <;> (conv => lhs; whnf)
    · have hlt : k < ls.length := by omega
      obtain ⟨g, o, rfl, hra⟩ := Sl.at_ hc ha1 ha2 ha3 (by omega)
      obtain ⟨g', o', rfl, hrb⟩ := Sl.at_ hd hb1 hb2 hb3 (by omega)
      conv => lhs; whnf
      refine split_in (fun _ _ => ?_) (fun h => by omega)
      conv => lhs; whnf
      refine go_rd (mem_at2 hra k hlt rfl) ?_
      conv => lhs; whnf
      refine split_in (fun _ _ => ?_) (fun h => by omega)
      conv => lhs; whnf
      refine go_rd (mem_at2 hrb k (by omega) rfl) ?_
      conv => lhs; whnf
      refine go_D hD (by kernel_rfl) ?_
      conv => lhs; whnf
      refine split_b (fun hb => ?_) (fun hb => ?_) <;> (conv => lhs; whnf)
      · refine (hD _).2 ⟨rfl, ?_⟩
        have : ls ≠ bs := fun e => by subst e; simp at hb
        simp [this]
      · have he : ls[k] = bs[k] := by
          simp only [Bool.not_eq_false', Bool.and_eq_true, decide_eq_true_eq, Bool.and_true] at hb
          obtain ⟨h1, h2, h3, h4⟩ := hb
          cases hl : ls[k]; cases hr : bs[k]
          simp only [hl, hr] at h1 h2 h3 h4
          subst h1 h2 h3 h4; rfl
        refine (hD _).2 ⟨(k + 1 : Nat), ⟨⟨by omega, ?_⟩, ⟨inc_slot (by omega), trivial⟩, trivial, rfl⟩, ?_, ⟨rfl, rfl, trivial⟩, trivial⟩
        · show ls.take (k + 1) = bs.take (k + 1)
          rw [List.take_succ_eq_append_getElem hlt, List.take_succ_eq_append_getElem (by omega), hk.2, he]
        · show ls.length - (k + 1) < ls.length - k
          omega
    · refine (hD _).2 ⟨rfl, ?_⟩
      have h1 : k = ls.length := by omega
      have : ls = bs := by
        have := hk.2
        rw [h1, List.take_length, hlen, List.take_length] at this
        exact this
      simp [this]

end
end Go.Proofs.YthbaimobihmhiaaGreatDoor

namespace Go.Proofs.YthbaimobihmhiaaGreatDoor
open Go.Sx Go.RowKit
noncomputable section
open Classical

theorem getI_len {l : List UInt8} {ns : List ToldD} {ss : List SitD} {ver : Int} {ms : List MemD} {f t : Int} (h : getI l = some (ns, ss, ver, ms, f, t)) : ns.length ≤ 500 ∧ ss.length ≤ 200 := by
  unfold getI at h
  split at h
  · cases h
  · split at h
    · unfold nodesI sitsI tailI at h
      split at h
      · cases h
      · split at h
        · rename_i hc
          injection h with h
          injection h with h1 h
          injection h with h2 h
          subst h1; subst h2
          exact ⟨hc.2.2.1, hc.2.2.2.1⟩
        · cases h
    · cases h

def lgetsS : FSpec := ⟨List UInt8, fun l vs A => ∃ v, vs = [v] ∧ SlB A v l, fun _ _ A v A' => A.Sub A' ∧ v = .bool true⟩

set_option maxRecDepth 100000 in
set_option maxHeartbeats 0 in
theorem lgets_ok : FOk Tryz.prog 4 lgetsS := by
  refine fok_v mixed fun (l : List UInt8) vs A hp => ?_
  obtain ⟨x, rfl, hX⟩ : ∃ x, vs = [x] ∧ SlB A x l := hp
  obtain ⟨ax, cx, hxf⟩ := hX.1.form
  subst hxf
  have hC : CTSound Tryz.prog (lookC [specE 6 awakeS, specE 25 getS, specE 26 getS, specE 27 sameNodesS, specE 28 sameSitsS, specE 57 sameMembersS] noC) := lookC_sound (noC_sound _) (fun x hx => by
    simp only [List.mem_cons, List.not_mem_nil, or_false] at hx
    rcases hx with rfl | rfl | rfl | rfl | rfl | rfl
    · exact specE_ok awake_ok
    · exact specE_ok get_ok
    · exact specE_ok rget_ok
    · exact specE_ok sameNodes_ok
    · exact specE_ok sameSits_ok
    · exact specE_ok sameMembers_ok)
  refine ⟨_, noL, 60, hC, noL_sound _, fun blk os out tape D hD => ?_⟩
  conv => lhs; whnf
  refine split_dec (fun g1 => ?_) (fun g1 => ?_)
  · have hl0 := hX
    conv => lhs; whnf
    repeat (first | refine go_D hD rfl ?_
            conv => lhs; whnf)
    refine (hD _).2 ⟨(), rfl, fun v A' hq => ?_⟩
    have hq : A' = A ∧ v = .bool true := hq
    have h9 := hq.1.symm
    have hv := hq.2
    subst h9
    subst hv
    have hend : lgetsS.post l [] A (.bool true) A := ⟨Arena.Sub.refl _, rfl⟩
    conv => lhs; whnf
    repeat (first | refine go_D hD rfl ?_
            conv => lhs; whnf)
    exact (hD _).2 hend
  have hl6 : l.length ≤ 60000 := by
    have g1 : ¬ (60000 : Int) < (l.length : Int) := g1
    omega
  conv => lhs; whnf
  repeat (first | refine go_D hD rfl ?_
          conv => lhs; whnf)
  refine (hD _).2 ⟨l, ⟨_, rfl, hX, by omega⟩, fun v A1 hq => ?_⟩
  obtain ⟨s1, hno1, hok1⟩ : GetIR l A v A1 := hq
  by_cases hg : getI l = none
  · have hv := hno1 hg
    subst hv
    conv => lhs; whnf
    repeat (first | refine go_D hD rfl ?_
            conv => lhs; whnf)
    refine (hD _).2 ⟨l, ⟨_, rfl, hX.sub s1, by omega⟩, fun v A2 hq => ?_⟩
    obtain ⟨s2, hno2, hok2⟩ : GetIR l A1 v A2 := hq
    have hv := hno2 hg
    subst hv
    conv => lhs; whnf
    repeat (first | refine go_D hD rfl ?_
            conv => lhs; whnf)
    refine (hD _).2 ⟨(([], []) : List (ToldD × Value) × List (ToldD × Value)), ⟨_, _, rfl, ⟨Sl.nil _ _, fun x hx => by cases hx⟩, ⟨Sl.nil _ _, fun x hx => by cases hx⟩, by decide, by decide⟩, fun v A' hq => ?_⟩
    have hq : A' = A2 ∧ v = .bool (decide ((([] : List (ToldD × Value)).map (·.1) = ([] : List (ToldD × Value)).map (·.1)))) := hq
    rw [decide_eq_true rfl] at hq
    have h9 := hq.1.symm
    have hv := hq.2
    subst h9
    subst hv
    conv => lhs; whnf
    repeat (first | refine go_D hD rfl ?_
            conv => lhs; whnf)
    refine (hD _).2 ⟨(([], []) : List SitD × List SitD), ⟨_, _, rfl, Sl.nil _ _, Sl.nil _ _, by decide, by decide⟩, fun v A' hq => ?_⟩
    have hq : A' = A2 ∧ v = .bool (decide ((([] : List SitD) = []))) := hq
    rw [decide_eq_true rfl] at hq
    have h9 := hq.1.symm
    have hv := hq.2
    subst h9
    subst hv
    conv => lhs; whnf
    repeat (first | refine go_D hD rfl ?_
            conv => lhs; whnf)
    refine (hD _).2 ⟨(([], []) : List MemD × List MemD), ⟨_, _, rfl, ⟨Sl.nil _ _, by decide⟩, ⟨Sl.nil _ _, by decide⟩⟩, fun v A' hq => ?_⟩
    have hq : A' = A2 ∧ v = .bool (decide ((([] : List MemD) = []))) := hq
    rw [decide_eq_true rfl] at hq
    have h9 := hq.1.symm
    have hv := hq.2
    subst h9
    subst hv
    conv => lhs; whnf
    repeat (first | refine go_D hD rfl ?_
            conv => lhs; whnf)
    refine (hD _).2 ⟨(), rfl, fun v A' hq => ?_⟩
    have hq : A' = A2 ∧ v = .bool true := hq
    have h9 := hq.1.symm
    have hv := hq.2
    subst h9
    subst hv
    have hend : lgetsS.post l [] A (.bool true) A2 := ⟨s1.trans s2, rfl⟩
    conv => lhs; whnf
    repeat (first | refine go_D hD rfl ?_
            conv => lhs; whnf)
    exact (hD _).2 hend
  · have hx := Option.ne_none_iff_exists'.1 hg
    obtain ⟨⟨ns, ss, ver, ms, f, t⟩, hg⟩ := hx
    have h1 := hok1 ns ss ver ms f t hg
    obtain ⟨xs, x, y, z, hxs, hv, hN1, hS1, hM1⟩ := h1
    obtain ⟨a1, c1, e1⟩ := hN1.1.form
    obtain ⟨a2, c2, e2⟩ := hS1.1.form
    obtain ⟨a3, c3, e3⟩ := hM1.1.form
    subst e1; subst e2; subst e3
    subst hv
    conv => lhs; whnf
    repeat (first | refine go_D hD rfl ?_
            conv => lhs; whnf)
    refine (hD _).2 ⟨l, ⟨_, rfl, hX.sub s1, by omega⟩, fun v A2 hq => ?_⟩
    obtain ⟨s2, hno2, hok2⟩ : GetIR l A1 v A2 := hq
    have h2 := hok2 ns ss ver ms f t hg
    obtain ⟨xs2, x, y, z, hxs2, hv, hN2, hS2, hM2⟩ := h2
    obtain ⟨b1, d1, e1⟩ := hN2.1.form
    obtain ⟨b2, d2, e2⟩ := hS2.1.form
    obtain ⟨b3, d3, e3⟩ := hM2.1.form
    subst e1; subst e2; subst e3
    subst hv
    have u1 : (A1.minus A).Sub A2 := (minus_sub _ _).trans s2
    have u2 : (A2.minus A1).Sub A2 := minus_sub _ _
    have hll : xs.length ≤ 1000000 ∧ xs2.length ≤ 1000000 ∧ ss.length ≤ 1000000 := by
      have h := getI_len hg
      have q1 : xs.length = ns.length := by rw [← hxs, List.length_map]
      have q2 : xs2.length = ns.length := by rw [← hxs2, List.length_map]
      omega
    conv => lhs; whnf
    repeat (first | refine go_D hD rfl ?_
            conv => lhs; whnf)
    refine (hD _).2 ⟨((xs, xs2) : List (ToldD × Value) × List (ToldD × Value)), ⟨_, _, rfl, ⟨hN1.1.sub u1, fun x hx => (hN1.2 x hx).sub u1⟩, ⟨hN2.1.sub u2, fun x hx => (hN2.2 x hx).sub u2⟩, hll.1, hll.2.1⟩, fun v A' hq => ?_⟩
    have hq : A' = A2 ∧ v = .bool (decide ((xs.map (·.1) = xs2.map (·.1)))) := hq
    rw [decide_eq_true (hxs.trans hxs2.symm)] at hq
    have h9 := hq.1.symm
    have hv := hq.2
    subst h9
    subst hv
    conv => lhs; whnf
    repeat (first | refine go_D hD rfl ?_
            conv => lhs; whnf)
    refine (hD _).2 ⟨((ss, ss) : List SitD × List SitD), ⟨_, _, rfl, hS1.1.sub u1, hS2.1.sub u2, hll.2.2, hll.2.2⟩, fun v A' hq => ?_⟩
    have hq : A' = A2 ∧ v = .bool (decide ((ss = ss))) := hq
    rw [decide_eq_true rfl] at hq
    have h9 := hq.1.symm
    have hv := hq.2
    subst h9
    subst hv
    conv => lhs; whnf
    refine go_dec rfl ?_
    conv => lhs; whnf
    repeat (first | refine go_D hD rfl ?_
            conv => lhs; whnf)
    refine (hD _).2 ⟨((ms, ms) : List MemD × List MemD), ⟨_, _, rfl, hM1.sub u1, hM2.sub u2⟩, fun v A' hq => ?_⟩
    have hq : A' = A2 ∧ v = .bool (decide ((ms = ms))) := hq
    rw [decide_eq_true rfl] at hq
    have h9 := hq.1.symm
    have hv := hq.2
    subst h9
    subst hv
    conv => lhs; whnf
    refine go_dec rfl ?_
    conv => lhs; whnf
    refine go_dec rfl ?_
    conv => lhs; whnf
    repeat (first | refine go_D hD rfl ?_
            conv => lhs; whnf)
    refine (hD _).2 ⟨(), rfl, fun v A' hq => ?_⟩
    have hq : A' = A2 ∧ v = .bool true := hq
    have h9 := hq.1.symm
    have hv := hq.2
    subst h9
    subst hv
    have hend : lgetsS.post l [] A (.bool true) A2 := ⟨s1.trans s2, rfl⟩
    conv => lhs; whnf
    repeat (first | refine go_D hD rfl ?_
            conv => lhs; whnf)
    exact (hD _).2 hend

end
end Go.Proofs.YthbaimobihmhiaaGreatDoor

namespace Go.Sx
noncomputable section
open Go.RowKit Go.ChangeShapes Go.WideShapes

theorem list1 {α : Type} {l : List α} (h : l.length = 1) : ∃ v0, l = [v0] := by
  match l, h with
  | [v0], _ => exact ⟨v0, rfl⟩

theorem list2 {α : Type} {l : List α} (h : l.length = 2) : ∃ v0 v1, l = [v0, v1] := by
  match l, h with
  | [v0, v1], _ => exact ⟨v0, v1, rfl⟩

theorem list3 {α : Type} {l : List α} (h : l.length = 3) : ∃ v0 v1 v2, l = [v0, v1, v2] := by
  match l, h with
  | [v0, v1, v2], _ => exact ⟨v0, v1, v2, rfl⟩

theorem list4 {α : Type} {l : List α} (h : l.length = 4) : ∃ v0 v1 v2 v3, l = [v0, v1, v2, v3] := by
  match l, h with
  | [v0, v1, v2, v3], _ => exact ⟨v0, v1, v2, v3, rfl⟩

theorem list5 {α : Type} {l : List α} (h : l.length = 5) : ∃ v0 v1 v2 v3 v4, l = [v0, v1, v2, v3, v4] := by
  match l, h with
  | [v0, v1, v2, v3, v4], _ => exact ⟨v0, v1, v2, v3, v4, rfl⟩

theorem list6 {α : Type} {l : List α} (h : l.length = 6) : ∃ v0 v1 v2 v3 v4 v5, l = [v0, v1, v2, v3, v4, v5] := by
  match l, h with
  | [v0, v1, v2, v3, v4, v5], _ => exact ⟨v0, v1, v2, v3, v4, v5, rfl⟩

theorem list7 {α : Type} {l : List α} (h : l.length = 7) : ∃ v0 v1 v2 v3 v4 v5 v6, l = [v0, v1, v2, v3, v4, v5, v6] := by
  match l, h with
  | [v0, v1, v2, v3, v4, v5, v6], _ => exact ⟨v0, v1, v2, v3, v4, v5, v6, rfl⟩

theorem list8 {α : Type} {l : List α} (h : l.length = 8) : ∃ v0 v1 v2 v3 v4 v5 v6 v7, l = [v0, v1, v2, v3, v4, v5, v6, v7] := by
  match l, h with
  | [v0, v1, v2, v3, v4, v5, v6, v7], _ => exact ⟨v0, v1, v2, v3, v4, v5, v6, v7, rfl⟩

theorem list15 {α : Type} {l : List α} (h : l.length = 15) : ∃ v0 v1 v2 v3 v4 v5 v6 v7 v8 v9 v10 v11 v12 v13 v14, l = [v0, v1, v2, v3, v4, v5, v6, v7, v8, v9, v10, v11, v12, v13, v14] := by
  match l, h with
  | [v0, v1, v2, v3, v4, v5, v6, v7, v8, v9, v10, v11, v12, v13, v14], _ => exact ⟨v0, v1, v2, v3, v4, v5, v6, v7, v8, v9, v10, v11, v12, v13, v14, rfl⟩

theorem list16 {α : Type} {l : List α} (h : l.length = 16) : ∃ v0 v1 v2 v3 v4 v5 v6 v7 v8 v9 v10 v11 v12 v13 v14 v15, l = [v0, v1, v2, v3, v4, v5, v6, v7, v8, v9, v10, v11, v12, v13, v14, v15] := by
  match l, h with
  | [v0, v1, v2, v3, v4, v5, v6, v7, v8, v9, v10, v11, v12, v13, v14, v15], _ => exact ⟨v0, v1, v2, v3, v4, v5, v6, v7, v8, v9, v10, v11, v12, v13, v14, v15, rfl⟩

theorem list18 {α : Type} {l : List α} (h : l.length = 18) : ∃ v0 v1 v2 v3 v4 v5 v6 v7 v8 v9 v10 v11 v12 v13 v14 v15 v16 v17, l = [v0, v1, v2, v3, v4, v5, v6, v7, v8, v9, v10, v11, v12, v13, v14, v15, v16, v17] := by
  match l, h with
  | [v0, v1, v2, v3, v4, v5, v6, v7, v8, v9, v10, v11, v12, v13, v14, v15, v16, v17], _ => exact ⟨v0, v1, v2, v3, v4, v5, v6, v7, v8, v9, v10, v11, v12, v13, v14, v15, v16, v17, rfl⟩

/-- All memory that lay, as an arena. -/
def allOf (W : World) : Arena := Arena.of fun k => W.heap[k]?

theorem cells_spot {W : World} {a : Addr} {n : Nat} {cs : List Value} (h : W.cells? 0 a n = some cs) (hn : 0 < n) : a.spot = none := by
  unfold World.cells? at h
  rw [if_pos (Nat.zero_le _)] at h
  have h1 := mapM_some_get h 0 0 (by simp [hn])
  have hl := mapM_some_length h
  rw [List.length_range] at hl
  have h2 : cs[0]? = some cs[0] := List.getElem?_eq_getElem (by omega)
  rw [h2] at h1
  unfold World.cell? Addr.add at h1
  simp only [if_true] at h1
  split at h1
  · split at h1
    · cases h1
    · rename_i h3
      cases hs : a.spot with
      | none => rfl
      | some s => rw [hs] at h3; simp at h3
  · cases h1

theorem cells_rd {W : World} {g o : Nat} {n : Nat} {cs : List Value} (h : W.cells? 0 ⟨g, o, none⟩ n = some cs) (hn : 0 < n) : (allOf W).rd g o n = some cs := by
  unfold World.cells? at h
  rw [if_pos (Nat.zero_le _)] at h
  have hl := mapM_some_length h
  rw [List.length_range] at hl
  have key : ∀ i, i < n → ∃ c t fz, W.heap[g]? = some (.cells c t fz) ∧ c[o + i]? = cs[i]? := fun i hi => by
    have h1 := mapM_some_get h i i (by simp [hi])
    have h2 : cs[i]? = some cs[i] := List.getElem?_eq_getElem (by omega)
    rw [h2] at h1
    unfold World.cell? at h1
    rw [add_none] at h1
    simp only at h1
    split at h1
    · rename_i c t fz hb
      simp only [Option.isSome_none, Bool.false_eq_true, if_false] at h1
      exact ⟨c, t, fz, hb, by rw [h1, h2]⟩
    · cases h1
  obtain ⟨c, t, fz, hb, _⟩ := key 0 hn
  have hle : o + n ≤ c.size := by
    obtain ⟨c', t', fz', hb', h3⟩ := key (n - 1) (by omega)
    rw [hb] at hb'
    injection hb' with hb'
    injection hb' with e1 e2 e3
    subst e1
    have h4 : cs[n - 1]? = some cs[n - 1] := List.getElem?_eq_getElem (by omega)
    rw [h4] at h3
    have := (Array.getElem?_eq_some_iff.1 h3).1
    omega
  rw [rd_mk (A := allOf W) (c := c) (t := t) (fz := fz) hb hle]
  congr 1
  refine List.ext_getElem? fun i => ?_
  by_cases hi : i < n
  · obtain ⟨c', t', fz', hb', h3⟩ := key i hi
    rw [hb] at hb'
    injection hb' with hb'
    injection hb' with e1 e2 e3
    subst e1
    rw [List.getElem?_take_of_lt hi, List.getElem?_drop, Array.getElem?_toList, h3]
  · rw [List.getElem?_eq_none (by simp; omega), List.getElem?_eq_none (by omega)]

theorem rd_join {A : Arena} {g o n m : Nat} {xs ys : List Value} (h1 : A.rd g o n = some xs) (h2 : A.rd g (o + n) m = some ys) : A.rd g o (n + m) = some (xs ++ ys) := by
  obtain ⟨c, t, fz, hb, hle, rfl⟩ := rd_some h1
  obtain ⟨c', t', fz', hb', hle', rfl⟩ := rd_some h2
  rw [hb] at hb'
  injection hb' with hb'
  injection hb' with e1 e2 e3
  subst e1
  rw [rd_mk hb (by omega), List.take_add, List.drop_drop]

section
variable {H : Type} {enc : TypeId × Value → H} {P : Program} {W : World}

/-- How cells are read here. -/
abbrev trodA (enc : TypeId × Value → H) (P : Program) (W : World) (n : Nat) (t : TypeId) (cs : List Value) : Option (DataW H × List MemPlace) := DataW.trod enc P W 0 (fun _ => true) true n t cs

/-- No row in it is longer than what can be reached. -/
def RFits (P : Program) (t : TypeId) (d : DataW H) : Prop := ∀ z ∈ d.weights P t, z ≤ 140737488351232

theorem weightsAll_mem {e : TypeId} : ∀ {l : List (DataW H)} {d : DataW H}, d ∈ l → ∀ z ∈ d.weights P e, z ∈ DataW.weightsAll P e l
  | [], d, h => by cases h
  | x :: l, d, h => fun z hz => by
    simp only [DataW.weightsAll, List.mem_append]
    rcases List.mem_cons.1 h with rfl | h
    · exact .inl hz
    · exact .inr (weightsAll_mem h z hz)

theorem weightsEach_mem : ∀ {ts : List TypeId} {l : List (DataW H)} {i : Nat} {t : TypeId} {d : DataW H}, ts[i]? = some t → l[i]? = some d → ∀ z ∈ d.weights P t, z ∈ DataW.weightsEach P ts l
  | [], _, _, _, _, h1, _ => by simp at h1
  | _ :: _, [], _, _, _, _, h2 => by simp at h2
  | t' :: ts, d' :: l, 0, t, d, h1, h2 => fun z hz => by
    simp only [List.getElem?_cons_zero, Option.some.injEq] at h1 h2
    subst h1; subst h2
    simp only [DataW.weightsEach, List.mem_append]
    exact .inl hz
  | t' :: ts, d' :: l, i + 1, t, d, h1, h2 => fun z hz => by
    simp only [List.getElem?_cons_succ] at h1 h2
    simp only [DataW.weightsEach, List.mem_append]
    exact .inr (weightsEach_mem h1 h2 z hz)

theorem rfits_at {ts : List TypeId} {l : List (DataW H)} (h : (DataW.weightsEach P ts l).all (· ≤ reachBytes) = true) (i : Nat) {t : TypeId} {d : DataW H} (h1 : ts[i]? = some t) (h2 : l[i]? = some d) : RFits P t d := fun z hz => by
  have h3 := List.all_eq_true.1 h z (weightsEach_mem h1 h2 z hz)
  have h4 : z ≤ reachBytes := by simpa using h3
  exact h4

/-- A slice's cell. -/
theorem slice_cell {t e : TypeId} (ht : P.underlying t = some (.slice e)) {r : Reach} {b : Nat} {v : Value} (h : Value.okWide P W r b t v) : v.cells.toList = [v] := by
  unfold Value.okWide at h
  rw [ht] at h
  simp only [Cell.okWide, Cell.ok, ht] at h
  cases v with
  | slice a l c => rfl
  | _ => exact h.elim

/-- A slice: its row, and each of its elements. -/
theorem slice_up {t e : TypeId} {es B : Nat} (ht : P.underlying t = some (.slice e)) (hes : P.cellsOf e = es) (hes0 : 0 < es) (hB : P.bytesOf e = B) {n : Nat} {x : DataW H × List MemPlace} {v : Value} (h : trodA enc P W n t [v] = some x) (hw : RFits P t x.1) :
    ∃ rows : List (List Value), Sl (allOf W) es rows.length v rows.flatten ∧ rows.length * B ≤ 140737488351232 ∧ ∀ r ∈ rows, r.length = es ∧ ∃ m y, m < n ∧ trodA enc P W m e r = some y ∧ RFits P e y.1 := by
  rcases DataW.trod_slice ht h with ⟨hn, _⟩ | ⟨a, len, cap, elems, rest, m, hm, hn, hx, _, hle, _, hel, hrd, hsp, _⟩
  · obtain rfl : v = .slice none 0 0 := by simpa using hn
    exact ⟨[], Sl.nil _ _, by simp, by simp⟩
  · obtain rfl : v = .slice (some a) len cap := by simpa using hn
    obtain ⟨hr1, hr2⟩ := hsp rfl
    subst hes
    have hone : ∀ i, i < len → ∃ cs y, W.cells? 0 (a.add (i * P.cellsOf e)) (P.cellsOf e) = some cs ∧ trodA enc P W m e cs = some y ∧ elems[i]? = some y := fun i hi => by
      have h1 := hrd i hi
      have h2 : elems[i]? = some elems[i] := List.getElem?_eq_getElem (by omega)
      rw [h2, Option.bind_eq_some_iff] at h1
      obtain ⟨cs, h3, h4⟩ := h1
      exact ⟨cs, _, h3, h4, h2⟩
    have hspot : 0 < cap → a.spot = none := fun hc => by
      by_cases h0 : 0 < len
      · obtain ⟨cs, y, h1, _⟩ := hone 0 h0
        rw [Nat.zero_mul] at h1
        exact cells_spot (a := a) (by simpa [Addr.add] using h1) hes0
      · have h1 := hr2 0 (by omega)
        have h2 : rest[0]? = some rest[0] := List.getElem?_eq_getElem (by omega)
        rw [h2, Option.bind_eq_some_iff] at h1
        obtain ⟨cs, h3, _⟩ := h1
        have h0 : len = 0 := by omega
        subst h0
        exact cells_spot (a := a) (by simpa [Addr.add] using h3) hes0
    have hfit : ∀ y ∈ elems, RFits P e y.1 := fun y hy z hz => by
      refine hw z ?_
      rw [hx]
      simp only [DataW.weights, ht, List.mem_cons, List.mem_append]
      exact .inr (.inl (weightsAll_mem (List.mem_map.2 ⟨y, hy, rfl⟩) z hz))
    have hrows : ∀ k, k ≤ len → ∃ rows : List (List Value), rows.length = k ∧ (0 < k → (allOf W).rd a.block a.off (k * P.cellsOf e) = some rows.flatten) ∧ ∀ r ∈ rows, r.length = P.cellsOf e ∧ ∃ m y, m < n ∧ trodA enc P W m e r = some y ∧ RFits P e y.1 := fun k => by
      induction k with
      | zero => exact fun _ => ⟨[], rfl, fun h => (by omega), by simp⟩
      | succ k ih =>
        intro hk
        obtain ⟨rows, r1, r2, r3⟩ := ih (by omega)
        obtain ⟨cs, y, h1, h2, h3⟩ := hone k (by omega)
        obtain ⟨g, o, s⟩ := a
        have hs := hspot (by omega)
        simp only at hs
        subst hs
        rw [add_none] at h1
        have h4 := cells_rd h1 hes0
        refine ⟨rows ++ [cs], by simp [r1], fun _ => ?_, fun r hr => ?_⟩
        · rw [List.flatten_append, Nat.succ_mul]
          simp only [List.flatten_cons, List.flatten_nil, List.append_nil]
          by_cases h0 : 0 < k
          · exact rd_join (r2 h0) h4
          · have h0 : k = 0 := by omega
            subst h0
            have : rows = [] := List.length_eq_zero_iff.1 r1
            subst this
            simpa using h4
        · rcases List.mem_append.1 hr with hr | hr
          · exact r3 r hr
          · rw [List.mem_singleton] at hr
            subst hr
            exact ⟨rd_len h4, m, y, by omega, h2, hfit y (List.mem_of_getElem? h3)⟩
    obtain ⟨rows, r1, r2, r3⟩ := hrows len (Nat.le_refl _)
    refine ⟨rows, ⟨some a, cap, by rw [r1], by omega, ?_, fun h => (by cases h), fun b hb hc => (by injection hb with hb; subst hb; exact hspot hc), fun h0 b hb => (by injection hb with hb; subst hb; rw [r1]; exact r2 (by omega))⟩, ?_, r3⟩
    · clear r1 r2
      induction rows with
      | nil => simp
      | cons r rows ih =>
        rw [List.flatten_cons, List.length_append, ih (fun x hx => r3 x (List.mem_cons_of_mem _ hx)), (r3 r (by simp)).1, List.length_cons, Nat.succ_mul]; omega
    · have h1 : (elems.length + rest.length) * P.bytesOf e ≤ 140737488351232 := by
        refine hw _ ?_
        rw [hx]
        simp [DataW.weights, ht]
      rw [hB] at h1
      refine Nat.le_trans (Nat.mul_le_mul_right B ?_) h1
      omega

/-- A struct: each of its fields. -/
theorem fields_up {t : TypeId} {fs : Array Field} (ht : P.underlying t = some (.struct fs)) {n : Nat} {x : DataW H × List MemPlace} {cs : List Value} (h : trodA enc P W n t cs = some x) (hw : RFits P t x.1) :
    cs.length = P.cellsOf t ∧ ∃ m, m < n ∧ ∀ (i : Nat) (f : Field), fs[i]? = some f → ∃ y, trodA enc P W m f.type ((cs.drop f.offset).take (P.cellsOf f.type)) = some y ∧ RFits P f.type y.1 := by
  obtain ⟨xs, m, hm, hx, hl, hlen, hf⟩ := DataW.trod_struct ht h
  refine ⟨hl, m, by omega, fun i f hi => ?_⟩
  have hi' : i < fs.size := (Array.getElem?_eq_some_iff.1 hi).1
  have h2 : xs[i]? = some xs[i] := List.getElem?_eq_getElem (by omega)
  refine ⟨xs[i], (hf i f hi).trans h2, fun z hz => hw z ?_⟩
  rw [hx]
  simp only [DataW.weights, ht]
  exact weightsEach_mem (i := i) (t := f.type) (d := xs[i].1) (by simp [hi]) (by simp [h2]) z hz

variable {n : Nat} {t : TypeId} {v : Value} {l : List Value}

/-- A field of one cell. -/
theorem up_one (hc : P.cellsOf t = 1) (h : ∃ y, trodA enc P W n t ((v :: l).take (P.cellsOf t)) = some y ∧ RFits P t y.1) : ∃ y, trodA enc P W n t [v] = some y ∧ RFits P t y.1 := by
  rw [hc] at h
  exact h

theorem up_int {k : IntKind} (ht : P.underlying t = some (.int k)) (hc : P.cellsOf t = 1) (h : ∃ y, trodA enc P W n t ((v :: l).take (P.cellsOf t)) = some y ∧ RFits P t y.1) : ∃ x, v = .int k x ∧ (Lit.int k x).wf = true := by
  obtain ⟨y, h, _⟩ := up_one hc h
  obtain ⟨x, hx, _, hw⟩ := DataW.trod_int ht h
  exact ⟨x, by simpa using hx, hw⟩

theorem up_bool (ht : P.underlying t = some .bool) (hc : P.cellsOf t = 1) (h : ∃ y, trodA enc P W n t ((v :: l).take (P.cellsOf t)) = some y ∧ RFits P t y.1) : ∃ x, v = .bool x := by
  obtain ⟨y, h, _⟩ := up_one hc h
  obtain ⟨x, hx, _⟩ := DataW.trod_bool ht h
  exact ⟨x, by simpa using hx⟩

theorem up_string (ht : P.underlying t = some .string) (hc : P.cellsOf t = 1) (h : ∃ y, trodA enc P W n t ((v :: l).take (P.cellsOf t)) = some y ∧ RFits P t y.1) : ∃ x : ByteArray, v = .string x ∧ x.data.toList.length ≤ 140737488351232 := by
  obtain ⟨y, h, hf⟩ := up_one hc h
  obtain ⟨x, hx, hy, _⟩ := DataW.trod_string ht h
  refine ⟨x, by simpa using hx, hf _ ?_⟩
  rw [hy]
  simp [DataW.weights]

theorem up_bytes {e : TypeId} (ht : P.underlying t = some (.slice e)) (he : P.underlying e = some (.int .u8)) (hc : P.cellsOf e = 1) (hb : P.bytesOf e = 1) (ht1 : P.cellsOf t = 1) (h : ∃ y, trodA enc P W n t ((v :: l).take (P.cellsOf t)) = some y ∧ RFits P t y.1) : ∃ bs, SlB (allOf W) v bs := by
  obtain ⟨y, h, hf⟩ := up_one ht1 h
  obtain ⟨rows, h1, h2, h3⟩ := slice_up ht hc (by omega) hb h hf
  have key : ∀ rows : List (List Value), (∀ r ∈ rows, r.length = 1 ∧ ∃ m y, m < n ∧ trodA enc P W m e r = some y ∧ RFits P e y.1) → ∃ bs : List UInt8, rows.flatten = bs.map bv ∧ bs.length = rows.length := by
    intro rows
    induction rows with
    | nil => exact fun _ => ⟨[], rfl, rfl⟩
    | cons r rows ih =>
      intro h
      obtain ⟨bs, k1, k2⟩ := ih fun x hx => h x (List.mem_cons_of_mem _ hx)
      obtain ⟨_, m, y, _, h5, _⟩ := h r (by simp)
      obtain ⟨x, hx, _, hwf⟩ := DataW.trod_int he h5
      have hr : 0 ≤ x ∧ x < 256 := by
        simp only [Lit.wf, Bool.and_eq_true, decide_eq_true_eq] at hwf
        have h8 : IntKind.u8.min = 0 := rfl
        have h9 : IntKind.u8.max = 255 := rfl
        omega
      refine ⟨UInt8.ofNat x.toNat :: bs, ?_, by simp [k2]⟩
      rw [List.flatten_cons, k1, hx, List.map_cons]
      simp only [bv, List.cons_append, List.nil_append, List.cons.injEq, and_true]
      congr 1
      simp only [UInt8.toNat_ofNat']
      omega
  obtain ⟨bs, k1, k2⟩ := key rows h3
  refine ⟨bs, ?_, by omega⟩
  rw [k2, ← k1]
  exact h1

end

/-- A contract whose arena is all that lay: what lay lies as it lay. -/
theorem below_of_moves {A' : Arena} {w w' : World} (hs : (allOf w).Sub A') (hm : Moves (allOf w) A' w w') : Below w.heap.size w w' := by
  have hb : ∀ k, k < w.heap.size → w'.heap[k]? = w.heap[k]? := fun k hk => by
    have h0 : w.heap[k]? = some w.heap[k] := Array.getElem?_eq_getElem hk
    rw [hm.sub k _ (hs k _ h0)]
    exact h0.symm
  refine ⟨hm.os, hm.tape, hm.out, ?_, hb⟩
  rcases Nat.eq_zero_or_pos w.heap.size with h0 | h0
  · omega
  · have h1 := hb (w.heap.size - 1) (by omega)
    have h2 : (w.heap[w.heap.size - 1]?) = some w.heap[w.heap.size - 1] := Array.getElem?_eq_getElem (by omega)
    rw [h2] at h1
    have := (Array.getElem?_eq_some_iff.1 h1).1
    omega

/-- A contract, as what a call shows. -/
theorem calls_of_fok {P : Program} {f : FuncId} {S : FSpec} (h : FOk P f S) {fn : Func} (hf : P.funcs[f]? = some fn) (hn : (fn.name == "runtime.NumGoroutine") = false) (hb : fn.body.isSome = true) (g : S.γ) (vs : List Value) (w : World) (hp : S.pre g vs (allOf w))
    (hs : ∀ v A', S.post g vs (allOf w) v A' → (allOf w).Sub A') : Calls P f vs.toArray w fun e w' => ∃ v, e = .returned v ∧ (∃ A', S.post g vs (allOf w) v A') ∧ Below w.heap.size w w' :=
  (calls_of_goes (h g vs (allOf w) w (fun _ _ h => h) hp) hf hn hb).mono fun _ _ ⟨v, he, A', h1, h2⟩ => ⟨v, he, ⟨A', h1⟩, below_of_moves (hs v A' h1) h2⟩

end
end Go.Sx
