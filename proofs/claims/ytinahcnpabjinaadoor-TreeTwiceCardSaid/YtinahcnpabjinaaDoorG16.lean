/-
  The law TreeTwice, walked.
-/
import Derived.Test.YtinahcnpabjinaaDoorG15
namespace Go.Proofs.YtinahcnpabjinaaDoor
open Go.Sx Go.RowKit
noncomputable section
open Classical

/-- Two trees do not share memory. -/
def Apart2 (B1 : Arena) (O1 : Nat → Prop) (B2 : Arena) (O2 : Nat → Prop) : Prop := (∀ k, O1 k → ¬ O2 k) ∧ (∀ k o, B1.blk k = some o → ¬ O2 k) ∧ ∀ k o, B2.blk k = some o → ¬ O1 k

theorem Apart2.symm {B1 B2 : Arena} {O1 O2 : Nat → Prop} (h : Apart2 B1 O1 B2 O2) : Apart2 B2 O2 B1 O1 := ⟨fun k h2 h1 => h.1 k h1 h2, h.2.2, h.2.1⟩

/-- One of two trees changes. -/
theorem two_step {A A' B1 B1' B2 : Arena} {O1 O1' O2 : Nat → Prop} {t2 : Nat} {T2 : TreeD} (h2 : TreeAt A B2 O2 t2 T2) (hA : Apart2 B1 O1 B2 O2) (s : Step A B1 O1 A' B1' O1') : TreeAt A' B2 O2 t2 T2 ∧ Apart2 B1' O1' B2 O2 := by
  obtain ⟨m, s', E, h⟩ := h2
  refine ⟨⟨m, s', E, h.frame (fun k hk => ?_) (s.stays h.sub hA.2.2)⟩, fun k h1 h2 => ?_, fun k o h1 h2 => ?_, fun k o hb h1 => ?_⟩
  · obtain ⟨o, ho⟩ := h.live k hk
    rw [ho, s.keep k o ho fun h1 => hA.1 k h1 hk]
  · rcases s.own k h1 with h1 | h1
    · exact hA.1 k h1 h2
    · obtain ⟨o, ho⟩ := h.live k h2
      rw [h1] at ho; cases ho
  · rcases s.new k o h1 with h1 | h1
    · exact hA.2.1 k o h1 h2
    · obtain ⟨o, ho⟩ := h.live k h2
      rw [h1] at ho; cases ho
  · rcases s.own k h1 with h1 | h1
    · exact hA.2.2 k o hb h1
    · rw [h.sub k o hb] at h1; cases h1

theorem apart_new {A B1 B2 : Arena} {O1 O2 : Nat → Prop} {t1 : Nat} {T1 : TreeD} (h1 : TreeAt A B1 O1 t1 T1) (hO : ∀ k, O2 k → A.blk k = none) (hB : ∀ k o, B2.blk k = some o → A.blk k = none) : Apart2 B1 O1 B2 O2 := by
  obtain ⟨m, s, E, h⟩ := h1
  refine ⟨fun k h1 h2 => ?_, fun k o hb h2 => ?_, fun k o hb h1 => ?_⟩
  · obtain ⟨o, ho⟩ := h.live k h1
    rw [hO k h2] at ho; cases ho
  · have := h.sub k o hb
    rw [hO k h2] at this; cases this
  · obtain ⟨o', ho⟩ := h.live k h1
    rw [hB k o hb] at ho; cases ho

theorem Aside.sub {A A' C : Arena} {O : Nat → Prop} (h : Aside A C O) (hs : A.Sub A') : Aside A' C O := ⟨h.1.trans hs, h.2⟩

theorem kPut_fold_len {κ α : Type} [BEq κ] : ∀ (l m : List (κ × α)), (l.foldl (fun m e => kPut e.1 e.2 m) m).length ≤ m.length + l.length
  | [], m => by simp
  | e :: l, m => by
    have h1 := kPut_fold_len l (kPut e.1 e.2 m)
    have h2 := kPut_len e.1 e.2 m
    rw [List.foldl_cons, List.length_cons]
    omega

theorem seat_fold_len : ∀ (l : List SitD) (m : List (Int × SitD)), (l.foldl seatOne m).length ≤ m.length + l.length
  | [], m => by simp
  | x :: l, m => by
    have h1 := seat_fold_len l (seatOne m x)
    have h2 : (seatOne m x).length ≤ m.length + 1 := by
      unfold seatOne
      split
      · omega
      · exact kPut_len _ _ _
    rw [List.foldl_cons, List.length_cons]
    omega

theorem copy_len {T : TreeD} {E sk : List (ByteArray × Nat × NodeD)} (hE : T.nodes = kMap (·.2) E) (hp : sk.Perm E) {n m : Nat} (hn : T.nodes.length ≤ n) (hm : T.seats.length ≤ m) : (copyNodes sk).length ≤ n + 1 ∧ (seatsOf (treeSits T)).length ≤ m := by
  constructor
  · have h1 : copyNodes sk = (kMap (·.2) sk).foldl (fun m e => kPut e.1 e.2 m) treeNew.nodes := by
      unfold copyNodes kMap
      rw [List.foldl_map]
    have h2 := kPut_fold_len (kMap (·.2) sk) treeNew.nodes
    have h3 : (kMap (·.2) sk).length = T.nodes.length := by rw [hE, kMap, kMap, List.length_map, List.length_map, hp.length_eq]
    have h4 : treeNew.nodes.length = 1 := rfl
    rw [h1]; omega
  · have h2 := seat_fold_len (treeSits T) []
    rw [treeSits_len] at h2
    show ((treeSits T).foldl seatOne []).length ≤ m
    simp only [List.length_nil] at h2
    omega

theorem seatsOk_of {T U : TreeD} (h : TEq T U) (hT : TOk T) (hU : ND U) : SeatsOk U := fun e he => by
  have h1 := (kGet_some hU.2).2 (show (e.1, e.2) ∈ U.seats from he)
  rw [← h.2] at h1
  exact (hT.ses _ _ h1).1

structure TT where
  k : Nat
  A : Arena
  Ba : Arena
  Oa : Nat → Prop
  Ta : TreeD
  Bb : Arena
  Ob : Nat → Prop
  Tb : TreeD

structure TInv (A0 : Arena) (ta tb n : Nat) (s : TT) : Prop where
  le : s.k ≤ n
  a : TreeAt s.A s.Ba s.Oa ta s.Ta
  b : TreeAt s.A s.Bb s.Ob tb s.Tb
  ap : Apart2 s.Ba s.Oa s.Bb s.Ob
  sa : Aside s.A A0 s.Oa
  sb : Aside s.A A0 s.Ob
  oka : TOk s.Ta
  okb : TOk s.Tb
  eq : TEq s.Ta s.Tb
  na : s.Ta.nodes.length ≤ 1 + s.k * 122
  nb : s.Tb.nodes.length ≤ 1 + s.k * 122
  ea : s.Ta.seats.length ≤ s.k * 4
  eb : s.Tb.seats.length ≤ s.k * 4

def twiceInv (A0 : Arena) (ta tb n : Nat) : LInv := { γ := TT, G := TInv A0 ta tb n, keepS := [0, 3, 4], keepB := [], sl := fun s => [(5, .v (.int .i64 s.k))], bl := fun _ => [], ar := fun s => s.A, mu := fun s => n - s.k }

def twiceS : FSpec := ⟨List DeedD, fun g vs A => ∃ v, vs = [v] ∧ DeedsS A v g ∧ HasA A, fun _ _ A v A' => A.Sub A' ∧ v = .bool true⟩

set_option maxRecDepth 100000 in
set_option maxHeartbeats 0 in
theorem twice_ok : FOk Tryd.prog 4 twiceS := by
  refine fok_v mixed fun (ds : List DeedD) vs A hp => ?_
  obtain ⟨v, rfl, ⟨rows, hS, hlen, hR⟩, hHas⟩ : ∃ v, vs = [v] ∧ DeedsS A v ds ∧ HasA A := hp
  obtain ⟨ao, c, rfl, hc, hl, ha1, ha2, ha3⟩ := hS
  have hrow : ∀ k (hk : k < ds.length), ∃ g0 o, ao = some ⟨g0, o, none⟩ ∧ ∃ cs, A.rd g0 (o + k * 16) 16 = some cs ∧ DeedR A ds[k] cs := fun k hk => by
    obtain ⟨g0, o, e, hra⟩ := Sl.at_ hc ha1 ha2 ha3 (by omega)
    exact ⟨g0, o, e, deed_at hra hR k hk rfl⟩
  have hC : CTSound Tryd.prog (lookC [specE 14 awake11S, specE 6 newS, specE 8 applyS, specE 15 greatS, specE 16 copyS, specE 17 sameS, specE 18 rightS] noC) := lookC_sound (noC_sound _) (fun x hx => by
    simp only [List.mem_cons, List.not_mem_nil, or_false] at hx
    rcases hx with rfl | rfl | rfl | rfl | rfl | rfl | rfl
    · exact specE_ok awake11_ok
    · exact specE_ok new_ok
    · exact specE_ok apply_ok
    · exact specE_ok great_ok
    · exact specE_ok copy_ok
    · exact specE_ok same_ok
    · exact specE_ok right_ok)
  refine ⟨_, tabO Tryd.prog _ noL 60 [(4, 0)], 60, hC, tabO_sound mixed hC (noL_sound _) _ _, fun blk os out tape D hD => ?_⟩
  conv => lhs; whnf
  refine (hD _).2 ⟨(), ⟨rfl, hHas⟩, fun v A' hq => ?_⟩
  obtain ⟨hA1, hv1⟩ : A' = A ∧ v = .bool true := hq
  subst hA1 hv1
  conv => lhs; whnf
  refine split_dec (fun h60 => ?_) (fun h60 => ?_)
  · have h60' : 60 < ds.length := by
      have h60 : (60 : Int) < ds.length := h60
      omega
    obtain ⟨g0, o, rfl, hra⟩ := Sl.at_ hc ha1 ha2 ha3 (by omega)
    obtain ⟨c', rfl⟩ : ∃ c', c = c' + 1 := ⟨c - 1, by omega⟩
    have hn : ∃ n : Nat, n = 60 ∧ n ≤ ds.length ∧ n ≤ c' + 1 ∧ n ≤ 60 := ⟨_, rfl, by omega, by omega, by omega⟩
    conv => lhs; whnf
    refine go_dec (by show (60 : Int) ≤ ((c' + 1 : Nat) : Int); omega) ?_
    conv => lhs; whnf
    obtain ⟨n, hn, hle, hnc, hn60⟩ := hn
    refine (hD _).2 ⟨(), rfl, fun v A1 hq => ?_⟩
    obtain ⟨ta, O1, rfl, hT1, s1, hO1⟩ : ∃ t O, v = .pointer (some ⟨t, 0, none⟩) ∧ TreeAt A1 Arena.void O t treeNew ∧ A'.Sub A1 ∧ ∀ k, O k → A'.blk k = none := hq
    conv => lhs; whnf
    refine (hD _).2 ⟨(), rfl, fun v A2 hq => ?_⟩
    obtain ⟨tb, O2, rfl, hT2, s2, hO2⟩ : ∃ t O, v = .pointer (some ⟨t, 0, none⟩) ∧ TreeAt A2 Arena.void O t treeNew ∧ A1.Sub A2 ∧ ∀ k, O k → A1.blk k = none := hq
    conv => lhs; whnf
    have hI0 : TInv A' ta tb n ⟨0, A2, Arena.void, O1, treeNew, Arena.void, O2, treeNew⟩ :=
      ⟨Nat.zero_le _, TreeAt_sub hT1 s2, hT2, apart_new hT1 hO2 (fun k o hk => by cases hk), ⟨s1.trans s2, fun k o hk hO => (by rw [hO1 k hO] at hk; cases hk)⟩, ⟨s1.trans s2, fun k o hk hO => (by have := s1 _ _ hk; rw [hO2 k hO] at this; cases this)⟩, tok_new, tok_new, TEq.refl _, by show 1 ≤ 1 + 0 * 122; omega, by show 1 ≤ 1 + 0 * 122; omega, by show 0 ≤ 0 * 4; omega, by show 0 ≤ 0 * 4; omega⟩
    refine (hD _).2 ⟨twiceInv A' ta tb n, ⟨(⟨0, A2, Arena.void, O1, treeNew, Arena.void, O2, treeNew⟩ : TT), hI0, ⟨rfl, trivial⟩, trivial, rfl⟩, fun (s : TT) hG => ⟨⟨trivial, trivial⟩, trivial, ?_⟩⟩
    obtain ⟨k, Ak, Ba, Oa, Ta, Bb, Ob, Tb⟩ := s
    obtain ⟨hk, hTa, hTb, hAp, hsa, hsb, hoka, hokb, heq, hna, hnb, hea, heb⟩ : TInv A' ta tb n ⟨k, Ak, Ba, Oa, Ta, Bb, Ob, Tb⟩ := hG
    dsimp only at hk hTa hTb hAp hsa hsb hoka hokb heq hna hnb hea heb
    conv => lhs; whnf
    refine split_dec (fun hlt => ?_) (fun hlt => ?_)
    · have hkn : k < n := by
        have hlt : (k : Int) < (n : Int) := by rw [hn]; exact hlt
        omega
      obtain ⟨g1, o1, e1, cs, r1, hR1⟩ := hrow k (by omega)
      cases e1
      conv => lhs; whnf
      have hin : (k : Int) < (n : Int) := by omega
      rw [hn] at hin
      refine go_in ⟨by show (0 : Int) ≤ (k : Int); omega, hin⟩ ?_
      conv => lhs; whnf
      obtain ⟨d, hd⟩ : ∃ d, d = ds[k] := ⟨_, rfl⟩
      rw [← hd] at hR1
      obtain ⟨⟨zxid, kind, ses, turn, xid, dtime, path, data, owner, ver, cver, tmo, err, cfg, mem⟩, parts⟩ := d
      have hR0 := hR1
      rw [DeedR] at hR1
      dsimp only [DeedH.cells] at hR1
      obtain ⟨vd, vm, vp, rws, rfl, -, hd1, hM, hSp, hlen2, hRows⟩ := hR1
      obtain ⟨a7, k7, rfl⟩ := hd1.1.form
      obtain ⟨a14, k14, rfl⟩ := hM.1.form
      obtain ⟨a15, k15, rfl⟩ := hSp.form
      refine go_rd (rd_sub hsa.1 r1) ?_
      conv => lhs; whnf
      refine (hD _).2 ⟨(.mk ⟨zxid, kind, ses, turn, xid, dtime, path, data, owner, ver, cver, tmo, err, cfg, mem⟩ parts, A'), ⟨_, rfl, hR0⟩, fun v A9 hq => ?_⟩
      obtain ⟨h9, rfl⟩ : Ak = A9 ∧ v = .bool (decide ((60 : Int) < parts.length)) := ⟨hq.1.symm, hq.2⟩
      subst h9
      conv => lhs; whnf
      refine split_dec (fun hw => ?_) (fun hw => ?_) <;> (conv => lhs; whnf)
      · exact (hD _).2 ⟨hsa.1, rfl⟩
      have hwp : parts.length ≤ 60 := by
        have hw : ¬ (60 : Int) < (parts.length : Int) := hw
        omega
      obtain ⟨dd, hdd⟩ : ∃ dd : DeedD, dd = (.mk ⟨zxid, kind, ses, turn, xid, dtime, path, data, owner, ver, cver, tmo, err, cfg, mem⟩ parts : DeedD) := ⟨_, rfl⟩
      have hddp : dd.parts.length ≤ 60 := by rw [hdd]; exact hwp
      rw [← hdd] at hR0
      refine (hD _).2 ⟨⟨Ta, Ba, Oa, ta⟩, ⟨rfl, hTa, hoka.seatsOk, by show Ta.seats.length ≤ _; omega⟩, fun v A3 hq => ?_⟩
      obtain ⟨s3, tc, Bc, Oc, E, sk, rfl, hTc, hOc, hBc, hE, hsk⟩ : Ak.Sub A3 ∧ ∃ (t' : Nat) (B' : Arena) (O' : Nat → Prop) (E sk : List (ByteArray × Nat × NodeD)), v = .pointer (some ⟨t', 0, none⟩) ∧ TreeAt A3 B' O' t' ⟨copyNodes sk, seatsOf (treeSits Ta)⟩ ∧ (∀ k, O' k → Ak.blk k = none) ∧ (∀ k o, B'.blk k = some o → Ak.blk k = none) ∧ Ta.nodes = kMap (·.2) E ∧ sk.Perm E := hq
      have hac := apart_new hTa hOc hBc
      have hbc := apart_new hTb hOc hBc
      have hceq := copy_eq hoka hE hsk
      obtain ⟨Tc, hTcd⟩ : ∃ Tc : TreeD, Tc = ⟨copyNodes sk, seatsOf (treeSits Ta)⟩ := ⟨_, rfl⟩
      have hfc : Tc.nodes.length ≤ 1 + k * 122 + 1 ∧ Tc.seats.length ≤ k * 4 := by
        rw [hTcd]
        exact copy_len hE hsk (by omega) (by omega)
      rw [← hTcd] at hTc hceq
      have hTa3 := TreeAt_sub hTa s3
      have hTb3 := TreeAt_sub hTb s3
      have hsa3 := hsa.sub s3
      have i0 : (0 : Int) ≤ (k : Int) := by omega
      conv => lhs; whnf
      repeat (first | refine go_in ⟨i0, hin⟩ ?_ | refine go_rd (rd_sub hsa3.1 r1) ?_
              conv => lhs; whnf)
      refine (hD _).2 ⟨(⟨Ta, Ba, Oa, ta⟩, dd, A'), ⟨_, rfl, hTa3, hR0, hHas, hsa3⟩, fun v A4 hq => ?_⟩
      obtain ⟨Ba4, Oa4, hTa4, hSa⟩ : StepTo A3 Ba Oa ta (treeApply Ta dd) A4 := hq
      obtain ⟨hTb4, hAp4⟩ := two_step hTb3 hAp hSa
      obtain ⟨hTc4, hac4⟩ := two_step hTc hac hSa
      have hsa4 := hsa3.step hSa
      have hsb4 : Aside A4 A' Ob := ⟨hsa4.1, hsb.2⟩
      conv => lhs; whnf
      repeat (first | refine go_in ⟨i0, hin⟩ ?_ | refine go_rd (rd_sub hsa4.1 r1) ?_
              conv => lhs; whnf)
      refine (hD _).2 ⟨(⟨Tb, Bb, Ob, tb⟩, dd, A'), ⟨_, rfl, hTb4, hR0, hHas, hsb4⟩, fun v A5 hq => ?_⟩
      obtain ⟨Bb5, Ob5, hTb5, hSb⟩ : StepTo A4 Bb Ob tb (treeApply Tb dd) A5 := hq
      obtain ⟨hTa5, hAp5⟩ := two_step hTa4 hAp4.symm hSb
      obtain ⟨hTc5, hbc5⟩ := two_step hTc4 hbc hSb
      have hsb5 := hsb4.step hSb
      conv => lhs; whnf
      repeat (first | refine go_in ⟨i0, hin⟩ ?_ | refine go_rd (rd_sub hsb5.1 r1) ?_
              conv => lhs; whnf)
      refine (hD _).2 ⟨(⟨treeApply Tb dd, Bb5, Ob5, tb⟩, dd, A'), ⟨_, rfl, hTb5, hR0, hHas, hsb5⟩, fun v A6 hq => ?_⟩
      obtain ⟨Bb6, Ob6, hTb6, hSc⟩ : StepTo A5 Bb5 Ob5 tb (treeApply (treeApply Tb dd) dd) A6 := hq
      obtain ⟨hTa6, hAp6⟩ := two_step hTa5 hAp5 hSc
      obtain ⟨hTc6, hbc6⟩ := two_step hTc5 hbc5 hSc
      have hsb6 := hsb5.step hSc
      have hsa6 : Aside A6 A' Oa4 := ⟨hsb6.1, hsa4.2⟩
      have hoka' := hoka.apply dd
      have hokb' := (hokb.apply dd).apply dd
      have heq' := heq.twice hoka.nd hokb.nd dd
      have l1 := apply_len Ta dd
      have l2 := apply_len Tb dd
      have l3 := apply_len (treeApply Tb dd) dd
      have l4 := apply_slen Ta dd
      have l5 := apply_slen Tb dd
      have l6 := apply_slen (treeApply Tb dd) dd
      have hfa : TFits (treeApply Ta dd) := ⟨hoka'.seatsOk, by omega, by omega⟩
      have hfb : TFits (treeApply (treeApply Tb dd) dd) := ⟨hokb'.seatsOk, by omega, by omega⟩
      conv => lhs; whnf
      refine (hD _).2 ⟨(⟨treeApply Ta dd, Ba4, Oa4, ta⟩, ⟨treeApply (treeApply Tb dd) dd, Bb6, Ob6, tb⟩), ⟨rfl, hTa6, hTb6, hfa, hfb⟩, fun v A7 hq => ?_⟩
      obtain ⟨s7, hv⟩ : A6.Sub A7 ∧ v = .bool (decide (TSame (treeApply Ta dd) (treeApply (treeApply Tb dd) dd))) := hq
      rw [decide_eq_true (heq'.same hoka'.nd hokb'.nd)] at hv
      subst hv
      conv => lhs; whnf
      have hsb7 := hsb6.sub s7
      repeat (first | refine go_in ⟨i0, hin⟩ ?_ | refine go_rd (rd_sub hsb7.1 r1) ?_
              conv => lhs; whnf)
      refine (hD _).2 ⟨dd, ⟨_, rfl, DeedR.sub hsb7.1 _ _ hR0, hHas.sub hsb7.1⟩, fun v A8 hq => ?_⟩
      obtain ⟨h8, hv⟩ : A7 = A8 ∧ v = .bool (decide (RightD dd)) := ⟨hq.1.symm, hq.2⟩
      subst h8
      have hnext : ∀ A9, A7.Sub A9 → TInv A' ta tb n ⟨k + 1, A9, Ba4, Oa4, treeApply Ta dd, Bb6, Ob6, treeApply (treeApply Tb dd) dd⟩ := fun A9 s9 =>
        ⟨by show k + 1 ≤ n; omega, TreeAt_sub hTa6 (s7.trans s9), TreeAt_sub hTb6 (s7.trans s9), hAp6.symm, hsa6.sub (s7.trans s9), hsb7.sub s9, hoka', hokb', heq', by show (treeApply Ta dd).nodes.length ≤ 1 + (k + 1) * 122; omega, by show (treeApply (treeApply Tb dd) dd).nodes.length ≤ 1 + (k + 1) * 122; omega, by show (treeApply Ta dd).seats.length ≤ (k + 1) * 4; omega, by show (treeApply (treeApply Tb dd) dd).seats.length ≤ (k + 1) * 4; omega⟩
      by_cases hr : RightD dd
      · rw [decide_eq_true hr] at hv
        subst hv
        conv => lhs; whnf
        exact (hD _).2 ⟨(⟨k + 1, A7, Ba4, Oa4, treeApply Ta dd, Bb6, Ob6, treeApply (treeApply Tb dd) dd⟩ : TT), ⟨hnext A7 (Arena.Sub.refl _), ⟨inc_slot (k := k) (by omega), trivial⟩, trivial, rfl⟩, by show n - (k + 1) < n - k; omega, ⟨rfl, rfl, rfl, trivial⟩, trivial⟩
      · rw [decide_eq_false hr] at hv
        subst hv
        conv => lhs; whnf
        have hTa0 : treeApply Ta dd = Ta := by rw [treeApply, if_neg hr]
        have hndc := TreeAt.nd hTc
        have hcs : TSame (treeApply Ta dd) Tc := by rw [hTa0]; exact hceq.same hoka.nd hndc
        have hfc' : TFits Tc := ⟨seatsOk_of hceq hoka hndc, by omega, by omega⟩
        refine (hD _).2 ⟨(⟨treeApply Ta dd, Ba4, Oa4, ta⟩, ⟨Tc, Bc, Oc, tc⟩), ⟨rfl, TreeAt_sub hTa6 s7, TreeAt_sub hTc6 s7, hfa, hfc'⟩, fun v A9 hq => ?_⟩
        obtain ⟨s9, hv⟩ : A7.Sub A9 ∧ v = .bool (decide (TSame (treeApply Ta dd) Tc)) := hq
        rw [decide_eq_true hcs] at hv
        subst hv
        conv => lhs; whnf
        exact (hD _).2 ⟨(⟨k + 1, A9, Ba4, Oa4, treeApply Ta dd, Bb6, Ob6, treeApply (treeApply Tb dd) dd⟩ : TT), ⟨hnext A9 s9, ⟨inc_slot (k := k) (by omega), trivial⟩, trivial, rfl⟩, by show n - (k + 1) < n - k; omega, ⟨rfl, rfl, rfl, trivial⟩, trivial⟩
    · conv => lhs; whnf
      exact (hD _).2 ⟨hsa.1, rfl⟩
  · have hn : ∃ n : Nat, n = ds.length ∧ n ≤ ds.length ∧ n ≤ c ∧ n ≤ 60 := ⟨_, rfl, by omega, by omega, by
      have h60 : ¬ (60 : Int) < ds.length := h60
      omega⟩
    conv => lhs; whnf
    obtain ⟨n, hn, hle, hnc, hn60⟩ := hn
    refine (hD _).2 ⟨(), rfl, fun v A1 hq => ?_⟩
    obtain ⟨ta, O1, rfl, hT1, s1, hO1⟩ : ∃ t O, v = .pointer (some ⟨t, 0, none⟩) ∧ TreeAt A1 Arena.void O t treeNew ∧ A'.Sub A1 ∧ ∀ k, O k → A'.blk k = none := hq
    conv => lhs; whnf
    refine (hD _).2 ⟨(), rfl, fun v A2 hq => ?_⟩
    obtain ⟨tb, O2, rfl, hT2, s2, hO2⟩ : ∃ t O, v = .pointer (some ⟨t, 0, none⟩) ∧ TreeAt A2 Arena.void O t treeNew ∧ A1.Sub A2 ∧ ∀ k, O k → A1.blk k = none := hq
    conv => lhs; whnf
    have hI0 : TInv A' ta tb n ⟨0, A2, Arena.void, O1, treeNew, Arena.void, O2, treeNew⟩ :=
      ⟨Nat.zero_le _, TreeAt_sub hT1 s2, hT2, apart_new hT1 hO2 (fun k o hk => by cases hk), ⟨s1.trans s2, fun k o hk hO => (by rw [hO1 k hO] at hk; cases hk)⟩, ⟨s1.trans s2, fun k o hk hO => (by have := s1 _ _ hk; rw [hO2 k hO] at this; cases this)⟩, tok_new, tok_new, TEq.refl _, by show 1 ≤ 1 + 0 * 122; omega, by show 1 ≤ 1 + 0 * 122; omega, by show 0 ≤ 0 * 4; omega, by show 0 ≤ 0 * 4; omega⟩
    refine (hD _).2 ⟨twiceInv A' ta tb n, ⟨(⟨0, A2, Arena.void, O1, treeNew, Arena.void, O2, treeNew⟩ : TT), hI0, ⟨rfl, trivial⟩, trivial, rfl⟩, fun (s : TT) hG => ⟨⟨trivial, trivial⟩, trivial, ?_⟩⟩
    obtain ⟨k, Ak, Ba, Oa, Ta, Bb, Ob, Tb⟩ := s
    obtain ⟨hk, hTa, hTb, hAp, hsa, hsb, hoka, hokb, heq, hna, hnb, hea, heb⟩ : TInv A' ta tb n ⟨k, Ak, Ba, Oa, Ta, Bb, Ob, Tb⟩ := hG
    dsimp only at hk hTa hTb hAp hsa hsb hoka hokb heq hna hnb hea heb
    conv => lhs; whnf
    refine split_dec (fun hlt => ?_) (fun hlt => ?_)
    · have hkn : k < n := by
        have hlt : (k : Int) < (n : Int) := by rw [hn]; exact hlt
        omega
      obtain ⟨g1, o1, e1, cs, r1, hR1⟩ := hrow k (by omega)
      cases e1
      conv => lhs; whnf
      have hin : (k : Int) < (n : Int) := by omega
      rw [hn] at hin
      refine go_in ⟨by show (0 : Int) ≤ (k : Int); omega, hin⟩ ?_
      conv => lhs; whnf
      obtain ⟨d, hd⟩ : ∃ d, d = ds[k] := ⟨_, rfl⟩
      rw [← hd] at hR1
      obtain ⟨⟨zxid, kind, ses, turn, xid, dtime, path, data, owner, ver, cver, tmo, err, cfg, mem⟩, parts⟩ := d
      have hR0 := hR1
      rw [DeedR] at hR1
      dsimp only [DeedH.cells] at hR1
      obtain ⟨vd, vm, vp, rws, rfl, -, hd1, hM, hSp, hlen2, hRows⟩ := hR1
      obtain ⟨a7, k7, rfl⟩ := hd1.1.form
      obtain ⟨a14, k14, rfl⟩ := hM.1.form
      obtain ⟨a15, k15, rfl⟩ := hSp.form
      refine go_rd (rd_sub hsa.1 r1) ?_
      conv => lhs; whnf
      refine (hD _).2 ⟨(.mk ⟨zxid, kind, ses, turn, xid, dtime, path, data, owner, ver, cver, tmo, err, cfg, mem⟩ parts, A'), ⟨_, rfl, hR0⟩, fun v A9 hq => ?_⟩
      obtain ⟨h9, rfl⟩ : Ak = A9 ∧ v = .bool (decide ((60 : Int) < parts.length)) := ⟨hq.1.symm, hq.2⟩
      subst h9
      conv => lhs; whnf
      refine split_dec (fun hw => ?_) (fun hw => ?_) <;> (conv => lhs; whnf)
      · exact (hD _).2 ⟨hsa.1, rfl⟩
      have hwp : parts.length ≤ 60 := by
        have hw : ¬ (60 : Int) < (parts.length : Int) := hw
        omega
      obtain ⟨dd, hdd⟩ : ∃ dd : DeedD, dd = (.mk ⟨zxid, kind, ses, turn, xid, dtime, path, data, owner, ver, cver, tmo, err, cfg, mem⟩ parts : DeedD) := ⟨_, rfl⟩
      have hddp : dd.parts.length ≤ 60 := by rw [hdd]; exact hwp
      rw [← hdd] at hR0
      refine (hD _).2 ⟨⟨Ta, Ba, Oa, ta⟩, ⟨rfl, hTa, hoka.seatsOk, by show Ta.seats.length ≤ _; omega⟩, fun v A3 hq => ?_⟩
      obtain ⟨s3, tc, Bc, Oc, E, sk, rfl, hTc, hOc, hBc, hE, hsk⟩ : Ak.Sub A3 ∧ ∃ (t' : Nat) (B' : Arena) (O' : Nat → Prop) (E sk : List (ByteArray × Nat × NodeD)), v = .pointer (some ⟨t', 0, none⟩) ∧ TreeAt A3 B' O' t' ⟨copyNodes sk, seatsOf (treeSits Ta)⟩ ∧ (∀ k, O' k → Ak.blk k = none) ∧ (∀ k o, B'.blk k = some o → Ak.blk k = none) ∧ Ta.nodes = kMap (·.2) E ∧ sk.Perm E := hq
      have hac := apart_new hTa hOc hBc
      have hbc := apart_new hTb hOc hBc
      have hceq := copy_eq hoka hE hsk
      obtain ⟨Tc, hTcd⟩ : ∃ Tc : TreeD, Tc = ⟨copyNodes sk, seatsOf (treeSits Ta)⟩ := ⟨_, rfl⟩
      have hfc : Tc.nodes.length ≤ 1 + k * 122 + 1 ∧ Tc.seats.length ≤ k * 4 := by
        rw [hTcd]
        exact copy_len hE hsk (by omega) (by omega)
      rw [← hTcd] at hTc hceq
      have hTa3 := TreeAt_sub hTa s3
      have hTb3 := TreeAt_sub hTb s3
      have hsa3 := hsa.sub s3
      have i0 : (0 : Int) ≤ (k : Int) := by omega
      conv => lhs; whnf
      repeat (first | refine go_in ⟨i0, hin⟩ ?_ | refine go_rd (rd_sub hsa3.1 r1) ?_
              conv => lhs; whnf)
      refine (hD _).2 ⟨(⟨Ta, Ba, Oa, ta⟩, dd, A'), ⟨_, rfl, hTa3, hR0, hHas, hsa3⟩, fun v A4 hq => ?_⟩
      obtain ⟨Ba4, Oa4, hTa4, hSa⟩ : StepTo A3 Ba Oa ta (treeApply Ta dd) A4 := hq
      obtain ⟨hTb4, hAp4⟩ := two_step hTb3 hAp hSa
      obtain ⟨hTc4, hac4⟩ := two_step hTc hac hSa
      have hsa4 := hsa3.step hSa
      have hsb4 : Aside A4 A' Ob := ⟨hsa4.1, hsb.2⟩
      conv => lhs; whnf
      repeat (first | refine go_in ⟨i0, hin⟩ ?_ | refine go_rd (rd_sub hsa4.1 r1) ?_
              conv => lhs; whnf)
      refine (hD _).2 ⟨(⟨Tb, Bb, Ob, tb⟩, dd, A'), ⟨_, rfl, hTb4, hR0, hHas, hsb4⟩, fun v A5 hq => ?_⟩
      obtain ⟨Bb5, Ob5, hTb5, hSb⟩ : StepTo A4 Bb Ob tb (treeApply Tb dd) A5 := hq
      obtain ⟨hTa5, hAp5⟩ := two_step hTa4 hAp4.symm hSb
      obtain ⟨hTc5, hbc5⟩ := two_step hTc4 hbc hSb
      have hsb5 := hsb4.step hSb
      conv => lhs; whnf
      repeat (first | refine go_in ⟨i0, hin⟩ ?_ | refine go_rd (rd_sub hsb5.1 r1) ?_
              conv => lhs; whnf)
      refine (hD _).2 ⟨(⟨treeApply Tb dd, Bb5, Ob5, tb⟩, dd, A'), ⟨_, rfl, hTb5, hR0, hHas, hsb5⟩, fun v A6 hq => ?_⟩
      obtain ⟨Bb6, Ob6, hTb6, hSc⟩ : StepTo A5 Bb5 Ob5 tb (treeApply (treeApply Tb dd) dd) A6 := hq
      obtain ⟨hTa6, hAp6⟩ := two_step hTa5 hAp5 hSc
      obtain ⟨hTc6, hbc6⟩ := two_step hTc5 hbc5 hSc
      have hsb6 := hsb5.step hSc
      have hsa6 : Aside A6 A' Oa4 := ⟨hsb6.1, hsa4.2⟩
      have hoka' := hoka.apply dd
      have hokb' := (hokb.apply dd).apply dd
      have heq' := heq.twice hoka.nd hokb.nd dd
      have l1 := apply_len Ta dd
      have l2 := apply_len Tb dd
      have l3 := apply_len (treeApply Tb dd) dd
      have l4 := apply_slen Ta dd
      have l5 := apply_slen Tb dd
      have l6 := apply_slen (treeApply Tb dd) dd
      have hfa : TFits (treeApply Ta dd) := ⟨hoka'.seatsOk, by omega, by omega⟩
      have hfb : TFits (treeApply (treeApply Tb dd) dd) := ⟨hokb'.seatsOk, by omega, by omega⟩
      conv => lhs; whnf
      refine (hD _).2 ⟨(⟨treeApply Ta dd, Ba4, Oa4, ta⟩, ⟨treeApply (treeApply Tb dd) dd, Bb6, Ob6, tb⟩), ⟨rfl, hTa6, hTb6, hfa, hfb⟩, fun v A7 hq => ?_⟩
      obtain ⟨s7, hv⟩ : A6.Sub A7 ∧ v = .bool (decide (TSame (treeApply Ta dd) (treeApply (treeApply Tb dd) dd))) := hq
      rw [decide_eq_true (heq'.same hoka'.nd hokb'.nd)] at hv
      subst hv
      conv => lhs; whnf
      have hsb7 := hsb6.sub s7
      repeat (first | refine go_in ⟨i0, hin⟩ ?_ | refine go_rd (rd_sub hsb7.1 r1) ?_
              conv => lhs; whnf)
      refine (hD _).2 ⟨dd, ⟨_, rfl, DeedR.sub hsb7.1 _ _ hR0, hHas.sub hsb7.1⟩, fun v A8 hq => ?_⟩
      obtain ⟨h8, hv⟩ : A7 = A8 ∧ v = .bool (decide (RightD dd)) := ⟨hq.1.symm, hq.2⟩
      subst h8
      have hnext : ∀ A9, A7.Sub A9 → TInv A' ta tb n ⟨k + 1, A9, Ba4, Oa4, treeApply Ta dd, Bb6, Ob6, treeApply (treeApply Tb dd) dd⟩ := fun A9 s9 =>
        ⟨by show k + 1 ≤ n; omega, TreeAt_sub hTa6 (s7.trans s9), TreeAt_sub hTb6 (s7.trans s9), hAp6.symm, hsa6.sub (s7.trans s9), hsb7.sub s9, hoka', hokb', heq', by show (treeApply Ta dd).nodes.length ≤ 1 + (k + 1) * 122; omega, by show (treeApply (treeApply Tb dd) dd).nodes.length ≤ 1 + (k + 1) * 122; omega, by show (treeApply Ta dd).seats.length ≤ (k + 1) * 4; omega, by show (treeApply (treeApply Tb dd) dd).seats.length ≤ (k + 1) * 4; omega⟩
      by_cases hr : RightD dd
      · rw [decide_eq_true hr] at hv
        subst hv
        conv => lhs; whnf
        exact (hD _).2 ⟨(⟨k + 1, A7, Ba4, Oa4, treeApply Ta dd, Bb6, Ob6, treeApply (treeApply Tb dd) dd⟩ : TT), ⟨hnext A7 (Arena.Sub.refl _), ⟨inc_slot (k := k) (by omega), trivial⟩, trivial, rfl⟩, by show n - (k + 1) < n - k; omega, ⟨rfl, rfl, rfl, trivial⟩, trivial⟩
      · rw [decide_eq_false hr] at hv
        subst hv
        conv => lhs; whnf
        have hTa0 : treeApply Ta dd = Ta := by rw [treeApply, if_neg hr]
        have hndc := TreeAt.nd hTc
        have hcs : TSame (treeApply Ta dd) Tc := by rw [hTa0]; exact hceq.same hoka.nd hndc
        have hfc' : TFits Tc := ⟨seatsOk_of hceq hoka hndc, by omega, by omega⟩
        refine (hD _).2 ⟨(⟨treeApply Ta dd, Ba4, Oa4, ta⟩, ⟨Tc, Bc, Oc, tc⟩), ⟨rfl, TreeAt_sub hTa6 s7, TreeAt_sub hTc6 s7, hfa, hfc'⟩, fun v A9 hq => ?_⟩
        obtain ⟨s9, hv⟩ : A7.Sub A9 ∧ v = .bool (decide (TSame (treeApply Ta dd) Tc)) := hq
        rw [decide_eq_true hcs] at hv
        subst hv
        conv => lhs; whnf
        exact (hD _).2 ⟨(⟨k + 1, A9, Ba4, Oa4, treeApply Ta dd, Bb6, Ob6, treeApply (treeApply Tb dd) dd⟩ : TT), ⟨hnext A9 s9, ⟨inc_slot (k := k) (by omega), trivial⟩, trivial, rfl⟩, by show n - (k + 1) < n - k; omega, ⟨rfl, rfl, rfl, trivial⟩, trivial⟩
    · conv => lhs; whnf
      exact (hD _).2 ⟨hsa.1, rfl⟩

end
end Go.Proofs.YtinahcnpabjinaaDoor
