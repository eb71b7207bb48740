/-
  The law TreeAgrees, walked.
-/
import Derived.Test.YtabonbbfcfchmaaDoorG15
import Derived.Test.YtabonbbfcfchmaaDoorG16
import Derived.Test.YtabonbbfcfchmaaDoorG17
namespace Go.Proofs.YtabonbbfcfchmaaDoor
open Go.Sx Go.RowKit
noncomputable section
open Classical

/-- Two trees do not share memory. -/
def Apart2 (B1 : Arena) (O1 : Nat → Prop) (B2 : Arena) (O2 : Nat → Prop) : Prop := (∀ k, O1 k → ¬ O2 k) ∧ (∀ k o, B1.blk k = some o → ¬ O2 k) ∧ ∀ k o, B2.blk k = some o → ¬ O1 k

theorem Apart2.symm {B1 B2 : Arena} {O1 O2 : Nat → Prop} (h : Apart2 B1 O1 B2 O2) : Apart2 B2 O2 B1 O1 := ⟨fun k h2 h1 => h.1 k h1 h2, h.2.2, h.2.1⟩

/-- One of two trees changes. -/
theorem two_stepG {A A' B1 B1' B2 : Arena} {O1 O1' O2 : Nat → Prop} {t2 : Nat} {T2 : TreeD} (h2 : TreeAt A B2 O2 t2 T2) (hA : Apart2 B1 O1 B2 O2) (s : Step A B1 O1 A' B1' O1') : TreeAt A' B2 O2 t2 T2 ∧ Apart2 B1' O1' B2 O2 := by
  obtain ⟨m, s', E, h⟩ := h2
  refine ⟨⟨m, s', E, h.frame (fun k hk => ?_) (s.stays h.sub hA.2.2)⟩, fun k h1 h2 => ?_, fun k o h1 h2 => ?_, fun k o hb h1 => ?_⟩
  · obtain ⟨o, ho⟩ := h.live k hk
    rw [ho, s.keep k o ho fun h1 => hA.1 k h1 hk]
  · rcases s.own k h1 with h1 | h1
    · exact hA.1 k h1 h2
    · obtain ⟨o, ho⟩ := h.live k h2
      rw [h1] at ho; cases ho
  · rcases s.new k o h1 with h1 | h1
    · exact hA.2.1 k o h1 h2
    · obtain ⟨o, ho⟩ := h.live k h2
      rw [h1] at ho; cases ho
  · rcases s.own k h1 with h1 | h1
    · exact hA.2.2 k o hb h1
    · rw [h.sub k o hb] at h1; cases h1

theorem apart_newG {A B1 B2 : Arena} {O1 O2 : Nat → Prop} {t1 : Nat} {T1 : TreeD} (h1 : TreeAt A B1 O1 t1 T1) (hO : ∀ k, O2 k → A.blk k = none) (hB : ∀ k o, B2.blk k = some o → A.blk k = none) : Apart2 B1 O1 B2 O2 := by
  obtain ⟨m, s, E, h⟩ := h1
  refine ⟨fun k h1 h2 => ?_, fun k o hb h2 => ?_, fun k o hb h1 => ?_⟩
  · obtain ⟨o, ho⟩ := h.live k h1
    rw [hO k h2] at ho; cases ho
  · have := h.sub k o hb
    rw [hO k h2] at this; cases this
  · obtain ⟨o', ho⟩ := h.live k h1
    rw [hB k o hb] at ho; cases ho

theorem loadN_len : ∀ l : List ToldD, (loadN l).length ≤ l.length := fun l => by
  have h : ∀ (l : List ToldD) (m : List (ByteArray × NodeD)), (l.foldl (fun m x => kPut x.path ⟨x.data, x.stat⟩ m) m).length ≤ m.length + l.length := fun l => by
    induction l with
    | nil => intro m; simp
    | cons x l ih =>
      intro m
      have h1 := ih (kPut x.path ⟨x.data, x.stat⟩ m)
      have h2 := kPut_len x.path (⟨x.data, x.stat⟩ : NodeD) m
      rw [List.foldl_cons, List.length_cons]
      omega
  have := h l []
  simpa [loadN] using this

theorem seat_fold_lenG : ∀ (l : List SitD) (m : List (Int × SitD)), (l.foldl seatOne m).length ≤ m.length + l.length
  | [], m => by simp
  | x :: l, m => by
    have h1 := seat_fold_lenG l (seatOne m x)
    have h2 : (seatOne m x).length ≤ m.length + 1 := by
      unfold seatOne
      split
      · omega
      · exact kPut_len _ _ _
    rw [List.foldl_cons, List.length_cons]
    omega

theorem seatsOk_ofG {T U : TreeD} (h : TSim T U) (hT : TOk T) (hU : ND U) : SeatsOk U := fun e he => by
  have h1 := (kGet_some hU.2).2 (show (e.1, e.2) ∈ U.seats from he)
  rw [← h.2] at h1
  exact (hT.ses _ _ h1).1

structure GT where
  k : Nat
  A : Arena

def agreesTInv (A2 : Arena) (T : TreeD) : LInv := { γ := GT, G := fun g => g.k ≤ (treePaths T).length ∧ A2.Sub g.A, keepS := [3, 4], keepB := [], sl := fun g => [(6, .v (.int .i64 g.k)), (5, .v (.int .i64 (kidSum T ((treePaths T).take g.k) : Nat)))], bl := fun _ => [], ar := fun g => g.A, mu := fun g => (treePaths T).length - g.k }

def agreesTS : FSpec := ⟨List DeedD, fun g vs A => ∃ v, vs = [v] ∧ DeedsS A v g ∧ HasA A, fun _ _ A v A' => A.Sub A' ∧ v = .bool true⟩

set_option maxRecDepth 100000 in
set_option maxHeartbeats 0 in
theorem agreesT_ok : FOk Tryd.prog 4 agreesTS := by
  refine fok_v mixed fun (ds : List DeedD) vs A hp => ?_
  obtain ⟨v, rfl, ⟨rows, hS, hlen, hR⟩, hHas⟩ : ∃ v, vs = [v] ∧ DeedsS A v ds ∧ HasA A := hp
  obtain ⟨ao, c, rfl, hc, hl, ha1, ha2, ha3⟩ := hS
  have hC : CTSound Tryd.prog (lookC [specE 5 awake11S, specE 8 doneS, specE 9 allS, specE 17 getS, specE 18 listS, specE 19 sameNode2S, specE 21 ownedS, specE 20 amongS, specE 22 newS, specE 13 loadS, specE 12 sittingsS, specE 14 seatS, specE 16 sameS] noC) := lookC_sound (noC_sound _) (fun x hx => by
    simp only [List.mem_cons, List.not_mem_nil, or_false] at hx
    rcases hx with rfl | rfl | rfl | rfl | rfl | rfl | rfl | rfl | rfl | rfl | rfl | rfl | rfl
    · exact specE_ok awake11_ok
    · exact specE_ok done_ok
    · exact specE_ok all_ok
    · exact specE_ok get_ok
    · exact specE_ok list_ok
    · exact specE_ok sameNode2_ok
    · exact specE_ok owned_ok
    · exact specE_ok among_ok
    · exact specE_ok new_ok
    · exact specE_ok loadC_ok
    · exact specE_ok sittings_ok
    · exact specE_ok seat_ok
    · exact specE_ok same_ok)
  refine ⟨_, tabO Tryd.prog _ noL 60 [(4, 0)], 60, hC, tabO_sound mixed hC (noL_sound _) _ _, fun blk os out tape D hD => ?_⟩
  conv => lhs; whnf
  refine (hD _).2 ⟨(), ⟨rfl, hHas⟩, fun v A' hq => ?_⟩
  obtain ⟨hA1, hv1⟩ : A' = A ∧ v = .bool true := hq
  subst hA1 hv1
  conv => lhs; whnf
  refine split_dec (fun h60 => ?_) (fun h60 => ?_)
  · have h60' : 60 < ds.length := by
      have h60 : (60 : Int) < ds.length := h60
      omega
    obtain ⟨g0, o, rfl, hra⟩ := Sl.at_ hc ha1 ha2 ha3 (by omega)
    obtain ⟨c', rfl⟩ : ∃ c', c = c' + 1 := ⟨c - 1, by omega⟩
    have hDs : DeedsS A' (.slice (some ⟨g0, o, none⟩) 60 (c' + 1)) (ds.take 60) := deeds_take hra hR rfl (by omega) (by omega) hlen
    obtain ⟨es, hes⟩ : ∃ es, es = ds.take 60 := ⟨_, rfl⟩
    have hel : es.length ≤ 60 := by rw [hes, List.length_take]; omega
    rw [← hes] at hDs
    conv => lhs; whnf
    refine go_dec (by show (60 : Int) ≤ ((c' + 1 : Nat) : Int); omega) ?_
    conv => lhs; whnf
    refine (hD _).2 ⟨es, ⟨_, rfl, hDs, hHas⟩, fun v A1 hq => ?_⟩
    obtain ⟨s1, t, B, O, rfl, hT, hO, hB⟩ : A'.Sub A1 ∧ ∃ t B O, v = .pointer (some ⟨t, 0, none⟩) ∧ TreeAt A1 B O t (treeRow treeNew es) ∧ (∀ k, O k → A'.blk k = none) ∧ ∀ k o, B.blk k = some o → A'.blk k = none := hq
    have hgood := tgood_new.row es
    have hrl := row_len es treeNew
    have e0 : treeNew.nodes.length = 1 ∧ treeNew.seats.length = 0 := ⟨rfl, rfl⟩
    generalize treeRow treeNew es = T at hT hgood hrl
    have hnl : T.nodes.length ≤ 1000000 := by omega
    have hsl : T.seats.length ≤ 1000000 := by omega
    have hfit : TFits T := ⟨hgood.ok.seatsOk, hnl, hsl⟩
    have hpl : (treePaths T).length = T.nodes.length := by rw [treePaths, sortL_length, List.length_map]
    conv => lhs; whnf
    refine (hD _).2 ⟨⟨T, B, O, t⟩, ⟨rfl, hT, hnl⟩, fun v A2 hq => ?_⟩
    obtain ⟨s2, hN2⟩ : A1.Sub A2 ∧ NodesS (A2.minus A1) v (treeAll T) := hq
    obtain ⟨a2, c2, rfl⟩ := hN2.choose_spec.2.1.form
    obtain ⟨l, hll, hR2⟩ := nodesR_of hN2 (minus_sub A1 A2)
    have hlen2 : l.length = (treeAll T).length := by rw [← hll, List.length_map]
    conv => lhs; whnf
    have hal : (treeAll T).length = (treePaths T).length := by rw [treeAll, List.length_map]
    obtain ⟨g, oo, rfl, hra⟩ : ∃ g o, a2 = some ⟨g, o, none⟩ ∧ A2.rd g o (l.length * 12) = some (l.flatMap nodeC) := by
      obtain ⟨ao9, c9, e9, h1, _, h2, h3, h4⟩ := hR2.1
      injection e9 with e9 e10 e11
      subst e9
      subst e11
      exact Sl.at_ h1 h2 h3 h4 (by rw [hlen2, hal, hpl]; obtain ⟨ps, hps⟩ := root_first hgood; have := congrArg List.length hps; rw [hpl] at this; rw [this]; simp)
    refine (hD _).2 ⟨agreesTInv A2 T, ⟨(⟨0, A2⟩ : GT), ⟨Nat.zero_le _, Arena.Sub.refl _⟩, ⟨rfl, rfl, trivial⟩, trivial, rfl⟩, fun (sg : GT) hG => ⟨⟨trivial, trivial, trivial⟩, trivial, ?_⟩⟩
    obtain ⟨k, Ak⟩ := sg
    have hG : k ≤ (treePaths T).length ∧ A2.Sub Ak := hG
    have hk := hG.1
    have hAk := hG.2
    have hTk := TreeAt_sub hT (s2.trans hAk)
    conv => lhs; whnf
    refine split_dec (fun hlt => ?_) (fun hlt => ?_) <;> (conv => lhs; whnf)
    · have hkl : k < (treePaths T).length := by
        have hlt : (k : Int) < ((treeAll T).length : Int) := hlt
        omega
      have hkl2 : k < l.length := by omega
      have hk1 : k - 1 < l.length := by omega
      have hget : ∀ j (h1 : j < l.length) (h2 : j < (treePaths T).length), l[j].1 = toldOf T (bytesOf (treePaths T)[j]) := fun j h1 h2 => by
        have h3 : (l.map (·.1))[j]'(by rw [List.length_map]; exact h1) = (treeAll T)[j]'(by rw [hal]; exact h2) := by simp only [hll]
        simpa [treeAll] using h3
      have hlk1 := hget k hkl2 hkl
      have hord : 0 < k → (ltL (pathL l[k].1.path) (pathL l[k - 1].1.path) || beqL (pathL l[k].1.path) (pathL l[k - 1].1.path)) = false := fun h0 => by
        rw [hget k hkl2 hkl, hget (k - 1) hk1 (by omega), told_path, told_path, pathL_bytesOf, pathL_bytesOf]
        exact ltL_not (paths_step hgood.ok.nd hkl h0)
      have hmemx : (treePaths T)[k] ∈ treePaths T := List.getElem_mem hkl
      obtain ⟨p, hp⟩ : ∃ p, p = bytesOf (treePaths T)[k] := ⟨_, rfl⟩
      have hpx : pathL p = (treePaths T)[k] := by rw [hp, pathL_bytesOf]
      obtain ⟨n, hn⟩ := all_get hmemx
      rw [← hp] at hlk1 hn
      have htold := told_some hn
      rw [← kids_len] at htold
      obtain ⟨nd, ⟨q1, q2, q3, q4, q5, q6, q7, q8, q9, q10⟩⟩ := n
      obtain ⟨⟨tt, vd⟩, hx⟩ : ∃ z, z = l[k] := ⟨_, rfl⟩
      have htt : tt = ⟨p, nd, ⟨q1, q2, q3, q4, q5, q6, q7, q8, nd.length, (treeKids T p).length⟩⟩ := by
        have h1 : l[k].1 = tt := by rw [← hx]
        rw [← h1, hlk1, htold]
      subst htt
      have hd : SlB A2 vd nd := hR2.2 ((⟨p, nd, ⟨q1, q2, q3, q4, q5, q6, q7, q8, nd.length, (treeKids T p).length⟩⟩ : ToldD), vd) (by rw [hx]; exact List.getElem_mem _)
      obtain ⟨ad, cd, rfl⟩ := hd.1.form
      have r1 := row_at (enc := nodeC) (fun _ => rfl) hra k hkl2 rfl
      rw [← hx] at r1
      have r1 : Ak.rd g (oo + k * 12) 12 = some [.string p, .slice ad nd.length cd, .int .i64 q1, .int .i64 q2, .int .i64 q3, .int .i64 q4, .int .i64 q5, .int .i64 q6, .int .i64 q7, .int .i64 q8, .int .i64 nd.length, .int .i64 (treeKids T p).length] := rd_sub hAk r1
      have r1p : Ak.rd g (oo + k * 12) 1 = some [.string p] := by
        have := rd_at r1 (i := 0) (m := 1) (by omega)
        exact this
      have hw : 0 < k → IntKind.i64.wrap ((k : Int) - 1) = ((k - 1 : Nat) : Int) := fun hk0 => by
        rw [Sx.wrap_i64 (by omega) (by omega)]; omega
      have hin0 : 0 < k → 0 ≤ IntKind.i64.wrap ((k : Int) - 1) ∧ IntKind.i64.wrap ((k : Int) - 1) < ((treeAll T).length : Int) := fun hk0 => by rw [hw hk0]; omega
      have r0 := rd_sub hAk (row_at (enc := nodeC) (fun _ => rfl) hra (k - 1) hk1 rfl)
      have r0p : 0 < k → Ak.rd g (oo + (IntKind.i64.wrap ((k : Int) - 1)).toNat * 12) 1 = some [.string l[k - 1].1.path] := fun hk0 => by
        have := rd_at r0 (i := 0) (m := 1) (by omega)
        rw [hw hk0, Int.toNat_natCast]
        exact this
      have i0 : (0 : Int) ≤ (k : Int) ∧ (k : Int) < ((treeAll T).length : Int) := by omega
      have hordp : 0 < k → (ltL (pathL p) (pathL l[k - 1].1.path) || beqL (pathL p) (pathL l[k - 1].1.path)) = false := by
        rw [← hx] at hord; exact hord
      have hks := kidSum_snoc T (treePaths T) k hkl
      rw [← hp, ← kids_len] at hks
      have hkb := kidSum_le T (treePaths T) (k + 1)
      have hkt : kidSum T (treePaths T) + 1 ≤ T.nodes.length := kids_sum hgood.ok hgood.keys
      have hslot : some (SV.v (.int .i64 (IntKind.i64.wrap (((kidSum T ((treePaths T).take k) : Nat) : Int) + (((treeKids T p).length : Nat) : Int))))) = some (SV.v (.int .i64 ((kidSum T ((treePaths T).take (k + 1)) : Nat) : Int))) := by
        rw [Sx.wrap_i64 (by omega) (by omega), hks]; rfl
      have hown : 1 ≤ q8 → pathL p ∈ ownedP T q8 := fun ho => by
        rw [hpx]
        refine List.mem_filter.2 ⟨hmemx, ?_⟩
        unfold isOwn
        rw [← hp, hn]
        exact decide_eq_true ⟨ho, _, rfl, rfl⟩
      repeat (first | refine go_in i0 ?_ | refine go_rd r1p ?_ | refine go_rd r1 ?_
              conv => lhs; whnf)
      refine (hD _).2 ⟨(⟨T, B, O, t⟩, p), ⟨rfl, hTk, hnl⟩, fun v A4 hq => ?_⟩
      have hq : Ak.Sub A4 ∧ GotV Ak A4 T p v := hq
      have s4 := hq.1
      have hG4 := hq.2
      rw [GotV, hn] at hG4
      obtain ⟨vd4, rfl, hS4⟩ : ∃ vd, v = .tuple #[nodeV p vd ⟨q1, q2, q3, q4, q5, q6, q7, q8, nd.length, (treeKids T p).length⟩, .bool true] ∧ SlB (A4.minus Ak) vd nd := hG4
      obtain ⟨a4, c4, rfl⟩ := hS4.1.form
      conv => lhs; whnf
      have r1p4 := rd_sub s4 r1p
      have r14 := rd_sub s4 r1
      repeat (first | refine go_in i0 ?_ | refine go_rd r1p4 ?_ | refine go_rd r14 ?_
              conv => lhs; whnf)
      refine (hD _).2 ⟨(⟨T, B, O, t⟩, p), ⟨rfl, TreeAt_sub hTk s4, hnl⟩, fun v A5 hq => ?_⟩
      have hq : A4.Sub A5 ∧ ∃ x, v = .tuple #[x, .bool (kGet p T.nodes).isSome] ∧ Sl (A5.minus A4) 1 (if (kGet p T.nodes).isSome then treeKids T p else []).length x ((if (kGet p T.nodes).isSome then treeKids T p else []).map strV) := hq
      have s5 := hq.1
      have hq2 := hq.2
      rw [hn] at hq2
      obtain ⟨x5, rfl, hx5⟩ : ∃ x, v = .tuple #[x, .bool true] ∧ Sl (A5.minus A4) 1 (treeKids T p).length x ((treeKids T p).map strV) := hq2
      obtain ⟨a5, c5, rfl⟩ := hx5.form
      have r1p5 := rd_sub s5 r1p4
      have r15 := rd_sub s5 r14
      have r0p5 : 0 < k → A5.rd g (oo + (IntKind.i64.wrap ((k : Int) - 1)).toNat * 12) 1 = some [.string l[k - 1].1.path] := fun hk0 => rd_sub (s4.trans s5) (r0p hk0)
      conv => lhs; whnf
      repeat (first | refine go_in i0 ?_ | refine go_rd r1p5 ?_ | refine go_rd r15 ?_
              conv => lhs; whnf)
      have hS45 : SlB A5 (.slice a4 nd.length c4) nd := hS4.sub ((minus_sub Ak A4).trans s5)
      have hd5 : SlB A5 (.slice ad nd.length cd) nd := hd.sub (hAk.trans (s4.trans s5))
      refine (hD _).2 ⟨(((⟨p, nd, ⟨q1, q2, q3, q4, q5, q6, q7, q8, nd.length, (treeKids T p).length⟩⟩ : ToldD), .slice a4 nd.length c4), ((⟨p, nd, ⟨q1, q2, q3, q4, q5, q6, q7, q8, nd.length, (treeKids T p).length⟩⟩ : ToldD), .slice ad nd.length cd)), ⟨rfl, hS45, hd5⟩, fun v A6 hq => ?_⟩
      have hq : A6 = A5 ∧ v = .bool (decide ((⟨p, nd, ⟨q1, q2, q3, q4, q5, q6, q7, q8, nd.length, (treeKids T p).length⟩⟩ : ToldD) = ⟨p, nd, ⟨q1, q2, q3, q4, q5, q6, q7, q8, nd.length, (treeKids T p).length⟩⟩)) := hq
      have h6 := hq.1.symm
      have hv := hq.2
      rw [decide_eq_true rfl] at hv
      subst hv
      subst h6
      conv => lhs; whnf
      iterate 2
        refine split_b (fun hb => absurd hb (by simp)) (fun _ => ?_)
        conv => lhs; whnf
      refine split_dec (fun h0 => ?_) (fun h0 => ?_) <;> (conv => lhs; whnf)
      · have h0' : 0 < k := by
          have h0 : (0 : Int) < (k : Int) := h0
          omega
        refine go_in i0 ?_
        conv => lhs; whnf
        refine go_rd r1p5 ?_
        conv => lhs; whnf
        refine go_in (hin0 h0') ?_
        conv => lhs; whnf
        refine go_rd (r0p5 h0') ?_
        conv => lhs; whnf
        refine split_b (fun hb => absurd (hb.symm.trans (hordp h0')) (by simp)) (fun _ => ?_)
        conv => lhs; whnf
        refine split_dec (fun ho => ?_) (fun ho => ?_) <;> (conv => lhs; whnf)
        · refine (hD _).2 ⟨(⟨T, B, O, t⟩, q8), ⟨rfl, TreeAt_sub hTk (s4.trans s5), hnl⟩, fun v A7 hq => ?_⟩
          have hq : A5.Sub A7 ∧ Sl (A7.minus A5) 1 (ownedP T q8).length v ((ownedP T q8).map strV) := hq
          have s7 := hq.1
          have hS7 := hq.2
          obtain ⟨a7, c7, rfl⟩ := hS7.form
          have hol : (ownedP T q8).length ≤ 140737488351232 := by
            have h1 := List.length_filter_le (isOwn T q8) (treePaths T)
            have h2 : (ownedP T q8).length = ((treePaths T).filter (isOwn T q8)).length := rfl
            omega
          have hom : pathL p ∈ ownedP T q8 := hown ho
          conv => lhs; whnf
          repeat (refine go_D hD rfl ?_
                  conv => lhs; whnf)
          refine (hD _).2 ⟨(ownedP T q8, pathL p), ⟨_, by rw [strV_pathL], hS7.sub (minus_sub A5 A7), hol⟩, fun v A8 hq => ?_⟩
          have hq : A8 = A7 ∧ v = .bool (decide (pathL p ∈ ownedP T q8)) := hq
          have h8 := hq.1.symm
          have hv := hq.2
          rw [decide_eq_true hom] at hv
          subst hv
          subst h8
          conv => lhs; whnf
          repeat (refine go_D hD rfl ?_
                  conv => lhs; whnf)
          exact (hD _).2 ⟨(⟨k + 1, A7⟩ : GT), ⟨⟨by show k + 1 ≤ _; omega, hAk.trans (s4.trans (s5.trans s7))⟩, ⟨inc_slot (k := k) (by omega), hslot, trivial⟩, trivial, rfl⟩, by show (treePaths T).length - (k + 1) < (treePaths T).length - k; omega, ⟨rfl, rfl, trivial⟩, trivial⟩
        · exact (hD _).2 ⟨(⟨k + 1, A5⟩ : GT), ⟨⟨by show k + 1 ≤ _; omega, hAk.trans (s4.trans s5)⟩, ⟨inc_slot (k := k) (by omega), hslot, trivial⟩, trivial, rfl⟩, by show (treePaths T).length - (k + 1) < (treePaths T).length - k; omega, ⟨rfl, rfl, trivial⟩, trivial⟩
      · skip
        refine split_dec (fun ho => ?_) (fun ho => ?_) <;> (conv => lhs; whnf)
        · refine (hD _).2 ⟨(⟨T, B, O, t⟩, q8), ⟨rfl, TreeAt_sub hTk (s4.trans s5), hnl⟩, fun v A7 hq => ?_⟩
          have hq : A5.Sub A7 ∧ Sl (A7.minus A5) 1 (ownedP T q8).length v ((ownedP T q8).map strV) := hq
          have s7 := hq.1
          have hS7 := hq.2
          obtain ⟨a7, c7, rfl⟩ := hS7.form
          have hol : (ownedP T q8).length ≤ 140737488351232 := by
            have h1 := List.length_filter_le (isOwn T q8) (treePaths T)
            have h2 : (ownedP T q8).length = ((treePaths T).filter (isOwn T q8)).length := rfl
            omega
          have hom : pathL p ∈ ownedP T q8 := hown ho
          conv => lhs; whnf
          repeat (refine go_D hD rfl ?_
                  conv => lhs; whnf)
          refine (hD _).2 ⟨(ownedP T q8, pathL p), ⟨_, by rw [strV_pathL], hS7.sub (minus_sub A5 A7), hol⟩, fun v A8 hq => ?_⟩
          have hq : A8 = A7 ∧ v = .bool (decide (pathL p ∈ ownedP T q8)) := hq
          have h8 := hq.1.symm
          have hv := hq.2
          rw [decide_eq_true hom] at hv
          subst hv
          subst h8
          conv => lhs; whnf
          repeat (refine go_D hD rfl ?_
                  conv => lhs; whnf)
          exact (hD _).2 ⟨(⟨k + 1, A7⟩ : GT), ⟨⟨by show k + 1 ≤ _; omega, hAk.trans (s4.trans (s5.trans s7))⟩, ⟨inc_slot (k := k) (by omega), hslot, trivial⟩, trivial, rfl⟩, by show (treePaths T).length - (k + 1) < (treePaths T).length - k; omega, ⟨rfl, rfl, trivial⟩, trivial⟩
        · exact (hD _).2 ⟨(⟨k + 1, A5⟩ : GT), ⟨⟨by show k + 1 ≤ _; omega, hAk.trans (s4.trans s5)⟩, ⟨inc_slot (k := k) (by omega), hslot, trivial⟩, trivial, rfl⟩, by show (treePaths T).length - (k + 1) < (treePaths T).length - k; omega, ⟨rfl, rfl, trivial⟩, trivial⟩
    · have hke : k = (treePaths T).length := by
        have hlt : ¬ (k : Int) < ((treeAll T).length : Int) := hlt
        omega
      have hgn : TreeD.nodes treeNew = treeNew.nodes := rfl
      have hkt : kidSum T (treePaths T) + 1 ≤ T.nodes.length := kids_sum hgood.ok hgood.keys
      have hkk : kidSum T ((treePaths T).take k) = kidSum T (treePaths T) := by rw [hke, List.take_length]
      have hlk := load_ok hgood
      have hlc : LoadC (l.map (·.1)) := by rw [hll]; exact loadC_of hlk
      have hsim := loaded_sim hgood
      have hpos : 0 < l.length := by omega
      have hroot : l[0].1.path = rootS := by
        obtain ⟨x, hx, hr⟩ := hlk.2.2
        have h1 : (treeAll T)[0]? = some x := by rw [← List.head?_eq_getElem?]; exact hx
        rw [← hll, List.getElem?_map, List.getElem?_eq_getElem hpos] at h1
        injection h1 with h1
        have h1 : l[0].1 = x := h1
        rw [h1]; exact hr
      have r0 := row_at (enc := nodeC) (fun _ => rfl) hra 0 hpos rfl
      rw [Nat.zero_mul, Nat.add_zero] at r0
      have r0p : A2.rd g oo 1 = some [.string rootS] := by
        have := rd_at r0 (i := 0) (m := 1) (by omega)
        rw [← hroot]
        exact this
      refine (hD _).2 ⟨(), rfl, fun v A7 hq => ?_⟩
      obtain ⟨u, Ou, rfl, hU, s7, hOu⟩ : ∃ t O, v = .pointer (some ⟨t, 0, none⟩) ∧ TreeAt A7 Arena.void O t treeNew ∧ Ak.Sub A7 ∧ ∀ k, O k → Ak.blk k = none := hq
      have hT7 := TreeAt_sub hTk s7
      have hvd : ∀ k o, Arena.void.blk k = some o → Ak.blk k = none := fun k o hk => by cases hk
      have hAp := apart_newG hTk hOu hvd
      have hAs7 : Aside A7 Ak Ou := ⟨s7, fun k o hk hO => by rw [hOu k hO] at hk; cases hk⟩
      have hNR : NodesR Ak (.slice (some ⟨g, oo, none⟩) (treeAll T).length c2) l := by
        have h1 := hR2.1.sub hAk
        exact ⟨h1, fun x hx => (hR2.2 x hx).sub hAk⟩
      conv => lhs; whnf
      refine (hD _).2 ⟨(⟨treeNew, Arena.void, Ou, u⟩, l, Ak), ⟨_, rfl, hU, hNR, by show l.length ≤ _; omega, hAs7⟩, fun v A8 hq => ?_⟩
      have hq : if LoadC (l.map (·.1)) then v = .int .i64 0 ∧ StepTo A7 Arena.void Ou u ⟨loadN (l.map (·.1)), treeNew.seats⟩ A8 else v = .int .i64 4 ∧ A8 = A7 := hq
      rw [if_pos hlc, hll] at hq
      obtain ⟨rfl, B8, O8, hU8, hS8⟩ := hq
      have h28 := two_stepG hT7 hAp.symm hS8
      have hT8 := h28.1
      have hAp8 := h28.2
      have s8 : Ak.Sub A8 := hS8.stays hAs7.1 hAs7.2
      conv => lhs; whnf
      refine (hD _).2 ⟨⟨T, B, O, t⟩, ⟨rfl, hT8, hfit.1, hsl⟩, fun v A9 hq => ?_⟩
      have hq : A8.Sub A9 ∧ Sl (A9.minus A8) 3 (treeSits T).length v ((treeSits T).flatMap sitC) := hq
      have s9 := hq.1
      have hS9 := hq.2
      obtain ⟨a9, c9, rfl⟩ := hS9.form
      have hsl2 : (treeSits T).length ≤ 140737488351232 := by rw [treeSits_len]; omega
      have hAs9 : Aside A9 (A9.minus A8) O8 := ⟨minus_sub _ _, fun j o hj hO => by
        obtain ⟨m1, s1', E1, h1⟩ := hU8
        obtain ⟨o', ho'⟩ := h1.live j hO
        rw [minus_none _ ho'] at hj; cases hj⟩
      conv => lhs; whnf
      refine (hD _).2 ⟨(⟨⟨loadN (treeAll T), treeNew.seats⟩, B8, O8, u⟩, treeSits T, A9.minus A8), ⟨_, rfl, TreeAt_sub hU8 s9, ⟨hS9, hsl2⟩, hAs9⟩, fun v A10 hq => ?_⟩
      have hq : v = .tuple #[] ∧ StepTo A9 B8 O8 u ⟨loadN (treeAll T), seatsOf (treeSits T)⟩ A10 := hq
      obtain ⟨rfl, B10, O10, hU10, hS10⟩ := hq
      have h30 := two_stepG (TreeAt_sub hT8 s9) hAp8 hS10
      have hT10 := h30.1
      have hdO8 : ∀ j o, Ak.blk j = some o → ¬ O8 j := fun j o hj hO => by
        rcases hS8.own j hO with h1 | h1
        · rw [hOu j h1] at hj; cases hj
        · have := s7 _ _ hj; rw [h1] at this; cases this
      have s10 : Ak.Sub A10 := hS10.stays (s8.trans s9) hdO8
      have r0p10 : A10.rd g oo 1 = some [.string rootS] := rd_sub (hAk.trans s10) r0p
      have hfu : TFits ⟨loadN (treeAll T), seatsOf (treeSits T)⟩ := by
        have h1 := loadN_len (treeAll T)
        have h2 := seat_fold_lenG (treeSits T) []
        rw [treeAll_len] at h1
        rw [treeSits_len] at h2
        refine ⟨seatsOk_ofG hsim hgood.ok (TreeAt.nd hU10), by show (loadN (treeAll T)).length ≤ 1000000; omega, ?_⟩
        show ((treeSits T).foldl seatOne []).length ≤ _
        simp only [List.length_nil] at h2
        omega
      have hsame : TSame T ⟨loadN (treeAll T), seatsOf (treeSits T)⟩ := hsim.same hgood.ok.nd (TreeAt.nd hU10)
      have ilen : (0 : Int) < ((treeAll T).length : Int) := by omega
      have i00 : (0 : Int) ≤ (0 : Int) ∧ (0 : Int) < ((treeAll T).length : Int) := by omega
      have hwl : IntKind.i64.wrap (((treeAll T).length : Int) - 1) = (((treeAll T).length - 1 : Nat) : Int) := by
        rw [Sx.wrap_i64 (by omega) (by omega)]; omega
      conv => lhs; whnf
      refine go_dec ilen ?_
      conv => lhs; whnf
      repeat (first | refine go_in i00 ?_ | refine go_rd r0p10 ?_
              conv => lhs; whnf)
      refine go_dec (by show ((kidSum T ((treePaths T).take k) : Nat) : Int) ≤ IntKind.i64.wrap (((treeAll T).length : Int) - 1); rw [hwl, hkk]; omega) ?_
      conv => lhs; whnf
      refine (hD _).2 ⟨(⟨T, B, O, t⟩, ⟨⟨loadN (treeAll T), seatsOf (treeSits T)⟩, B10, O10, u⟩), ⟨rfl, hT10, hU10, hfit, hfu⟩, fun v A11 hq => ?_⟩
      have hq : A10.Sub A11 ∧ v = .bool (decide (TSame T ⟨loadN (treeAll T), seatsOf (treeSits T)⟩)) := hq
      have s11 := hq.1
      have hv := hq.2
      rw [decide_eq_true hsame] at hv
      subst hv
      have hend : agreesTS.post ds [] A' (.bool true) A11 := ⟨(s1.trans (s2.trans (hAk.trans s10))).trans s11, rfl⟩
      conv => lhs; whnf
      exact (hD _).2 hend
  · have hDs : DeedsS A' (.slice ao ds.length c) ds := ⟨rows, ⟨ao, c, rfl, hc, hl, ha1, ha2, ha3⟩, hlen, hR⟩
    obtain ⟨es, hes⟩ : ∃ es, es = ds := ⟨_, rfl⟩
    have hel : es.length ≤ 60 := by
      have h60 : ¬ (60 : Int) < ds.length := h60
      rw [hes]; omega
    have hDs : DeedsS A' (.slice ao ds.length c) es := by rw [hes]; exact hDs
    conv => lhs; whnf
    refine (hD _).2 ⟨es, ⟨_, rfl, hDs, hHas⟩, fun v A1 hq => ?_⟩
    obtain ⟨s1, t, B, O, rfl, hT, hO, hB⟩ : A'.Sub A1 ∧ ∃ t B O, v = .pointer (some ⟨t, 0, none⟩) ∧ TreeAt A1 B O t (treeRow treeNew es) ∧ (∀ k, O k → A'.blk k = none) ∧ ∀ k o, B.blk k = some o → A'.blk k = none := hq
    have hgood := tgood_new.row es
    have hrl := row_len es treeNew
    have e0 : treeNew.nodes.length = 1 ∧ treeNew.seats.length = 0 := ⟨rfl, rfl⟩
    generalize treeRow treeNew es = T at hT hgood hrl
    have hnl : T.nodes.length ≤ 1000000 := by omega
    have hsl : T.seats.length ≤ 1000000 := by omega
    have hfit : TFits T := ⟨hgood.ok.seatsOk, hnl, hsl⟩
    have hpl : (treePaths T).length = T.nodes.length := by rw [treePaths, sortL_length, List.length_map]
    conv => lhs; whnf
    refine (hD _).2 ⟨⟨T, B, O, t⟩, ⟨rfl, hT, hnl⟩, fun v A2 hq => ?_⟩
    obtain ⟨s2, hN2⟩ : A1.Sub A2 ∧ NodesS (A2.minus A1) v (treeAll T) := hq
    obtain ⟨a2, c2, rfl⟩ := hN2.choose_spec.2.1.form
    obtain ⟨l, hll, hR2⟩ := nodesR_of hN2 (minus_sub A1 A2)
    have hlen2 : l.length = (treeAll T).length := by rw [← hll, List.length_map]
    conv => lhs; whnf
    have hal : (treeAll T).length = (treePaths T).length := by rw [treeAll, List.length_map]
    obtain ⟨g, oo, rfl, hra⟩ : ∃ g o, a2 = some ⟨g, o, none⟩ ∧ A2.rd g o (l.length * 12) = some (l.flatMap nodeC) := by
      obtain ⟨ao9, c9, e9, h1, _, h2, h3, h4⟩ := hR2.1
      injection e9 with e9 e10 e11
      subst e9
      subst e11
      exact Sl.at_ h1 h2 h3 h4 (by rw [hlen2, hal, hpl]; obtain ⟨ps, hps⟩ := root_first hgood; have := congrArg List.length hps; rw [hpl] at this; rw [this]; simp)
    refine (hD _).2 ⟨agreesTInv A2 T, ⟨(⟨0, A2⟩ : GT), ⟨Nat.zero_le _, Arena.Sub.refl _⟩, ⟨rfl, rfl, trivial⟩, trivial, rfl⟩, fun (sg : GT) hG => ⟨⟨trivial, trivial, trivial⟩, trivial, ?_⟩⟩
    obtain ⟨k, Ak⟩ := sg
    have hG : k ≤ (treePaths T).length ∧ A2.Sub Ak := hG
    have hk := hG.1
    have hAk := hG.2
    have hTk := TreeAt_sub hT (s2.trans hAk)
    conv => lhs; whnf
    refine split_dec (fun hlt => ?_) (fun hlt => ?_) <;> (conv => lhs; whnf)
    · have hkl : k < (treePaths T).length := by
        have hlt : (k : Int) < ((treeAll T).length : Int) := hlt
        omega
      have hkl2 : k < l.length := by omega
      have hk1 : k - 1 < l.length := by omega
      have hget : ∀ j (h1 : j < l.length) (h2 : j < (treePaths T).length), l[j].1 = toldOf T (bytesOf (treePaths T)[j]) := fun j h1 h2 => by
        have h3 : (l.map (·.1))[j]'(by rw [List.length_map]; exact h1) = (treeAll T)[j]'(by rw [hal]; exact h2) := by simp only [hll]
        simpa [treeAll] using h3
      have hlk1 := hget k hkl2 hkl
      have hord : 0 < k → (ltL (pathL l[k].1.path) (pathL l[k - 1].1.path) || beqL (pathL l[k].1.path) (pathL l[k - 1].1.path)) = false := fun h0 => by
        rw [hget k hkl2 hkl, hget (k - 1) hk1 (by omega), told_path, told_path, pathL_bytesOf, pathL_bytesOf]
        exact ltL_not (paths_step hgood.ok.nd hkl h0)
      have hmemx : (treePaths T)[k] ∈ treePaths T := List.getElem_mem hkl
      obtain ⟨p, hp⟩ : ∃ p, p = bytesOf (treePaths T)[k] := ⟨_, rfl⟩
      have hpx : pathL p = (treePaths T)[k] := by rw [hp, pathL_bytesOf]
      obtain ⟨n, hn⟩ := all_get hmemx
      rw [← hp] at hlk1 hn
      have htold := told_some hn
      rw [← kids_len] at htold
      obtain ⟨nd, ⟨q1, q2, q3, q4, q5, q6, q7, q8, q9, q10⟩⟩ := n
      obtain ⟨⟨tt, vd⟩, hx⟩ : ∃ z, z = l[k] := ⟨_, rfl⟩
      have htt : tt = ⟨p, nd, ⟨q1, q2, q3, q4, q5, q6, q7, q8, nd.length, (treeKids T p).length⟩⟩ := by
        have h1 : l[k].1 = tt := by rw [← hx]
        rw [← h1, hlk1, htold]
      subst htt
      have hd : SlB A2 vd nd := hR2.2 ((⟨p, nd, ⟨q1, q2, q3, q4, q5, q6, q7, q8, nd.length, (treeKids T p).length⟩⟩ : ToldD), vd) (by rw [hx]; exact List.getElem_mem _)
      obtain ⟨ad, cd, rfl⟩ := hd.1.form
      have r1 := row_at (enc := nodeC) (fun _ => rfl) hra k hkl2 rfl
      rw [← hx] at r1
      have r1 : Ak.rd g (oo + k * 12) 12 = some [.string p, .slice ad nd.length cd, .int .i64 q1, .int .i64 q2, .int .i64 q3, .int .i64 q4, .int .i64 q5, .int .i64 q6, .int .i64 q7, .int .i64 q8, .int .i64 nd.length, .int .i64 (treeKids T p).length] := rd_sub hAk r1
      have r1p : Ak.rd g (oo + k * 12) 1 = some [.string p] := by
        have := rd_at r1 (i := 0) (m := 1) (by omega)
        exact this
      have hw : 0 < k → IntKind.i64.wrap ((k : Int) - 1) = ((k - 1 : Nat) : Int) := fun hk0 => by
        rw [Sx.wrap_i64 (by omega) (by omega)]; omega
      have hin0 : 0 < k → 0 ≤ IntKind.i64.wrap ((k : Int) - 1) ∧ IntKind.i64.wrap ((k : Int) - 1) < ((treeAll T).length : Int) := fun hk0 => by rw [hw hk0]; omega
      have r0 := rd_sub hAk (row_at (enc := nodeC) (fun _ => rfl) hra (k - 1) hk1 rfl)
      have r0p : 0 < k → Ak.rd g (oo + (IntKind.i64.wrap ((k : Int) - 1)).toNat * 12) 1 = some [.string l[k - 1].1.path] := fun hk0 => by
        have := rd_at r0 (i := 0) (m := 1) (by omega)
        rw [hw hk0, Int.toNat_natCast]
        exact this
      have i0 : (0 : Int) ≤ (k : Int) ∧ (k : Int) < ((treeAll T).length : Int) := by omega
      have hordp : 0 < k → (ltL (pathL p) (pathL l[k - 1].1.path) || beqL (pathL p) (pathL l[k - 1].1.path)) = false := by
        rw [← hx] at hord; exact hord
      have hks := kidSum_snoc T (treePaths T) k hkl
      rw [← hp, ← kids_len] at hks
      have hkb := kidSum_le T (treePaths T) (k + 1)
      have hkt : kidSum T (treePaths T) + 1 ≤ T.nodes.length := kids_sum hgood.ok hgood.keys
      have hslot : some (SV.v (.int .i64 (IntKind.i64.wrap (((kidSum T ((treePaths T).take k) : Nat) : Int) + (((treeKids T p).length : Nat) : Int))))) = some (SV.v (.int .i64 ((kidSum T ((treePaths T).take (k + 1)) : Nat) : Int))) := by
        rw [Sx.wrap_i64 (by omega) (by omega), hks]; rfl
      have hown : 1 ≤ q8 → pathL p ∈ ownedP T q8 := fun ho => by
        rw [hpx]
        refine List.mem_filter.2 ⟨hmemx, ?_⟩
        unfold isOwn
        rw [← hp, hn]
        exact decide_eq_true ⟨ho, _, rfl, rfl⟩
      repeat (first | refine go_in i0 ?_ | refine go_rd r1p ?_ | refine go_rd r1 ?_
              conv => lhs; whnf)
      refine (hD _).2 ⟨(⟨T, B, O, t⟩, p), ⟨rfl, hTk, hnl⟩, fun v A4 hq => ?_⟩
      have hq : Ak.Sub A4 ∧ GotV Ak A4 T p v := hq
      have s4 := hq.1
      have hG4 := hq.2
      rw [GotV, hn] at hG4
      obtain ⟨vd4, rfl, hS4⟩ : ∃ vd, v = .tuple #[nodeV p vd ⟨q1, q2, q3, q4, q5, q6, q7, q8, nd.length, (treeKids T p).length⟩, .bool true] ∧ SlB (A4.minus Ak) vd nd := hG4
      obtain ⟨a4, c4, rfl⟩ := hS4.1.form
      conv => lhs; whnf
      have r1p4 := rd_sub s4 r1p
      have r14 := rd_sub s4 r1
      repeat (first | refine go_in i0 ?_ | refine go_rd r1p4 ?_ | refine go_rd r14 ?_
              conv => lhs; whnf)
      refine (hD _).2 ⟨(⟨T, B, O, t⟩, p), ⟨rfl, TreeAt_sub hTk s4, hnl⟩, fun v A5 hq => ?_⟩
      have hq : A4.Sub A5 ∧ ∃ x, v = .tuple #[x, .bool (kGet p T.nodes).isSome] ∧ Sl (A5.minus A4) 1 (if (kGet p T.nodes).isSome then treeKids T p else []).length x ((if (kGet p T.nodes).isSome then treeKids T p else []).map strV) := hq
      have s5 := hq.1
      have hq2 := hq.2
      rw [hn] at hq2
      obtain ⟨x5, rfl, hx5⟩ : ∃ x, v = .tuple #[x, .bool true] ∧ Sl (A5.minus A4) 1 (treeKids T p).length x ((treeKids T p).map strV) := hq2
      obtain ⟨a5, c5, rfl⟩ := hx5.form
      have r1p5 := rd_sub s5 r1p4
      have r15 := rd_sub s5 r14
      have r0p5 : 0 < k → A5.rd g (oo + (IntKind.i64.wrap ((k : Int) - 1)).toNat * 12) 1 = some [.string l[k - 1].1.path] := fun hk0 => rd_sub (s4.trans s5) (r0p hk0)
      conv => lhs; whnf
      repeat (first | refine go_in i0 ?_ | refine go_rd r1p5 ?_ | refine go_rd r15 ?_
              conv => lhs; whnf)
      have hS45 : SlB A5 (.slice a4 nd.length c4) nd := hS4.sub ((minus_sub Ak A4).trans s5)
      have hd5 : SlB A5 (.slice ad nd.length cd) nd := hd.sub (hAk.trans (s4.trans s5))
      refine (hD _).2 ⟨(((⟨p, nd, ⟨q1, q2, q3, q4, q5, q6, q7, q8, nd.length, (treeKids T p).length⟩⟩ : ToldD), .slice a4 nd.length c4), ((⟨p, nd, ⟨q1, q2, q3, q4, q5, q6, q7, q8, nd.length, (treeKids T p).length⟩⟩ : ToldD), .slice ad nd.length cd)), ⟨rfl, hS45, hd5⟩, fun v A6 hq => ?_⟩
      have hq : A6 = A5 ∧ v = .bool (decide ((⟨p, nd, ⟨q1, q2, q3, q4, q5, q6, q7, q8, nd.length, (treeKids T p).length⟩⟩ : ToldD) = ⟨p, nd, ⟨q1, q2, q3, q4, q5, q6, q7, q8, nd.length, (treeKids T p).length⟩⟩)) := hq
      have h6 := hq.1.symm
      have hv := hq.2
      rw [decide_eq_true rfl] at hv
      subst hv
      subst h6
      conv => lhs; whnf
      iterate 2
        refine split_b (fun hb => absurd hb (by simp)) (fun _ => ?_)
        conv => lhs; whnf
      refine split_dec (fun h0 => ?_) (fun h0 => ?_) <;> (conv => lhs; whnf)
      · have h0' : 0 < k := by
          have h0 : (0 : Int) < (k : Int) := h0
          omega
        refine go_in i0 ?_
        conv => lhs; whnf
        refine go_rd r1p5 ?_
        conv => lhs; whnf
        refine go_in (hin0 h0') ?_
        conv => lhs; whnf
        refine go_rd (r0p5 h0') ?_
        conv => lhs; whnf
        refine split_b (fun hb => absurd (hb.symm.trans (hordp h0')) (by simp)) (fun _ => ?_)
        conv => lhs; whnf
        refine split_dec (fun ho => ?_) (fun ho => ?_) <;> (conv => lhs; whnf)
        · refine (hD _).2 ⟨(⟨T, B, O, t⟩, q8), ⟨rfl, TreeAt_sub hTk (s4.trans s5), hnl⟩, fun v A7 hq => ?_⟩
          have hq : A5.Sub A7 ∧ Sl (A7.minus A5) 1 (ownedP T q8).length v ((ownedP T q8).map strV) := hq
          have s7 := hq.1
          have hS7 := hq.2
          obtain ⟨a7, c7, rfl⟩ := hS7.form
          have hol : (ownedP T q8).length ≤ 140737488351232 := by
            have h1 := List.length_filter_le (isOwn T q8) (treePaths T)
            have h2 : (ownedP T q8).length = ((treePaths T).filter (isOwn T q8)).length := rfl
            omega
          have hom : pathL p ∈ ownedP T q8 := hown ho
          conv => lhs; whnf
          repeat (refine go_D hD rfl ?_
                  conv => lhs; whnf)
          refine (hD _).2 ⟨(ownedP T q8, pathL p), ⟨_, by rw [strV_pathL], hS7.sub (minus_sub A5 A7), hol⟩, fun v A8 hq => ?_⟩
          have hq : A8 = A7 ∧ v = .bool (decide (pathL p ∈ ownedP T q8)) := hq
          have h8 := hq.1.symm
          have hv := hq.2
          rw [decide_eq_true hom] at hv
          subst hv
          subst h8
          conv => lhs; whnf
          repeat (refine go_D hD rfl ?_
                  conv => lhs; whnf)
          exact (hD _).2 ⟨(⟨k + 1, A7⟩ : GT), ⟨⟨by show k + 1 ≤ _; omega, hAk.trans (s4.trans (s5.trans s7))⟩, ⟨inc_slot (k := k) (by omega), hslot, trivial⟩, trivial, rfl⟩, by show (treePaths T).length - (k + 1) < (treePaths T).length - k; omega, ⟨rfl, rfl, trivial⟩, trivial⟩
        · exact (hD _).2 ⟨(⟨k + 1, A5⟩ : GT), ⟨⟨by show k + 1 ≤ _; omega, hAk.trans (s4.trans s5)⟩, ⟨inc_slot (k := k) (by omega), hslot, trivial⟩, trivial, rfl⟩, by show (treePaths T).length - (k + 1) < (treePaths T).length - k; omega, ⟨rfl, rfl, trivial⟩, trivial⟩
      · skip
        refine split_dec (fun ho => ?_) (fun ho => ?_) <;> (conv => lhs; whnf)
        · refine (hD _).2 ⟨(⟨T, B, O, t⟩, q8), ⟨rfl, TreeAt_sub hTk (s4.trans s5), hnl⟩, fun v A7 hq => ?_⟩
          have hq : A5.Sub A7 ∧ Sl (A7.minus A5) 1 (ownedP T q8).length v ((ownedP T q8).map strV) := hq
          have s7 := hq.1
          have hS7 := hq.2
          obtain ⟨a7, c7, rfl⟩ := hS7.form
          have hol : (ownedP T q8).length ≤ 140737488351232 := by
            have h1 := List.length_filter_le (isOwn T q8) (treePaths T)
            have h2 : (ownedP T q8).length = ((treePaths T).filter (isOwn T q8)).length := rfl
            omega
          have hom : pathL p ∈ ownedP T q8 := hown ho
          conv => lhs; whnf
          repeat (refine go_D hD rfl ?_
                  conv => lhs; whnf)
          refine (hD _).2 ⟨(ownedP T q8, pathL p), ⟨_, by rw [strV_pathL], hS7.sub (minus_sub A5 A7), hol⟩, fun v A8 hq => ?_⟩
          have hq : A8 = A7 ∧ v = .bool (decide (pathL p ∈ ownedP T q8)) := hq
          have h8 := hq.1.symm
          have hv := hq.2
          rw [decide_eq_true hom] at hv
          subst hv
          subst h8
          conv => lhs; whnf
          repeat (refine go_D hD rfl ?_
                  conv => lhs; whnf)
          exact (hD _).2 ⟨(⟨k + 1, A7⟩ : GT), ⟨⟨by show k + 1 ≤ _; omega, hAk.trans (s4.trans (s5.trans s7))⟩, ⟨inc_slot (k := k) (by omega), hslot, trivial⟩, trivial, rfl⟩, by show (treePaths T).length - (k + 1) < (treePaths T).length - k; omega, ⟨rfl, rfl, trivial⟩, trivial⟩
        · exact (hD _).2 ⟨(⟨k + 1, A5⟩ : GT), ⟨⟨by show k + 1 ≤ _; omega, hAk.trans (s4.trans s5)⟩, ⟨inc_slot (k := k) (by omega), hslot, trivial⟩, trivial, rfl⟩, by show (treePaths T).length - (k + 1) < (treePaths T).length - k; omega, ⟨rfl, rfl, trivial⟩, trivial⟩
    · have hke : k = (treePaths T).length := by
        have hlt : ¬ (k : Int) < ((treeAll T).length : Int) := hlt
        omega
      have hgn : TreeD.nodes treeNew = treeNew.nodes := rfl
      have hkt : kidSum T (treePaths T) + 1 ≤ T.nodes.length := kids_sum hgood.ok hgood.keys
      have hkk : kidSum T ((treePaths T).take k) = kidSum T (treePaths T) := by rw [hke, List.take_length]
      have hlk := load_ok hgood
      have hlc : LoadC (l.map (·.1)) := by rw [hll]; exact loadC_of hlk
      have hsim := loaded_sim hgood
      have hpos : 0 < l.length := by omega
      have hroot : l[0].1.path = rootS := by
        obtain ⟨x, hx, hr⟩ := hlk.2.2
        have h1 : (treeAll T)[0]? = some x := by rw [← List.head?_eq_getElem?]; exact hx
        rw [← hll, List.getElem?_map, List.getElem?_eq_getElem hpos] at h1
        injection h1 with h1
        have h1 : l[0].1 = x := h1
        rw [h1]; exact hr
      have r0 := row_at (enc := nodeC) (fun _ => rfl) hra 0 hpos rfl
      rw [Nat.zero_mul, Nat.add_zero] at r0
      have r0p : A2.rd g oo 1 = some [.string rootS] := by
        have := rd_at r0 (i := 0) (m := 1) (by omega)
        rw [← hroot]
        exact this
      refine (hD _).2 ⟨(), rfl, fun v A7 hq => ?_⟩
      obtain ⟨u, Ou, rfl, hU, s7, hOu⟩ : ∃ t O, v = .pointer (some ⟨t, 0, none⟩) ∧ TreeAt A7 Arena.void O t treeNew ∧ Ak.Sub A7 ∧ ∀ k, O k → Ak.blk k = none := hq
      have hT7 := TreeAt_sub hTk s7
      have hvd : ∀ k o, Arena.void.blk k = some o → Ak.blk k = none := fun k o hk => by cases hk
      have hAp := apart_newG hTk hOu hvd
      have hAs7 : Aside A7 Ak Ou := ⟨s7, fun k o hk hO => by rw [hOu k hO] at hk; cases hk⟩
      have hNR : NodesR Ak (.slice (some ⟨g, oo, none⟩) (treeAll T).length c2) l := by
        have h1 := hR2.1.sub hAk
        exact ⟨h1, fun x hx => (hR2.2 x hx).sub hAk⟩
      conv => lhs; whnf
      refine (hD _).2 ⟨(⟨treeNew, Arena.void, Ou, u⟩, l, Ak), ⟨_, rfl, hU, hNR, by show l.length ≤ _; omega, hAs7⟩, fun v A8 hq => ?_⟩
      have hq : if LoadC (l.map (·.1)) then v = .int .i64 0 ∧ StepTo A7 Arena.void Ou u ⟨loadN (l.map (·.1)), treeNew.seats⟩ A8 else v = .int .i64 4 ∧ A8 = A7 := hq
      rw [if_pos hlc, hll] at hq
      obtain ⟨rfl, B8, O8, hU8, hS8⟩ := hq
      have h28 := two_stepG hT7 hAp.symm hS8
      have hT8 := h28.1
      have hAp8 := h28.2
      have s8 : Ak.Sub A8 := hS8.stays hAs7.1 hAs7.2
      conv => lhs; whnf
      refine (hD _).2 ⟨⟨T, B, O, t⟩, ⟨rfl, hT8, hfit.1, hsl⟩, fun v A9 hq => ?_⟩
      have hq : A8.Sub A9 ∧ Sl (A9.minus A8) 3 (treeSits T).length v ((treeSits T).flatMap sitC) := hq
      have s9 := hq.1
      have hS9 := hq.2
      obtain ⟨a9, c9, rfl⟩ := hS9.form
      have hsl2 : (treeSits T).length ≤ 140737488351232 := by rw [treeSits_len]; omega
      have hAs9 : Aside A9 (A9.minus A8) O8 := ⟨minus_sub _ _, fun j o hj hO => by
        obtain ⟨m1, s1', E1, h1⟩ := hU8
        obtain ⟨o', ho'⟩ := h1.live j hO
        rw [minus_none _ ho'] at hj; cases hj⟩
      conv => lhs; whnf
      refine (hD _).2 ⟨(⟨⟨loadN (treeAll T), treeNew.seats⟩, B8, O8, u⟩, treeSits T, A9.minus A8), ⟨_, rfl, TreeAt_sub hU8 s9, ⟨hS9, hsl2⟩, hAs9⟩, fun v A10 hq => ?_⟩
      have hq : v = .tuple #[] ∧ StepTo A9 B8 O8 u ⟨loadN (treeAll T), seatsOf (treeSits T)⟩ A10 := hq
      obtain ⟨rfl, B10, O10, hU10, hS10⟩ := hq
      have h30 := two_stepG (TreeAt_sub hT8 s9) hAp8 hS10
      have hT10 := h30.1
      have hdO8 : ∀ j o, Ak.blk j = some o → ¬ O8 j := fun j o hj hO => by
        rcases hS8.own j hO with h1 | h1
        · rw [hOu j h1] at hj; cases hj
        · have := s7 _ _ hj; rw [h1] at this; cases this
      have s10 : Ak.Sub A10 := hS10.stays (s8.trans s9) hdO8
      have r0p10 : A10.rd g oo 1 = some [.string rootS] := rd_sub (hAk.trans s10) r0p
      have hfu : TFits ⟨loadN (treeAll T), seatsOf (treeSits T)⟩ := by
        have h1 := loadN_len (treeAll T)
        have h2 := seat_fold_lenG (treeSits T) []
        rw [treeAll_len] at h1
        rw [treeSits_len] at h2
        refine ⟨seatsOk_ofG hsim hgood.ok (TreeAt.nd hU10), by show (loadN (treeAll T)).length ≤ 1000000; omega, ?_⟩
        show ((treeSits T).foldl seatOne []).length ≤ _
        simp only [List.length_nil] at h2
        omega
      have hsame : TSame T ⟨loadN (treeAll T), seatsOf (treeSits T)⟩ := hsim.same hgood.ok.nd (TreeAt.nd hU10)
      have ilen : (0 : Int) < ((treeAll T).length : Int) := by omega
      have i00 : (0 : Int) ≤ (0 : Int) ∧ (0 : Int) < ((treeAll T).length : Int) := by omega
      have hwl : IntKind.i64.wrap (((treeAll T).length : Int) - 1) = (((treeAll T).length - 1 : Nat) : Int) := by
        rw [Sx.wrap_i64 (by omega) (by omega)]; omega
      conv => lhs; whnf
      refine go_dec ilen ?_
      conv => lhs; whnf
      repeat (first | refine go_in i00 ?_ | refine go_rd r0p10 ?_
              conv => lhs; whnf)
      refine go_dec (by show ((kidSum T ((treePaths T).take k) : Nat) : Int) ≤ IntKind.i64.wrap (((treeAll T).length : Int) - 1); rw [hwl, hkk]; omega) ?_
      conv => lhs; whnf
      refine (hD _).2 ⟨(⟨T, B, O, t⟩, ⟨⟨loadN (treeAll T), seatsOf (treeSits T)⟩, B10, O10, u⟩), ⟨rfl, hT10, hU10, hfit, hfu⟩, fun v A11 hq => ?_⟩
      have hq : A10.Sub A11 ∧ v = .bool (decide (TSame T ⟨loadN (treeAll T), seatsOf (treeSits T)⟩)) := hq
      have s11 := hq.1
      have hv := hq.2
      rw [decide_eq_true hsame] at hv
      subst hv
      have hend : agreesTS.post ds [] A' (.bool true) A11 := ⟨(s1.trans (s2.trans (hAk.trans s10))).trans s11, rfl⟩
      conv => lhs; whnf
      exact (hD _).2 hend

end
end Go.Proofs.YtabonbbfcfchmaaDoor
