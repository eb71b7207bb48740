/-
  The law QueueAgrees, walked.
-/
import Derived.Test.YtinahcnpabjinaaDoorG14
namespace Go.Proofs.YtinahcnpabjinaaDoor
open Go.Sx Go.RowKit
noncomputable section
open Classical

structure GS where
  i : Nat
  A : Arena
  B : Arena
  O : Nat → Prop
  T : TreeD

def GInv (A0 : Arena) (t n : Nat) (s : GS) : Prop := s.i ≤ n ∧ A0.Sub s.A ∧ TreeAt s.A s.B s.O t s.T ∧ (∀ k o, A0.blk k = some o → ¬ s.O k) ∧ KeysOk s.T ∧ s.T.nodes.length ≤ 1 + s.i * 81

def agreesInv (A0 : Arena) (t n : Nat) : LInv := { γ := GS, G := GInv A0 t n, keepS := [0, 1, 2, 7], keepB := [], sl := fun s => [(8, .v (.int .i64 s.i))], bl := fun _ => [], ar := fun s => s.A, mu := fun s => n - s.i }

def agreesS : FSpec := ⟨List DeedD × ByteArray × Int, fun g vs A => ∃ v, vs = [v, .string g.2.1, .int .i64 g.2.2] ∧ DeedsS A v g.1 ∧ HasA A, fun _ _ A v A' => A.Sub A' ∧ v = .bool true⟩

theorem keys_new : KeysOk treeNew := fun e he => by
  simp only [treeNew, List.mem_singleton] at he
  subst he; rfl

set_option maxRecDepth 100000 in
set_option maxHeartbeats 0 in
theorem agrees_ok : FOk Tryd.prog 3 agreesS := by
  refine fok_v mixed fun ⟨ds, p, z⟩ vs A hp => ?_
  obtain ⟨v, rfl, ⟨rows, hS, hlen, hR⟩, hHas⟩ : ∃ v, vs = [v, .string p, .int .i64 z] ∧ DeedsS A v ds ∧ HasA A := hp
  obtain ⟨ao, c, rfl, hc, hl, ha1, ha2, ha3⟩ := hS
  have hrow : ∀ k (hk : k < ds.length), ∃ g0 o, ao = some ⟨g0, o, none⟩ ∧ ∃ cs, A.rd g0 (o + k * 16) 16 = some cs ∧ DeedR A ds[k] cs := fun k hk => by
    obtain ⟨g0, o, e, hra⟩ := Sl.at_ hc ha1 ha2 ha3 (by omega)
    exact ⟨g0, o, e, deed_at hra hR k hk rfl⟩
  have hC : CTSound Tryd.prog (lookC [specE 5 awakeS, specE 6 newS, specE 8 applyS, specE 9 getS, specE 10 listS, specE 11 lookS, specE 12 sameBytesS, specE 13 sameTextsS] noC) := lookC_sound (noC_sound _) (fun x hx => by
    simp only [List.mem_cons, List.not_mem_nil, or_false] at hx
    rcases hx with rfl | rfl | rfl | rfl | rfl | rfl | rfl | rfl
    · exact specE_ok awake_ok
    · exact specE_ok new_ok
    · exact specE_ok apply_ok
    · exact specE_ok get_ok
    · exact specE_ok list_ok
    · exact specE_ok look_ok
    · exact specE_ok sameBytes_ok
    · exact specE_ok sameTexts_ok)
  refine ⟨_, tabO Tryd.prog _ noL 60 [(3, 0)], 60, hC, tabO_sound mixed hC (noL_sound _) _ _, fun blk os out tape D hD => ?_⟩
  conv => lhs; whnf
  refine (hD _).2 ⟨(), rfl, fun v A' hq => ?_⟩
  obtain ⟨hA1, hv1⟩ : A' = A ∧ v = .bool true := hq
  subst hA1 hv1
  conv => lhs; whnf
  refine split_dec (fun h80 => ?_) (fun h80 => ?_)
  · have h80' : 80 < ds.length := by
      have h80 : (80 : Int) < ds.length := h80
      omega
    obtain ⟨g0, o, rfl, hra⟩ := Sl.at_ hc ha1 ha2 ha3 (by omega)
    obtain ⟨c', rfl⟩ : ∃ c', c = c' + 1 := ⟨c - 1, by omega⟩
    have hn : ∃ n : Nat, n = 80 ∧ n ≤ ds.length ∧ n ≤ c' + 1 ∧ n ≤ 80 := ⟨_, rfl, by omega, by omega, by omega⟩
    conv => lhs; whnf
    refine go_dec (by show (80 : Int) ≤ ((c' + 1 : Nat) : Int); omega) ?_
    conv => lhs; whnf
    obtain ⟨n, hn, hle, hnc, hn80⟩ := hn
    refine (hD _).2 ⟨(), rfl, fun v A1 hq => ?_⟩
    obtain ⟨t, O, rfl, hT, s1, hO⟩ : ∃ t O, v = .pointer (some ⟨t, 0, none⟩) ∧ TreeAt A1 Arena.void O t treeNew ∧ A'.Sub A1 ∧ ∀ k, O k → A'.blk k = none := hq
    conv => lhs; whnf
    refine (hD _).2 ⟨agreesInv A' t n, ⟨(⟨0, A1, Arena.void, O, treeNew⟩ : GS), ⟨Nat.zero_le _, s1, hT, fun k o hk hOk => (by rw [hO k hOk] at hk; cases hk), keys_new, by show 1 ≤ 1 + 0 * 81; omega⟩, ⟨rfl, trivial⟩, trivial, rfl⟩, fun (s : GS) hG => ⟨⟨trivial, trivial⟩, trivial, ?_⟩⟩
    obtain ⟨k, Ak, B, Ok, T⟩ := s
    obtain ⟨hk, sA, hT, hOk, hKs, hsz⟩ : k ≤ n ∧ A'.Sub Ak ∧ TreeAt Ak B Ok t T ∧ (∀ k o, A'.blk k = some o → ¬ Ok k) ∧ KeysOk T ∧ T.nodes.length ≤ 1 + k * 81 := hG
    conv => lhs; whnf
    refine split_dec (fun hlt => ?_) (fun hlt => ?_)
    · have hkn : k < n := by
        have hlt : (k : Int) < (n : Int) := by rw [hn]; exact hlt
        omega
      obtain ⟨g1, o1, e1, cs, r1, hR1⟩ := hrow k (by omega)
      cases e1
      conv => lhs; whnf
      have hin : (k : Int) < (n : Int) := by omega
      rw [hn] at hin
      refine go_in ⟨by show (0 : Int) ≤ (k : Int); omega, hin⟩ ?_
      conv => lhs; whnf
      obtain ⟨d, hd⟩ : ∃ d, d = ds[k] := ⟨_, rfl⟩
      rw [← hd] at hR1
      obtain ⟨⟨zxid, kind, ses, turn, xid, dtime, path, data, owner, ver, cver, tmo, err, cfg, mem⟩, parts⟩ := d
      have hR0 := hR1
      rw [DeedR] at hR1
      dsimp only [DeedH.cells] at hR1
      obtain ⟨vd, vm, vp, rws, rfl, -, hd1, hM, hSp, hlen2, hRows⟩ := hR1
      obtain ⟨a7, k7, rfl⟩ := hd1.1.form
      obtain ⟨a14, k14, rfl⟩ := hM.1.form
      obtain ⟨a15, k15, rfl⟩ := hSp.form
      refine go_rd (rd_sub sA r1) ?_
      conv => lhs; whnf
      refine split_dec (fun hw1 => ?_) (fun hw1 => ?_) <;> (conv => lhs; whnf)
      · exact (hD _).2 ⟨sA, rfl⟩
      refine split_dec (fun hw2 => ?_) (fun hw2 => ?_) <;> (conv => lhs; whnf)
      · exact (hD _).2 ⟨sA, rfl⟩
      refine split_dec (fun hw3 => ?_) (fun hw3 => ?_) <;> (conv => lhs; whnf)
      · exact (hD _).2 ⟨sA, rfl⟩
      refine go_in ⟨by show (0 : Int) ≤ (k : Int); omega, hin⟩ ?_
      conv => lhs; whnf
      refine go_rd (rd_sub sA r1) ?_
      conv => lhs; whnf
      refine (hD _).2 ⟨(⟨T, B, Ok, t⟩, .mk ⟨zxid, kind, ses, turn, xid, dtime, path, data, owner, ver, cver, tmo, err, cfg, mem⟩ parts, A'), ⟨_, rfl, hT, hR0, hHas, sA, hOk⟩, fun v A2 hq => ?_⟩
      obtain ⟨B2, O2, hT2, hS2⟩ : StepTo Ak B Ok t (treeApply T (.mk ⟨zxid, kind, ses, turn, xid, dtime, path, data, owner, ver, cver, tmo, err, cfg, mem⟩ parts)) A2 := hq
      have hAs := (Aside.step ⟨sA, hOk⟩ hS2 : Aside A2 A' O2)
      have hK2 := apply_keys hKs (.mk ⟨zxid, kind, ses, turn, xid, dtime, path, data, owner, ver, cver, tmo, err, cfg, mem⟩ parts)
      have hL2 := apply_len T (.mk ⟨zxid, kind, ses, turn, xid, dtime, path, data, owner, ver, cver, tmo, err, cfg, mem⟩ parts)
      have hpl : parts.length ≤ 80 := by
        have hw1 : ¬ (80 : Int) < (parts.length : Int) := hw1
        omega
      dsimp only [DeedD.parts] at hL2
      generalize treeApply T (.mk ⟨zxid, kind, ses, turn, xid, dtime, path, data, owner, ver, cver, tmo, err, cfg, mem⟩ parts) = T2 at hT2 hK2 hL2
      have hL3 : T2.nodes.length ≤ 1 + (k + 1) * 81 := by omega
      conv => lhs; whnf
      exact (hD _).2 ⟨(⟨k + 1, A2, B2, O2, T2⟩ : GS), ⟨⟨by show k + 1 ≤ n; omega, hAs.1, hT2, hAs.2, hK2, hL3⟩, ⟨inc_slot (k := k) (by omega), trivial⟩, trivial, rfl⟩, by show n - (k + 1) < n - k; omega, ⟨rfl, rfl, rfl, rfl, trivial⟩, trivial⟩
    · have hbound : T.nodes.length ≤ 1000000 := by omega
      conv => lhs; whnf
      refine (hD _).2 ⟨(⟨T, B, Ok, t⟩, p), ⟨rfl, hT, hbound⟩, fun v A3 hq => ?_⟩
      obtain ⟨q3, hG⟩ : Ak.Sub A3 ∧ GotV Ak A3 T p v := hq
      have hT3 := TreeAt_sub hT q3
      cases hk9 : kGet p T.nodes with
      | none =>
        rw [GotV, hk9] at hG
        obtain rfl : v = .tuple #[nodeV ⟨#[]⟩ (.slice none 0 0) statZ, .bool false] := hG
        conv => lhs; whnf
        refine (hD _).2 ⟨(⟨T, B, Ok, t⟩, p), ⟨rfl, hT3, hbound⟩, fun v A4 hq => ?_⟩
        obtain ⟨q4, x, rfl, hx⟩ : A3.Sub A4 ∧ ∃ x, v = .tuple #[x, .bool (kGet p T.nodes).isSome] ∧ Sl (A4.minus A3) 1 (if (kGet p T.nodes).isSome then treeKids T p else []).length x ((if (kGet p T.nodes).isSome then treeKids T p else []).map strV) := hq
        have hT4 := TreeAt_sub hT3 q4
        rw [hk9] at hx
        have hx : Sl (A4.minus A3) 1 0 x [] := hx
        obtain ⟨a4, c4, rfl⟩ := hx.form
        cases hp9 : pathOk p.data.toList with
        | false =>
          conv => lhs; whnf
          refine (hD _).2 ⟨(⟨T, B, Ok, t⟩, 7, 1, p, z), ⟨rfl, hT4, hbound, .inl rfl⟩, fun v A5 hq => ?_⟩
          obtain ⟨q5, hV7⟩ : A4.Sub A5 ∧ LookV A4 A5 T 7 1 p z v := hq
          have hT5 := TreeAt_sub hT4 q5
          obtain rfl : v = replyV 7 1 z 120 (.slice none 0 0) statZ (.slice none 0 0) := hV7.1 hp9
          conv => lhs; whnf
          refine (hD _).2 ⟨(⟨T, B, Ok, t⟩, 8, 2, p, z), ⟨rfl, hT5, hbound, .inr (.inl rfl)⟩, fun v A6 hq => ?_⟩
          obtain ⟨q6, hV8⟩ : A5.Sub A6 ∧ LookV A5 A6 T 8 2 p z v := hq
          have hT6 := TreeAt_sub hT5 q6
          obtain rfl : v = replyV 8 2 z 120 (.slice none 0 0) statZ (.slice none 0 0) := hV8.1 hp9
          conv => lhs; whnf
          refine (hD _).2 ⟨(⟨T, B, Ok, t⟩, 9, 3, p, z), ⟨rfl, hT6, hbound, .inr (.inr rfl)⟩, fun v A7 hq => ?_⟩
          obtain ⟨q7, hV9⟩ : A6.Sub A7 ∧ LookV A6 A7 T 9 3 p z v := hq
          have hT7 := TreeAt_sub hT6 q7
          obtain rfl : v = replyV 9 3 z 120 (.slice none 0 0) statZ (.slice none 0 0) := hV9.1 hp9
          have sE : A'.Sub A7 := sA.trans (q3.trans (q4.trans (q5.trans (q6.trans q7))))
          conv => lhs; whnf
          iterate 2
            refine split_b (fun hb => absurd hb (by simp)) (fun _ => ?_)
            conv => lhs; whnf
          refine split_b (fun hb => absurd hb (by simp)) (fun _ => ?_)
          conv => lhs; whnf
          refine go_D hD (by kernel_rfl) ?_
          have hend : D (A'.Sub A7 ∧ Value.bool true = .bool true) = true := (hD _).2 ⟨sE, rfl⟩
          exact Eq.trans (by kernel_rfl) hend
        | true =>
          conv => lhs; whnf
          refine (hD _).2 ⟨(⟨T, B, Ok, t⟩, 7, 1, p, z), ⟨rfl, hT4, hbound, .inl rfl⟩, fun v A5 hq => ?_⟩
          obtain ⟨q5, hV7⟩ : A4.Sub A5 ∧ LookV A4 A5 T 7 1 p z v := hq
          have hT5 := TreeAt_sub hT4 q5
          obtain rfl : v = replyV 7 1 z 210 (.slice none 0 0) statZ (.slice none 0 0) := hV7.2.1 hp9 hk9
          conv => lhs; whnf
          refine (hD _).2 ⟨(⟨T, B, Ok, t⟩, 8, 2, p, z), ⟨rfl, hT5, hbound, .inr (.inl rfl)⟩, fun v A6 hq => ?_⟩
          obtain ⟨q6, hV8⟩ : A5.Sub A6 ∧ LookV A5 A6 T 8 2 p z v := hq
          have hT6 := TreeAt_sub hT5 q6
          obtain rfl : v = replyV 8 2 z 210 (.slice none 0 0) statZ (.slice none 0 0) := hV8.2.1 hp9 hk9
          conv => lhs; whnf
          refine (hD _).2 ⟨(⟨T, B, Ok, t⟩, 9, 3, p, z), ⟨rfl, hT6, hbound, .inr (.inr rfl)⟩, fun v A7 hq => ?_⟩
          obtain ⟨q7, hV9⟩ : A6.Sub A7 ∧ LookV A6 A7 T 9 3 p z v := hq
          have hT7 := TreeAt_sub hT6 q7
          obtain rfl : v = replyV 9 3 z 210 (.slice none 0 0) statZ (.slice none 0 0) := hV9.2.1 hp9 hk9
          have sE : A'.Sub A7 := sA.trans (q3.trans (q4.trans (q5.trans (q6.trans q7))))
          conv => lhs; whnf
          iterate 2
            refine split_b (fun hb => absurd hb (by simp)) (fun _ => ?_)
            conv => lhs; whnf
          refine split_b (fun hb => absurd hb (by simp)) (fun _ => ?_)
          conv => lhs; whnf
          refine go_D hD (by kernel_rfl) ?_
          have hend : D (A'.Sub A7 ∧ Value.bool true = .bool true) = true := (hD _).2 ⟨sE, rfl⟩
          exact Eq.trans (by kernel_rfl) hend
      | some n =>
        have hp9 : pathOk p.data.toList = true := hKs _ (kGet_mem (bytes_key _) hk9)
        rw [GotV, hk9] at hG
        obtain ⟨vd, rfl, hS3⟩ : ∃ vd, v = .tuple #[nodeV p vd { n.stat with len := n.data.length, kids := (treeKids T p).length }, .bool true] ∧ SlB (A3.minus Ak) vd n.data := hG
        obtain ⟨a3, c3, rfl⟩ := hS3.1.form
        conv => lhs; whnf
        refine (hD _).2 ⟨(⟨T, B, Ok, t⟩, p), ⟨rfl, hT3, hbound⟩, fun v A4 hq => ?_⟩
        obtain ⟨q4, x, rfl, hx⟩ : A3.Sub A4 ∧ ∃ x, v = .tuple #[x, .bool (kGet p T.nodes).isSome] ∧ Sl (A4.minus A3) 1 (if (kGet p T.nodes).isSome then treeKids T p else []).length x ((if (kGet p T.nodes).isSome then treeKids T p else []).map strV) := hq
        have hT4 := TreeAt_sub hT3 q4
        rw [hk9] at hx
        have hx : Sl (A4.minus A3) 1 (treeKids T p).length x ((treeKids T p).map strV) := hx
        obtain ⟨a4, c4, rfl⟩ := hx.form
        conv => lhs; whnf
        refine (hD _).2 ⟨(⟨T, B, Ok, t⟩, 7, 1, p, z), ⟨rfl, hT4, hbound, .inl rfl⟩, fun v A5 hq => ?_⟩
        obtain ⟨q5, hV7⟩ : A4.Sub A5 ∧ LookV A4 A5 T 7 1 p z v := hq
        have hT5 := TreeAt_sub hT4 q5
        obtain ⟨vd7, vl7, rfl, hb7, hl7⟩ := hV7.2.2 hp9 n hk9
        rw [if_pos rfl] at hb7
        obtain ⟨a7, c7, rfl⟩ := hb7.1.form
        rw [if_neg (by omega)] at hl7
        subst hl7
        conv => lhs; whnf
        refine (hD _).2 ⟨(⟨T, B, Ok, t⟩, 8, 2, p, z), ⟨rfl, hT5, hbound, .inr (.inl rfl)⟩, fun v A6 hq => ?_⟩
        obtain ⟨q6, hV8⟩ : A5.Sub A6 ∧ LookV A5 A6 T 8 2 p z v := hq
        have hT6 := TreeAt_sub hT5 q6
        obtain ⟨vd8, vl8, rfl, hb8, hl8⟩ := hV8.2.2 hp9 n hk9
        rw [if_neg (by omega)] at hb8
        subst hb8
        rw [if_neg (by omega)] at hl8
        subst hl8
        conv => lhs; whnf
        refine (hD _).2 ⟨(⟨T, B, Ok, t⟩, 9, 3, p, z), ⟨rfl, hT6, hbound, .inr (.inr rfl)⟩, fun v A7 hq => ?_⟩
        obtain ⟨q7, hV9⟩ : A6.Sub A7 ∧ LookV A6 A7 T 9 3 p z v := hq
        have hT7 := TreeAt_sub hT6 q7
        obtain ⟨vd9, vl9, rfl, hb9, hl9⟩ := hV9.2.2 hp9 n hk9
        rw [if_neg (by omega)] at hb9
        subst hb9
        rw [if_pos rfl] at hl9
        obtain ⟨a9, c9, rfl⟩ := hl9.form
        have sE : A'.Sub A7 := sA.trans (q3.trans (q4.trans (q5.trans (q6.trans q7))))
        conv => lhs; whnf
        iterate 2
          refine split_b (fun hb => absurd hb (by simp)) (fun _ => ?_)
          conv => lhs; whnf
        refine split_b (fun hb => absurd hb (by simp)) (fun _ => ?_)
        conv => lhs; whnf
        refine (hD _).2 ⟨(n.data, n.data), ⟨_, _, rfl, hb7.sub (((minus_sub A4 A5).trans q6).trans q7), hS3.sub ((minus_sub Ak A3).trans (q4.trans (q5.trans (q6.trans q7))))⟩, fun v A8 hq => ?_⟩
        obtain ⟨rfl, hv⟩ : A8 = A7 ∧ v = .bool (decide (n.data = n.data)) := hq
        rw [decide_eq_true rfl] at hv
        subst hv
        conv => lhs; whnf
        refine go_D hD (by kernel_rfl) ?_
        generalize n.stat = st
        obtain ⟨s1, s2, s3, s4, s5, s6, s7, s8, s9, s10⟩ := st
        dsimp only
        conv => lhs; whnf
        repeat (first | refine go_D hD (by kernel_rfl) ?_ | refine split_b (fun _ => ?_) (fun hb => absurd hb (by simp; done)) ; conv => lhs; whnf)
        have hkl : (treeKids T p).length ≤ 140737488351232 := by
          have h1 := kids_le (T.nodes.map (·.1)) p
          rw [List.length_map] at h1
          rw [treeKids, sortL, List.length_mergeSort]
          omega
        refine (hD _).2 ⟨(treeKids T p, treeKids T p), ⟨_, _, rfl, ⟨hl9.sub (minus_sub _ _), hkl⟩, ⟨hx.sub ((minus_sub A3 A4).trans (q5.trans (q6.trans q7))), hkl⟩⟩, fun v A9 hq => ?_⟩
        obtain ⟨rfl, hv⟩ : A9 = A8 ∧ v = .bool (decide (treeKids T p = treeKids T p)) := hq
        rw [decide_eq_true rfl] at hv
        subst hv
        conv => lhs; whnf
        have hend : D (A'.Sub A9 ∧ Value.bool true = .bool true) = true := (hD _).2 ⟨sE, rfl⟩
        exact Eq.trans (by kernel_rfl) hend
  · have hn : ∃ n : Nat, n = ds.length ∧ n ≤ ds.length ∧ n ≤ c ∧ n ≤ 80 := ⟨_, rfl, by omega, by omega, by
      have h80 : ¬ (80 : Int) < ds.length := h80
      omega⟩
    conv => lhs; whnf
    obtain ⟨n, hn, hle, hnc, hn80⟩ := hn
    refine (hD _).2 ⟨(), rfl, fun v A1 hq => ?_⟩
    obtain ⟨t, O, rfl, hT, s1, hO⟩ : ∃ t O, v = .pointer (some ⟨t, 0, none⟩) ∧ TreeAt A1 Arena.void O t treeNew ∧ A'.Sub A1 ∧ ∀ k, O k → A'.blk k = none := hq
    conv => lhs; whnf
    refine (hD _).2 ⟨agreesInv A' t n, ⟨(⟨0, A1, Arena.void, O, treeNew⟩ : GS), ⟨Nat.zero_le _, s1, hT, fun k o hk hOk => (by rw [hO k hOk] at hk; cases hk), keys_new, by show 1 ≤ 1 + 0 * 81; omega⟩, ⟨rfl, trivial⟩, trivial, rfl⟩, fun (s : GS) hG => ⟨⟨trivial, trivial⟩, trivial, ?_⟩⟩
    obtain ⟨k, Ak, B, Ok, T⟩ := s
    obtain ⟨hk, sA, hT, hOk, hKs, hsz⟩ : k ≤ n ∧ A'.Sub Ak ∧ TreeAt Ak B Ok t T ∧ (∀ k o, A'.blk k = some o → ¬ Ok k) ∧ KeysOk T ∧ T.nodes.length ≤ 1 + k * 81 := hG
    conv => lhs; whnf
    refine split_dec (fun hlt => ?_) (fun hlt => ?_)
    · have hkn : k < n := by
        have hlt : (k : Int) < (n : Int) := by rw [hn]; exact hlt
        omega
      obtain ⟨g1, o1, e1, cs, r1, hR1⟩ := hrow k (by omega)
      cases e1
      conv => lhs; whnf
      have hin : (k : Int) < (n : Int) := by omega
      rw [hn] at hin
      refine go_in ⟨by show (0 : Int) ≤ (k : Int); omega, hin⟩ ?_
      conv => lhs; whnf
      obtain ⟨d, hd⟩ : ∃ d, d = ds[k] := ⟨_, rfl⟩
      rw [← hd] at hR1
      obtain ⟨⟨zxid, kind, ses, turn, xid, dtime, path, data, owner, ver, cver, tmo, err, cfg, mem⟩, parts⟩ := d
      have hR0 := hR1
      rw [DeedR] at hR1
      dsimp only [DeedH.cells] at hR1
      obtain ⟨vd, vm, vp, rws, rfl, -, hd1, hM, hSp, hlen2, hRows⟩ := hR1
      obtain ⟨a7, k7, rfl⟩ := hd1.1.form
      obtain ⟨a14, k14, rfl⟩ := hM.1.form
      obtain ⟨a15, k15, rfl⟩ := hSp.form
      refine go_rd (rd_sub sA r1) ?_
      conv => lhs; whnf
      refine split_dec (fun hw1 => ?_) (fun hw1 => ?_) <;> (conv => lhs; whnf)
      · exact (hD _).2 ⟨sA, rfl⟩
      refine split_dec (fun hw2 => ?_) (fun hw2 => ?_) <;> (conv => lhs; whnf)
      · exact (hD _).2 ⟨sA, rfl⟩
      refine split_dec (fun hw3 => ?_) (fun hw3 => ?_) <;> (conv => lhs; whnf)
      · exact (hD _).2 ⟨sA, rfl⟩
      refine go_in ⟨by show (0 : Int) ≤ (k : Int); omega, hin⟩ ?_
      conv => lhs; whnf
      refine go_rd (rd_sub sA r1) ?_
      conv => lhs; whnf
      refine (hD _).2 ⟨(⟨T, B, Ok, t⟩, .mk ⟨zxid, kind, ses, turn, xid, dtime, path, data, owner, ver, cver, tmo, err, cfg, mem⟩ parts, A'), ⟨_, rfl, hT, hR0, hHas, sA, hOk⟩, fun v A2 hq => ?_⟩
      obtain ⟨B2, O2, hT2, hS2⟩ : StepTo Ak B Ok t (treeApply T (.mk ⟨zxid, kind, ses, turn, xid, dtime, path, data, owner, ver, cver, tmo, err, cfg, mem⟩ parts)) A2 := hq
      have hAs := (Aside.step ⟨sA, hOk⟩ hS2 : Aside A2 A' O2)
      have hK2 := apply_keys hKs (.mk ⟨zxid, kind, ses, turn, xid, dtime, path, data, owner, ver, cver, tmo, err, cfg, mem⟩ parts)
      have hL2 := apply_len T (.mk ⟨zxid, kind, ses, turn, xid, dtime, path, data, owner, ver, cver, tmo, err, cfg, mem⟩ parts)
      have hpl : parts.length ≤ 80 := by
        have hw1 : ¬ (80 : Int) < (parts.length : Int) := hw1
        omega
      dsimp only [DeedD.parts] at hL2
      generalize treeApply T (.mk ⟨zxid, kind, ses, turn, xid, dtime, path, data, owner, ver, cver, tmo, err, cfg, mem⟩ parts) = T2 at hT2 hK2 hL2
      have hL3 : T2.nodes.length ≤ 1 + (k + 1) * 81 := by omega
      conv => lhs; whnf
      exact (hD _).2 ⟨(⟨k + 1, A2, B2, O2, T2⟩ : GS), ⟨⟨by show k + 1 ≤ n; omega, hAs.1, hT2, hAs.2, hK2, hL3⟩, ⟨inc_slot (k := k) (by omega), trivial⟩, trivial, rfl⟩, by show n - (k + 1) < n - k; omega, ⟨rfl, rfl, rfl, rfl, trivial⟩, trivial⟩
    · have hbound : T.nodes.length ≤ 1000000 := by omega
      conv => lhs; whnf
      refine (hD _).2 ⟨(⟨T, B, Ok, t⟩, p), ⟨rfl, hT, hbound⟩, fun v A3 hq => ?_⟩
      obtain ⟨q3, hG⟩ : Ak.Sub A3 ∧ GotV Ak A3 T p v := hq
      have hT3 := TreeAt_sub hT q3
      cases hk9 : kGet p T.nodes with
      | none =>
        rw [GotV, hk9] at hG
        obtain rfl : v = .tuple #[nodeV ⟨#[]⟩ (.slice none 0 0) statZ, .bool false] := hG
        conv => lhs; whnf
        refine (hD _).2 ⟨(⟨T, B, Ok, t⟩, p), ⟨rfl, hT3, hbound⟩, fun v A4 hq => ?_⟩
        obtain ⟨q4, x, rfl, hx⟩ : A3.Sub A4 ∧ ∃ x, v = .tuple #[x, .bool (kGet p T.nodes).isSome] ∧ Sl (A4.minus A3) 1 (if (kGet p T.nodes).isSome then treeKids T p else []).length x ((if (kGet p T.nodes).isSome then treeKids T p else []).map strV) := hq
        have hT4 := TreeAt_sub hT3 q4
        rw [hk9] at hx
        have hx : Sl (A4.minus A3) 1 0 x [] := hx
        obtain ⟨a4, c4, rfl⟩ := hx.form
        cases hp9 : pathOk p.data.toList with
        | false =>
          conv => lhs; whnf
          refine (hD _).2 ⟨(⟨T, B, Ok, t⟩, 7, 1, p, z), ⟨rfl, hT4, hbound, .inl rfl⟩, fun v A5 hq => ?_⟩
          obtain ⟨q5, hV7⟩ : A4.Sub A5 ∧ LookV A4 A5 T 7 1 p z v := hq
          have hT5 := TreeAt_sub hT4 q5
          obtain rfl : v = replyV 7 1 z 120 (.slice none 0 0) statZ (.slice none 0 0) := hV7.1 hp9
          conv => lhs; whnf
          refine (hD _).2 ⟨(⟨T, B, Ok, t⟩, 8, 2, p, z), ⟨rfl, hT5, hbound, .inr (.inl rfl)⟩, fun v A6 hq => ?_⟩
          obtain ⟨q6, hV8⟩ : A5.Sub A6 ∧ LookV A5 A6 T 8 2 p z v := hq
          have hT6 := TreeAt_sub hT5 q6
          obtain rfl : v = replyV 8 2 z 120 (.slice none 0 0) statZ (.slice none 0 0) := hV8.1 hp9
          conv => lhs; whnf
          refine (hD _).2 ⟨(⟨T, B, Ok, t⟩, 9, 3, p, z), ⟨rfl, hT6, hbound, .inr (.inr rfl)⟩, fun v A7 hq => ?_⟩
          obtain ⟨q7, hV9⟩ : A6.Sub A7 ∧ LookV A6 A7 T 9 3 p z v := hq
          have hT7 := TreeAt_sub hT6 q7
          obtain rfl : v = replyV 9 3 z 120 (.slice none 0 0) statZ (.slice none 0 0) := hV9.1 hp9
          have sE : A'.Sub A7 := sA.trans (q3.trans (q4.trans (q5.trans (q6.trans q7))))
          conv => lhs; whnf
          iterate 2
            refine split_b (fun hb => absurd hb (by simp)) (fun _ => ?_)
            conv => lhs; whnf
          refine split_b (fun hb => absurd hb (by simp)) (fun _ => ?_)
          conv => lhs; whnf
          refine go_D hD (by kernel_rfl) ?_
          have hend : D (A'.Sub A7 ∧ Value.bool true = .bool true) = true := (hD _).2 ⟨sE, rfl⟩
          exact Eq.trans (by kernel_rfl) hend
        | true =>
          conv => lhs; whnf
          refine (hD _).2 ⟨(⟨T, B, Ok, t⟩, 7, 1, p, z), ⟨rfl, hT4, hbound, .inl rfl⟩, fun v A5 hq => ?_⟩
          obtain ⟨q5, hV7⟩ : A4.Sub A5 ∧ LookV A4 A5 T 7 1 p z v := hq
          have hT5 := TreeAt_sub hT4 q5
          obtain rfl : v = replyV 7 1 z 210 (.slice none 0 0) statZ (.slice none 0 0) := hV7.2.1 hp9 hk9
          conv => lhs; whnf
          refine (hD _).2 ⟨(⟨T, B, Ok, t⟩, 8, 2, p, z), ⟨rfl, hT5, hbound, .inr (.inl rfl)⟩, fun v A6 hq => ?_⟩
          obtain ⟨q6, hV8⟩ : A5.Sub A6 ∧ LookV A5 A6 T 8 2 p z v := hq
          have hT6 := TreeAt_sub hT5 q6
          obtain rfl : v = replyV 8 2 z 210 (.slice none 0 0) statZ (.slice none 0 0) := hV8.2.1 hp9 hk9
          conv => lhs; whnf
          refine (hD _).2 ⟨(⟨T, B, Ok, t⟩, 9, 3, p, z), ⟨rfl, hT6, hbound, .inr (.inr rfl)⟩, fun v A7 hq => ?_⟩
          obtain ⟨q7, hV9⟩ : A6.Sub A7 ∧ LookV A6 A7 T 9 3 p z v := hq
          have hT7 := TreeAt_sub hT6 q7
          obtain rfl : v = replyV 9 3 z 210 (.slice none 0 0) statZ (.slice none 0 0) := hV9.2.1 hp9 hk9
          have sE : A'.Sub A7 := sA.trans (q3.trans (q4.trans (q5.trans (q6.trans q7))))
          conv => lhs; whnf
          iterate 2
            refine split_b (fun hb => absurd hb (by simp)) (fun _ => ?_)
            conv => lhs; whnf
          refine split_b (fun hb => absurd hb (by simp)) (fun _ => ?_)
          conv => lhs; whnf
          refine go_D hD (by kernel_rfl) ?_
          have hend : D (A'.Sub A7 ∧ Value.bool true = .bool true) = true := (hD _).2 ⟨sE, rfl⟩
          exact Eq.trans (by kernel_rfl) hend
      | some n =>
        have hp9 : pathOk p.data.toList = true := hKs _ (kGet_mem (bytes_key _) hk9)
        rw [GotV, hk9] at hG
        obtain ⟨vd, rfl, hS3⟩ : ∃ vd, v = .tuple #[nodeV p vd { n.stat with len := n.data.length, kids := (treeKids T p).length }, .bool true] ∧ SlB (A3.minus Ak) vd n.data := hG
        obtain ⟨a3, c3, rfl⟩ := hS3.1.form
        conv => lhs; whnf
        refine (hD _).2 ⟨(⟨T, B, Ok, t⟩, p), ⟨rfl, hT3, hbound⟩, fun v A4 hq => ?_⟩
        obtain ⟨q4, x, rfl, hx⟩ : A3.Sub A4 ∧ ∃ x, v = .tuple #[x, .bool (kGet p T.nodes).isSome] ∧ Sl (A4.minus A3) 1 (if (kGet p T.nodes).isSome then treeKids T p else []).length x ((if (kGet p T.nodes).isSome then treeKids T p else []).map strV) := hq
        have hT4 := TreeAt_sub hT3 q4
        rw [hk9] at hx
        have hx : Sl (A4.minus A3) 1 (treeKids T p).length x ((treeKids T p).map strV) := hx
        obtain ⟨a4, c4, rfl⟩ := hx.form
        conv => lhs; whnf
        refine (hD _).2 ⟨(⟨T, B, Ok, t⟩, 7, 1, p, z), ⟨rfl, hT4, hbound, .inl rfl⟩, fun v A5 hq => ?_⟩
        obtain ⟨q5, hV7⟩ : A4.Sub A5 ∧ LookV A4 A5 T 7 1 p z v := hq
        have hT5 := TreeAt_sub hT4 q5
        obtain ⟨vd7, vl7, rfl, hb7, hl7⟩ := hV7.2.2 hp9 n hk9
        rw [if_pos rfl] at hb7
        obtain ⟨a7, c7, rfl⟩ := hb7.1.form
        rw [if_neg (by omega)] at hl7
        subst hl7
        conv => lhs; whnf
        refine (hD _).2 ⟨(⟨T, B, Ok, t⟩, 8, 2, p, z), ⟨rfl, hT5, hbound, .inr (.inl rfl)⟩, fun v A6 hq => ?_⟩
        obtain ⟨q6, hV8⟩ : A5.Sub A6 ∧ LookV A5 A6 T 8 2 p z v := hq
        have hT6 := TreeAt_sub hT5 q6
        obtain ⟨vd8, vl8, rfl, hb8, hl8⟩ := hV8.2.2 hp9 n hk9
        rw [if_neg (by omega)] at hb8
        subst hb8
        rw [if_neg (by omega)] at hl8
        subst hl8
        conv => lhs; whnf
        refine (hD _).2 ⟨(⟨T, B, Ok, t⟩, 9, 3, p, z), ⟨rfl, hT6, hbound, .inr (.inr rfl)⟩, fun v A7 hq => ?_⟩
        obtain ⟨q7, hV9⟩ : A6.Sub A7 ∧ LookV A6 A7 T 9 3 p z v := hq
        have hT7 := TreeAt_sub hT6 q7
        obtain ⟨vd9, vl9, rfl, hb9, hl9⟩ := hV9.2.2 hp9 n hk9
        rw [if_neg (by omega)] at hb9
        subst hb9
        rw [if_pos rfl] at hl9
        obtain ⟨a9, c9, rfl⟩ := hl9.form
        have sE : A'.Sub A7 := sA.trans (q3.trans (q4.trans (q5.trans (q6.trans q7))))
        conv => lhs; whnf
        iterate 2
          refine split_b (fun hb => absurd hb (by simp)) (fun _ => ?_)
          conv => lhs; whnf
        refine split_b (fun hb => absurd hb (by simp)) (fun _ => ?_)
        conv => lhs; whnf
        refine (hD _).2 ⟨(n.data, n.data), ⟨_, _, rfl, hb7.sub (((minus_sub A4 A5).trans q6).trans q7), hS3.sub ((minus_sub Ak A3).trans (q4.trans (q5.trans (q6.trans q7))))⟩, fun v A8 hq => ?_⟩
        obtain ⟨rfl, hv⟩ : A8 = A7 ∧ v = .bool (decide (n.data = n.data)) := hq
        rw [decide_eq_true rfl] at hv
        subst hv
        conv => lhs; whnf
        refine go_D hD (by kernel_rfl) ?_
        generalize n.stat = st
        obtain ⟨s1, s2, s3, s4, s5, s6, s7, s8, s9, s10⟩ := st
        dsimp only
        conv => lhs; whnf
        repeat (first | refine go_D hD (by kernel_rfl) ?_ | refine split_b (fun _ => ?_) (fun hb => absurd hb (by simp; done)) ; conv => lhs; whnf)
        have hkl : (treeKids T p).length ≤ 140737488351232 := by
          have h1 := kids_le (T.nodes.map (·.1)) p
          rw [List.length_map] at h1
          rw [treeKids, sortL, List.length_mergeSort]
          omega
        refine (hD _).2 ⟨(treeKids T p, treeKids T p), ⟨_, _, rfl, ⟨hl9.sub (minus_sub _ _), hkl⟩, ⟨hx.sub ((minus_sub A3 A4).trans (q5.trans (q6.trans q7))), hkl⟩⟩, fun v A9 hq => ?_⟩
        obtain ⟨rfl, hv⟩ : A9 = A8 ∧ v = .bool (decide (treeKids T p = treeKids T p)) := hq
        rw [decide_eq_true rfl] at hv
        subst hv
        conv => lhs; whnf
        have hend : D (A'.Sub A9 ∧ Value.bool true = .bool true) = true := (hD _).2 ⟨sE, rfl⟩
        exact Eq.trans (by kernel_rfl) hend

end
end Go.Proofs.YtinahcnpabjinaaDoor
