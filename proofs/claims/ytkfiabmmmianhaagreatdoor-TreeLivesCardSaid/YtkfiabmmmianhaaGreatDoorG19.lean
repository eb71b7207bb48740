/-
  Contracts: the document's tree: the names of a node's children.
  Contracts: the law of chapter 11 is awake; is a deed great?
  The law TreeLives, walked.
  Lifting: what a row's arguments are in memory, as plain data of an arena that holds all that lay.
  Members and deeds as plain data, out of what a row's arguments are.
-/
import Derived.Test.YtkfiabmmmianhaaGreatDoorG17
import Derived.Test.YtkfiabmmmianhaaGreatDoorG06
import Derived.Test.YtkfiabmmmianhaaGreatDoorG07
import Derived.Test.YtkfiabmmmianhaaGreatDoorG18
import Derived.ChangeArms
import Derived.DataReads
import Derived.SizedLaws
namespace Go.Proofs.YtkfiabmmmianhaaGreatDoor
open Go.Sx Go.RowKit
noncomputable section
open Classical

structure RlG where
  k : Nat
  A : Arena
  v : Value

def rlistInv (A0 : Arena) (N : List ToldD) (p : ByteArray) : LInv :=
  { γ := RlG, G := fun g => g.k ≤ N.length ∧ A0.Sub g.A ∧ GrowR A0 g.A 1 9 (rkidsB (N.take g.k) p).length g.v ((rkidsB (N.take g.k) p).map strV),
    keepS := [0, 1], keepB := [], sl := fun g => [(7, .v (.int .i64 g.k)), (6, .v g.v)], bl := fun _ => [], ar := fun g => g.A, mu := fun g => N.length - g.k }

def rlistS : FSpec := ⟨RG × ByteArray, fun g vs A => vs = [.pointer (some ⟨g.1.r, 0, none⟩), .string g.2] ∧ RefAt A g.1.B g.1.O g.1.r g.1.N g.1.S ∧ g.1.N.length ≤ 1000000 ∧ Short g.1.N,
  fun g _ A v A' => A.Sub A' ∧ ∃ x, v = .tuple #[x, .bool (lookN g.1.N g.2).isSome] ∧ Sl (A'.minus A) 1 (if (lookN g.1.N g.2).isSome then rkidsB g.1.N g.2 else []).length x ((if (lookN g.1.N g.2).isSome then rkidsB g.1.N g.2 else []).map strV)⟩

set_option maxRecDepth 100000 in
set_option maxHeartbeats 0 in
theorem rlist_ok : FOk Tryz.prog 13 rlistS := by
  refine fok_v mixed fun ⟨⟨N, S, B, O, r⟩, p⟩ vs A hp => ?_
  obtain ⟨rfl, hRef, hN, hsh⟩ : vs = [.pointer (some ⟨r, 0, none⟩), .string p] ∧ RefAt A B O r N S ∧ N.length ≤ 1000000 ∧ Short N := hp
  have hC : CTSound Tryz.prog (lookC [specE 30 findS, specE 36 refParentS, specE 37 refBaseS] noC) := lookC_sound (noC_sound _) (fun x hx => by
    simp only [List.mem_cons, List.not_mem_nil, or_false] at hx
    rcases hx with rfl | rfl | rfl
    · exact specE_ok find_ok
    · exact specE_ok refParent_ok
    · exact specE_ok refBase_ok)
  refine ⟨_, tabO Tryz.prog _ (tabO Tryz.prog _ noL 60 [(13, 2)]) 60 [(13, 0)], 60, hC, tabO_sound mixed hC (tabO_sound mixed hC (noL_sound _) _ _) _ _, fun blk os out tape D hD => ?_⟩
  conv => lhs; whnf
  refine (hD _).2 ⟨(⟨N, S, B, O, r⟩, p), ⟨rfl, hRef, hN⟩, fun v A9 hq => ?_⟩
  have hq : A9 = A ∧ v = .int .i64 (findI N p) := hq
  have h9 := hq.1.symm
  have hv := hq.2
  subst h9
  refine Or.elim (look_find (N := N) (p := p)) (fun hf => ?_) (fun hf => ?_)
  · obtain ⟨hf1, hf2⟩ := hf
    subst hv
    have hend : rlistS.post (⟨N, S, B, O, r⟩, p) [] A (.tuple #[.slice none 0 0, .bool false]) A := by
      refine ⟨Arena.Sub.refl _, .slice none 0 0, ?_, ?_⟩
      · show _ = Value.tuple #[_, .bool (lookN N p).isSome]
        rw [hf1]; rfl
      · show Sl _ 1 (if (lookN N p).isSome then rkidsB N p else []).length _ ((if (lookN N p).isSome then rkidsB N p else []).map strV)
        rw [hf1]
        exact Sl.nil _ _
    conv => lhs; whnf
    refine go_dec hf2 ?_
    conv => lhs; whnf
    exact (hD _).2 hend
  obtain ⟨i, hi, hf1, hf2⟩ := hf
  rw [hf2] at hv
  subst hv
  obtain ⟨l, vn, vs', gn, gs, hl, h⟩ := hRef
  have hll : l.length = N.length := by rw [← hl, List.length_map]
  obtain ⟨_, ao, c, hvn, hc, hz1, hz2, hz3⟩ := h.nrow
  obtain ⟨e, cc, h8, h9, h10⟩ := hz3 (by omega)
  subst e
  subst hvn
  have htop : A.rd r 0 1 = some [.slice (some ⟨gn, 0, none⟩) l.length c] := h.top.rd (o := 0) (n := 1) (by show 0 + 1 ≤ 2; omega)
  have hra : A.rd gn 0 (l.length * 12) = some (l.flatMap nodeC) := by rw [rd_mk h8 (by omega), List.drop_zero, h10]
  conv => lhs; whnf
  refine (hD _).2 ⟨rlistInv A N p, ⟨(⟨0, A, .slice none 0 0⟩ : RlG), ⟨Nat.zero_le _, Arena.Sub.refl _, GrowR.nil _ _ _ _⟩, ⟨rfl, rfl, trivial⟩, trivial, rfl⟩, fun (sg : RlG) hG => ⟨⟨trivial, trivial, trivial⟩, trivial, ?_⟩⟩
  obtain ⟨k, As, v0⟩ := sg
  obtain ⟨hk, hAs, hGs⟩ : k ≤ N.length ∧ A.Sub As ∧ GrowR A As 1 9 (rkidsB (N.take k) p).length v0 ((rkidsB (N.take k) p).map strV) := hG
  have htop1 := rd_sub hAs htop
  conv => lhs; whnf
  repeat (refine go_rd htop1 ?_
          conv => lhs; whnf)
  refine split_dec (fun hlt => ?_) (fun hlt => ?_)
  rotate_left
  · have e : k = N.length := by
      have hlt : ¬ (k : Int) < (l.length : Int) := hlt
      omega
    rw [e, List.take_length] at hGs
    have hend : rlistS.post (⟨N, S, B, O, r⟩, p) [] A (.tuple #[v0, .bool true]) As := by
      refine ⟨hAs, v0, ?_, ?_⟩
      · show _ = Value.tuple #[_, .bool (lookN N p).isSome]
        rw [hf1]; rfl
      · show Sl _ 1 (if (lookN N p).isSome then rkidsB N p else []).length _ ((if (lookN N p).isSome then rkidsB N p else []).map strV)
        rw [hf1]
        exact grow_sl hGs (Arena.Sub.refl _)
    obtain ⟨b0, c0, hv0, -, -⟩ := hGs.formN
    subst hv0
    conv => lhs; whnf
    exact (hD _).2 hend
  have hkl : k < l.length := by
    have hlt : (k : Int) < (l.length : Int) := hlt
    omega
  have hkN : k < N.length := by omega
  have i0 : (0 : Int) ≤ (k : Int) ∧ (k : Int) < (l.length : Int) := by omega
  have r1 := rd_at (row_at (enc := nodeC) (fun _ => rfl) hra k hkl rfl) (i := 0) (m := 1) (by omega)
  have r1 : A.rd gn (0 + k * 12) 1 = some [.string l[k].1.path] := r1
  have hpk : l[k].1.path = N[k].path := by
    have h1 : (l.map (·.1))[k]? = N[k]? := by rw [hl]
    rw [List.getElem?_map, List.getElem?_eq_getElem hkl, List.getElem?_eq_getElem hkN, Option.map_some] at h1
    injection h1 with h1
    rw [h1]
  have hsk := hsh N[k] (List.getElem_mem hkN)
  have hst := kids_step N k hkN p
  rw [hpk] at r1
  obtain ⟨q0, hq0⟩ : ∃ q0, q0 = N[k].path := ⟨_, rfl⟩
  rw [← hq0] at r1 hst hsk
  have r1s := rd_sub hAs r1
  conv => lhs; whnf
  repeat (first | refine go_in i0 ?_ | refine go_rd htop1 ?_ | refine go_rd r1s ?_
          conv => lhs; whnf)
  refine (hD _).2 ⟨q0, ⟨rfl, hsk⟩, fun v A2 hq => ?_⟩
  have hq : As.Sub A2 ∧ v = .string (parentP q0) := hq
  obtain ⟨s2, hv⟩ := hq
  subst hv
  have hAs2 := hAs.trans s2
  have hGs2 := hGs.sub s2
  have htop2 := rd_sub hAs2 htop
  have r12 := rd_sub hAs2 r1
  conv => lhs; whnf
  repeat (first | refine go_in i0 ?_ | refine go_rd htop2 ?_ | refine go_rd r12 ?_ | refine go_D hD rfl ?_
          conv => lhs; whnf)
  refine split_b (fun hb => ?_) (fun hb => ?_)
  · have e : ¬ parentP q0 = p := fun e => by
      rw [e] at hb
      have h9 : beqL p.data.toList p.data.toList = true := beqL_iff.2 rfl
      simp [h9] at hb
    rw [if_neg e] at hst
    have hnext : (rlistInv A N p).G (⟨k + 1, A2, v0⟩ : RlG) := ⟨by show k + 1 ≤ N.length; omega, hAs2, by
      show GrowR A A2 1 9 (rkidsB (N.take (k + 1)) p).length v0 ((rkidsB (N.take (k + 1)) p).map strV)
      rw [hst]; exact hGs2⟩
    conv => lhs; whnf
    exact (hD _).2 ⟨(⟨k + 1, A2, v0⟩ : RlG), ⟨hnext, ⟨inc_slot (k := k) (by omega), rfl, trivial⟩, trivial, rfl⟩, by show N.length - (k + 1) < N.length - k; omega, ⟨same1 rfl rfl, same1 rfl rfl, trivial⟩, trivial⟩
  have e : parentP q0 = p := by
    refine bytes_ext (beqL_iff.1 ?_)
    simpa using hb
  rw [if_pos e] at hst
  have hlk := rkidsB_len (N.take k) p
  rw [List.length_take] at hlk
  obtain ⟨outk, hout⟩ : ∃ outk, outk = rkidsB (N.take k) p := ⟨_, rfl⟩
  rw [← hout] at hst hlk hGs2
  conv => lhs; whnf
  repeat (first | refine go_in i0 ?_ | refine go_rd htop2 ?_ | refine go_rd r12 ?_ | refine go_D hD rfl ?_
          conv => lhs; whnf)
  refine (hD _).2 ⟨q0, ⟨rfl, hsk⟩, fun v Ak hq => ?_⟩
  have hq : A2.Sub Ak ∧ v = .string (baseP q0) := hq
  obtain ⟨s3, hv⟩ := hq
  obtain ⟨pb, hpbq⟩ : ∃ pb, pb = baseP q0 := ⟨_, rfl⟩
  rw [← hpbq] at hv
  subst hv
  obtain ⟨pp, hpb⟩ : ∃ pp, pp = (cutP q0.data.toList).2 := ⟨_, rfl⟩
  rw [← hpb] at hst
  have hpv : Value.string pb = strV pp := by rw [hpbq, hpb]; rfl
  have hAk := hAs2.trans s3
  have hGk := hGs2.sub s3
  have htopk := rd_sub hAk htop
  have r1k := rd_sub hAk r1
  obtain ⟨base, c9, hv0, hbase, hPo⟩ := hGk.formN
  subst hv0
  conv => lhs; whnf
  repeat (first | refine go_in i0 ?_ | refine go_rd htopk ?_ | refine go_rd r1k ?_ | refine go_D hD rfl ?_
          conv => lhs; whnf)
  refine (hD _).2 ⟨cnt Ak 9 [0, 1, 6, 7, 8] [] outk.length fun q => ∀ i (h : i < outk.length), i < q → lessB pp outk[i] = true, ⟨(0 : Nat), ⟨Nat.zero_le _, fun i _ h => absurd h (Nat.not_lt_zero i)⟩, ⟨rfl, trivial⟩, trivial, rfl⟩, fun (q : Nat) hq => ⟨⟨trivial, trivial⟩, trivial, ?_⟩⟩
  simp only [cnt] at hq
  obtain ⟨hql, hqlt⟩ := hq
  have hcap : outk.length ≤ c9 := hGk.cap_le
  have hn0 : GrowR Ak Ak 1 9 0 (.slice (addrA none) 0 0) [] := GrowR.nil _ _ _ _
  obtain ⟨hP0, hA0⟩ := hn0.formB
  conv => lhs; whnf
  refine split_dec (fun hlt3 => ?_) (fun hlt3 => ?_)
  · have hqo : q < outk.length := by
      have hlt3 : (q : Int) < (outk.length : Int) := hlt3
      omega
    have q0i : (0 : Int) ≤ (q : Int) ∧ (q : Int) < (outk.length : Int) := by omega
    refine Or.elim hbase (fun hbs => absurd (((hPo.1 1 16 (by omega) (by omega)).none_ hbs).1) (by omega)) (fun hbs => ?_)
    obtain ⟨g0, hbs⟩ := hbs
    subst hbs
    have hrq : Ak.rd g0 0 (outk.length * 1) = some (outk.map strV) := by
      have := (hPo.1 1 16 (by omega) (by omega)).rd
      have h2 : (if outk.length * 1 = 0 then some [] else Ak.rd g0 0 (outk.length * 1)) = some (outk.map strV) := this
      rw [if_neg (by omega)] at h2
      exact h2
    have hr3 := text_at hrq q hqo rfl
    conv => lhs; whnf
    repeat (first | refine go_in q0i ?_ | refine go_rd hr3 ?_
            conv => lhs; whnf)
    have hltq : ∀ b : Bool, ltL outk[q] pb.data.toList = b → lessB pp outk[q] = b := fun b hb => by
      unfold lessB
      rw [hpb]
      rw [hpbq] at hb
      exact hb
    refine split_b (fun hb => ?_) (fun hb => ?_) <;> (conv => lhs; whnf)
    · have hb : lessB pp outk[q] = true := hltq _ hb
      refine (hD _).2 ⟨(q + 1 : Nat), ⟨⟨by omega, fun i hi hik => ?_⟩, ⟨inc_slot (by omega), trivial⟩, trivial, rfl⟩, by show outk.length - (q + 1) < outk.length - q; omega, ⟨same1 rfl rfl, same1 rfl rfl, same1 rfl rfl, same1 rfl rfl, same1 rfl rfl, trivial⟩, trivial⟩
      by_cases e2 : i = q
      · subst e2; exact hb
      · exact hqlt i hi (by omega)
    have hb : lessB pp outk[q] = false := hltq _ hb
    have hge : ∀ hk : q < outk.length, lessB pp outk[q] = false := fun _ => hb
    have hs1 : (if q = 0 then some [] else Ak.rd g0 (0 + bif c9.beq 0 then 0 else 0 * 1) (q * 1)) = some ((outk.take q).map strV) := src_take hrq (by omega) (by cases c9.beq 0 <;> rfl)
    have hs2 : ∀ A4, Ak.Sub A4 → (if outk.length - q = 0 then some [] else A4.rd g0 (0 + bif c9.beq q then 0 else q * 1) ((outk.length - q) * 1)) = some ((outk.drop q).map strV) := fun A4 h4 => src_drop (rd_sub h4 hrq) rfl fun hlt => by
      rw [beq_noN (by omega)]
      show 0 + q * 1 = q
      omega
    have hgb : ((decide ((0 : Int) ≤ 0) && decide ((0 : Int) ≤ (q : Int))) && (false || decide ((q : Int) ≤ (c9 : Int)))) = true := Bool.and_eq_true_iff.2 ⟨Bool.and_eq_true_iff.2 ⟨decide_eq_true (by omega), decide_eq_true (by omega)⟩, Bool.or_eq_true_iff.2 (.inr (decide_eq_true (by omega)))⟩
    have hgc : ((decide ((0 : Int) ≤ (q : Int)) && decide ((q : Int) ≤ (outk.length : Int))) && (true || decide ((outk.length : Int) ≤ (c9 : Int)))) = true := Bool.and_eq_true_iff.2 ⟨Bool.and_eq_true_iff.2 ⟨decide_eq_true (by omega), decide_eq_true (by omega)⟩, Bool.or_eq_true_iff.2 (.inl rfl)⟩
    refine go_b hgb ?_
    conv => lhs; whnf
    refine (hD _).2 ⟨[], (outk.take q).map strV, rfl, ?_, by rw [List.length_map, List.length_take]; show min q outk.length = q * 1; omega, fun v hv => (by
      obtain ⟨y, _, rfl⟩ := List.mem_map.1 hv
      rfl), by show 0 + q ≤ 9223372036854775807; omega, (hP0 q 16 (by omega) (by omega)).cap, rfl, fun _ => ⟨rfl, rfl⟩, fun _ _ h => (by cases h), fun v A2 hAp => ?_⟩
    · exact hs1
    obtain ⟨hG2, hk2⟩ := hA0 q _ v A2 (by rw [List.length_map, List.length_take, Nat.mul_one]; omega) (fun _ h => h) hAp
    rw [Nat.zero_add, List.nil_append] at hG2
    have s2 : Ak.Sub A2 := fun j o hj => by rw [hk2 j o hj]; exact hj
    obtain ⟨b2, c2, hv2, hb2, -⟩ := hG2.formN
    subst hv2
    conv => lhs; whnf
    refine (hD _).2 fun gb A3 hN => ?_
    have hN : A2.New A3 gb #[.string pb] 9 := hN
    obtain ⟨hP3, hA3⟩ := (hG2.sub hN.sub).formB
    have s3 : Ak.Sub A3 := s2.trans hN.sub
    have hd3 : ∀ j, A3.blk j = none → Ak.blk j = none := fun j hj => by
      cases h9 : Ak.blk j with
      | none => rfl
      | some o => rw [s3 _ _ h9] at hj; cases hj
    have hrow3 : A3.rd gb 0 (1 * 1) = some [.string pb] := hN.rd (o := 0) (n := 1 * 1) (by show 0 + 1 * 1 ≤ 1; omega)
    have hP3 := hP3 1 16 (by omega) (by omega)
    refine Or.elim hb2 (fun hb2 => ?_) (fun hb2 => ?_)
    rotate_left
    obtain ⟨g2, hb2⟩ := hb2
    all_goals
      subst hb2
      conv => lhs; whnf
      refine (hD _).2 ⟨(outk.take q).map strV, [.string pb], hP3.rd, ?_, rfl, ?_, ?_, hP3.cap, rfl, hP3.none_, fun g' o' he' hle' _ => hP3.room 1 rfl g' o' he' hle', fun v A4 hAp => ?_⟩
      · show (if 1 * 1 = 0 then some [] else A3.rd gb 0 (1 * 1)) = _
        rw [if_neg (by omega)]; exact hrow3
      · intro v hv
        simp only [List.mem_cons, List.not_mem_nil, or_false] at hv
        subst hv; rfl
      · show q + 1 ≤ 9223372036854775807
        omega
      obtain ⟨hG4, hk4⟩ := hA3 1 [.string pb] v A4 rfl hd3 hAp
      have s4 : Ak.Sub A4 := fun j o hj => by rw [hk4 j o hj]; exact s3 _ _ hj
      obtain ⟨b4, c4, hv4, hb4, -⟩ := hG4.formN
      subst hv4
      obtain ⟨hP4, hA4⟩ := hG4.formB
      have hP4 := hP4 (outk.length - q) 16 (by omega) (by omega)
      have hd4 : ∀ j, A4.blk j = none → Ak.blk j = none := fun j hj => by
        cases h9 : Ak.blk j with
        | none => rfl
        | some o => rw [s4 _ _ h9] at hj; cases hj
      conv => lhs; whnf
      refine go_b hgc ?_
      conv => lhs; whnf
      refine Or.elim hb4 (fun hb4 => ?_) (fun hb4 => ?_)
      rotate_left
      obtain ⟨g4, hb4⟩ := hb4
      all_goals
        subst hb4
        conv => lhs; whnf
        refine (hD _).2 ⟨(outk.take q).map strV ++ ([Value.string pb] : List Value), (outk.drop q).map strV, hP4.rd, ?_, by rw [List.length_map, List.length_drop]; show outk.length - q = (outk.length - q) * 1; omega, fun v hv => (by
          obtain ⟨y, _, rfl⟩ := List.mem_map.1 hv
          rfl), by show (q + 1) + (outk.length - q) ≤ 9223372036854775807; omega, hP4.cap, rfl, hP4.none_, fun g' o' he' hle' _ => hP4.room _ (by rw [List.length_map, List.length_drop]; omega) g' o' he' hle', fun v A5 hAp => ?_⟩
        · exact hs2 A4 s4
        obtain ⟨hG5, hk5⟩ := hA4 (outk.length - q) _ v A5 (by rw [List.length_map, List.length_drop]; omega) hd4 hAp
        have s5 : Ak.Sub A5 := fun j o hj => by rw [hk5 j o hj]; exact s4 _ _ hj
        have hnew : outk.take q ++ pp :: outk.drop q = outk.take q ++ [pp] ++ outk.drop q := by simp
        have hlen5 : (outk.take q ++ pp :: outk.drop q).length = outk.length + 1 := by
          rw [List.length_append, List.length_cons, List.length_take, List.length_drop]; omega
        have hrow5 : GrowR A A5 1 9 (outk.take q ++ pp :: outk.drop q).length v ((outk.take q ++ pp :: outk.drop q).map strV) := by
          have h5 := grow_know (K' := A) hG5 fun j o h1 h2 => (by
            cases h9 : A.blk j with
            | none => rfl
            | some o' => rw [hAk _ _ h9] at h1; cases h1)
          have e1 : (q + 1) + (outk.length - q) = outk.length + 1 := by omega
          rw [e1, hpv] at h5
          rw [hlen5, hnew, List.map_append, List.map_append, List.map_singleton]
          exact h5
        have hq9 : (outk.takeWhile (lessB pp)).length = q := tw_at hql hqlt hge
        have hI5 : (rlistInv A N p).G (⟨k + 1, A5, v⟩ : RlG) := ⟨by show k + 1 ≤ N.length; omega, hAk.trans s5, by
          show GrowR A A5 1 9 (rkidsB (N.take (k + 1)) p).length v ((rkidsB (N.take (k + 1)) p).map strV)
          rw [hst]
          unfold insB
          rw [hq9]
          exact hrow5⟩
        conv => lhs; whnf
        exact (hD _).2 ⟨(⟨k + 1, A5, v⟩ : RlG), ⟨hI5, ⟨inc_slot (k := k) (by omega), rfl, trivial⟩, trivial, rfl⟩, by show N.length - (k + 1) < N.length - k; omega, ⟨same1 rfl rfl, same1 rfl rfl, trivial⟩, trivial⟩
  · have hqe : q = outk.length := by
      have hlt3 : ¬ (q : Int) < (outk.length : Int) := hlt3
      omega
    have hge : ∀ hk : q < outk.length, lessB pp outk[q] = false := fun hk => absurd hk (by omega)
    refine Or.elim hbase (fun hbs => ?_) (fun hbs => ?_)
    · have hz : outk.length = 0 := ((hPo.1 1 16 (by omega) (by omega)).none_ hbs).1
      have hz9 : c9 = 0 := ((hPo.1 1 16 (by omega) (by omega)).none_ hbs).2
      have hzq : q = 0 := by omega
      subst hbs
      subst hz9
      subst hzq
      have hs1 : (if 0 = 0 then some [] else none) = some ((outk.take 0).map strV) := by
        rw [if_pos rfl, List.take_zero]; rfl
      have hs2 : ∀ A4, Ak.Sub A4 → (if outk.length - 0 = 0 then some [] else none) = some ((outk.drop 0).map strV) := fun A4 h4 => by
        rw [if_pos (by omega), List.length_eq_zero_iff.1 hz]; rfl
      conv => lhs; whnf
      have hgb : ((decide ((0 : Int) ≤ 0) && decide ((0 : Int) ≤ (0 : Int))) && (false || decide ((0 : Int) ≤ (0 : Int)))) = true := Bool.and_eq_true_iff.2 ⟨Bool.and_eq_true_iff.2 ⟨decide_eq_true (by omega), decide_eq_true (by omega)⟩, Bool.or_eq_true_iff.2 (.inr (decide_eq_true (by omega)))⟩
      have hgc : ((decide ((0 : Int) ≤ (0 : Int)) && decide ((0 : Int) ≤ (outk.length : Int))) && (true || decide ((outk.length : Int) ≤ (0 : Int)))) = true := Bool.and_eq_true_iff.2 ⟨Bool.and_eq_true_iff.2 ⟨decide_eq_true (by omega), decide_eq_true (by omega)⟩, Bool.or_eq_true_iff.2 (.inl rfl)⟩
      refine (hD _).2 ⟨[], (outk.take 0).map strV, rfl, ?_, by rw [List.length_map, List.length_take]; show min 0 outk.length = 0 * 1; omega, fun v hv => (by
        obtain ⟨y, _, rfl⟩ := List.mem_map.1 hv
        rfl), by show 0 + 0 ≤ 9223372036854775807; omega, (hP0 0 16 (by omega) (by omega)).cap, rfl, fun _ => ⟨rfl, rfl⟩, fun _ _ h => (by cases h), fun v A2 hAp => ?_⟩
      · exact hs1
      obtain ⟨hG2, hk2⟩ := hA0 0 _ v A2 (by rw [List.length_map, List.length_take, Nat.mul_one]; omega) (fun _ h => h) hAp
      rw [Nat.zero_add, List.nil_append] at hG2
      have s2 : Ak.Sub A2 := fun j o hj => by rw [hk2 j o hj]; exact hj
      obtain ⟨b2, c2, hv2, hb2, -⟩ := hG2.formN
      subst hv2
      conv => lhs; whnf
      refine (hD _).2 fun gb A3 hN => ?_
      have hN : A2.New A3 gb #[.string pb] 9 := hN
      obtain ⟨hP3, hA3⟩ := (hG2.sub hN.sub).formB
      have s3 : Ak.Sub A3 := s2.trans hN.sub
      have hd3 : ∀ j, A3.blk j = none → Ak.blk j = none := fun j hj => by
        cases h9 : Ak.blk j with
        | none => rfl
        | some o => rw [s3 _ _ h9] at hj; cases hj
      have hrow3 : A3.rd gb 0 (1 * 1) = some [.string pb] := hN.rd (o := 0) (n := 1 * 1) (by show 0 + 1 * 1 ≤ 1; omega)
      have hP3 := hP3 1 16 (by omega) (by omega)
      refine Or.elim hb2 (fun hb2 => ?_) (fun hb2 => ?_)
      rotate_left
      obtain ⟨g2, hb2⟩ := hb2
      all_goals
        subst hb2
        conv => lhs; whnf
        refine (hD _).2 ⟨(outk.take 0).map strV, [.string pb], hP3.rd, ?_, rfl, ?_, ?_, hP3.cap, rfl, hP3.none_, fun g' o' he' hle' _ => hP3.room 1 rfl g' o' he' hle', fun v A4 hAp => ?_⟩
        · show (if 1 * 1 = 0 then some [] else A3.rd gb 0 (1 * 1)) = _
          rw [if_neg (by omega)]; exact hrow3
        · intro v hv
          simp only [List.mem_cons, List.not_mem_nil, or_false] at hv
          subst hv; rfl
        · show 0 + 1 ≤ 9223372036854775807
          omega
        obtain ⟨hG4, hk4⟩ := hA3 1 [.string pb] v A4 rfl hd3 hAp
        have s4 : Ak.Sub A4 := fun j o hj => by rw [hk4 j o hj]; exact s3 _ _ hj
        obtain ⟨b4, c4, hv4, hb4, -⟩ := hG4.formN
        subst hv4
        obtain ⟨hP4, hA4⟩ := hG4.formB
        have hP4 := hP4 (outk.length - 0) 16 (by omega) (by omega)
        have hd4 : ∀ j, A4.blk j = none → Ak.blk j = none := fun j hj => by
          cases h9 : Ak.blk j with
          | none => rfl
          | some o => rw [s4 _ _ h9] at hj; cases hj
        conv => lhs; whnf
        refine Or.elim hb4 (fun hb4 => ?_) (fun hb4 => ?_)
        rotate_left
        obtain ⟨g4, hb4⟩ := hb4
        all_goals
          subst hb4
          conv => lhs; whnf
          refine (hD _).2 ⟨(outk.take 0).map strV ++ ([Value.string pb] : List Value), (outk.drop 0).map strV, hP4.rd, ?_, by rw [List.length_map, List.length_drop]; show outk.length - 0 = (outk.length - 0) * 1; omega, fun v hv => (by
            obtain ⟨y, _, rfl⟩ := List.mem_map.1 hv
            rfl), by show (0 + 1) + (outk.length - 0) ≤ 9223372036854775807; omega, hP4.cap, rfl, hP4.none_, fun g' o' he' hle' _ => hP4.room _ (by rw [List.length_map, List.length_drop]; omega) g' o' he' hle', fun v A5 hAp => ?_⟩
          · exact hs2 A4 s4
          obtain ⟨hG5, hk5⟩ := hA4 (outk.length - 0) _ v A5 (by rw [List.length_map, List.length_drop]; omega) hd4 hAp
          have s5 : Ak.Sub A5 := fun j o hj => by rw [hk5 j o hj]; exact s4 _ _ hj
          have hnew : outk.take 0 ++ pp :: outk.drop 0 = outk.take 0 ++ [pp] ++ outk.drop 0 := by simp
          have hlen5 : (outk.take 0 ++ pp :: outk.drop 0).length = outk.length + 1 := by
            rw [List.length_append, List.length_cons, List.length_take, List.length_drop]; omega
          have hrow5 : GrowR A A5 1 9 (outk.take 0 ++ pp :: outk.drop 0).length v ((outk.take 0 ++ pp :: outk.drop 0).map strV) := by
            have h5 := grow_know (K' := A) hG5 fun j o h1 h2 => (by
              cases h9 : A.blk j with
              | none => rfl
              | some o' => rw [hAk _ _ h9] at h1; cases h1)
            have e1 : (0 + 1) + (outk.length - 0) = outk.length + 1 := by omega
            rw [e1, hpv] at h5
            rw [hlen5, hnew, List.map_append, List.map_append, List.map_singleton]
            exact h5
          have hq9 : (outk.takeWhile (lessB pp)).length = 0 := tw_at hql hqlt hge
          have hI5 : (rlistInv A N p).G (⟨k + 1, A5, v⟩ : RlG) := ⟨by show k + 1 ≤ N.length; omega, hAk.trans s5, by
            show GrowR A A5 1 9 (rkidsB (N.take (k + 1)) p).length v ((rkidsB (N.take (k + 1)) p).map strV)
            rw [hst]
            unfold insB
            rw [hq9]
            exact hrow5⟩
          conv => lhs; whnf
          exact (hD _).2 ⟨(⟨k + 1, A5, v⟩ : RlG), ⟨hI5, ⟨inc_slot (k := k) (by omega), rfl, trivial⟩, trivial, rfl⟩, by show N.length - (k + 1) < N.length - k; omega, ⟨same1 rfl rfl, same1 rfl rfl, trivial⟩, trivial⟩
    · obtain ⟨g0, hbs⟩ := hbs
      subst hbs
      have hrq : baseRd Ak (some (g0, 0)) (outk.length * 1) = some (outk.map strV) := (hPo.1 1 16 (by omega) (by omega)).rd
      have hrq2 : outk.length ≠ 0 → Ak.rd g0 0 (outk.length * 1) = some (outk.map strV) := fun h0 => by
        have h2 : (if outk.length * 1 = 0 then some [] else Ak.rd g0 0 (outk.length * 1)) = some (outk.map strV) := hrq
        rw [if_neg (by omega)] at h2
        exact h2
      have hs1 : (if q = 0 then some [] else Ak.rd g0 (0 + bif c9.beq 0 then 0 else 0 * 1) (q * 1)) = some ((outk.take q).map strV) := by
        by_cases h0 : q = 0
        · rw [if_pos h0, h0, List.take_zero]; rfl
        · rw [if_neg h0]
          have := src_take (q := q) (o := 0 + bif c9.beq 0 then 0 else 0 * 1) (hrq2 (by omega)) (by omega) (by cases c9.beq 0 <;> rfl)
          rw [if_neg h0] at this
          exact this
      have hs2 : ∀ A4, Ak.Sub A4 → (if outk.length - q = 0 then some [] else A4.rd g0 (0 + bif c9.beq q then 0 else q * 1) ((outk.length - q) * 1)) = some ((outk.drop q).map strV) := fun A4 h4 => by
        rw [if_pos (by omega), List.drop_eq_nil_of_le (by omega)]; rfl
      conv => lhs; whnf
      have hgb : ((decide ((0 : Int) ≤ 0) && decide ((0 : Int) ≤ (q : Int))) && (false || decide ((q : Int) ≤ (c9 : Int)))) = true := Bool.and_eq_true_iff.2 ⟨Bool.and_eq_true_iff.2 ⟨decide_eq_true (by omega), decide_eq_true (by omega)⟩, Bool.or_eq_true_iff.2 (.inr (decide_eq_true (by omega)))⟩
      have hgc : ((decide ((0 : Int) ≤ (q : Int)) && decide ((q : Int) ≤ (outk.length : Int))) && (true || decide ((outk.length : Int) ≤ (c9 : Int)))) = true := Bool.and_eq_true_iff.2 ⟨Bool.and_eq_true_iff.2 ⟨decide_eq_true (by omega), decide_eq_true (by omega)⟩, Bool.or_eq_true_iff.2 (.inl rfl)⟩
      refine go_b hgb ?_
      conv => lhs; whnf
      refine (hD _).2 ⟨[], (outk.take q).map strV, rfl, ?_, by rw [List.length_map, List.length_take]; show min q outk.length = q * 1; omega, fun v hv => (by
        obtain ⟨y, _, rfl⟩ := List.mem_map.1 hv
        rfl), by show 0 + q ≤ 9223372036854775807; omega, (hP0 q 16 (by omega) (by omega)).cap, rfl, fun _ => ⟨rfl, rfl⟩, fun _ _ h => (by cases h), fun v A2 hAp => ?_⟩
      · exact hs1
      obtain ⟨hG2, hk2⟩ := hA0 q _ v A2 (by rw [List.length_map, List.length_take, Nat.mul_one]; omega) (fun _ h => h) hAp
      rw [Nat.zero_add, List.nil_append] at hG2
      have s2 : Ak.Sub A2 := fun j o hj => by rw [hk2 j o hj]; exact hj
      obtain ⟨b2, c2, hv2, hb2, -⟩ := hG2.formN
      subst hv2
      conv => lhs; whnf
      refine (hD _).2 fun gb A3 hN => ?_
      have hN : A2.New A3 gb #[.string pb] 9 := hN
      obtain ⟨hP3, hA3⟩ := (hG2.sub hN.sub).formB
      have s3 : Ak.Sub A3 := s2.trans hN.sub
      have hd3 : ∀ j, A3.blk j = none → Ak.blk j = none := fun j hj => by
        cases h9 : Ak.blk j with
        | none => rfl
        | some o => rw [s3 _ _ h9] at hj; cases hj
      have hrow3 : A3.rd gb 0 (1 * 1) = some [.string pb] := hN.rd (o := 0) (n := 1 * 1) (by show 0 + 1 * 1 ≤ 1; omega)
      have hP3 := hP3 1 16 (by omega) (by omega)
      refine Or.elim hb2 (fun hb2 => ?_) (fun hb2 => ?_)
      rotate_left
      obtain ⟨g2, hb2⟩ := hb2
      all_goals
        subst hb2
        conv => lhs; whnf
        refine (hD _).2 ⟨(outk.take q).map strV, [.string pb], hP3.rd, ?_, rfl, ?_, ?_, hP3.cap, rfl, hP3.none_, fun g' o' he' hle' _ => hP3.room 1 rfl g' o' he' hle', fun v A4 hAp => ?_⟩
        · show (if 1 * 1 = 0 then some [] else A3.rd gb 0 (1 * 1)) = _
          rw [if_neg (by omega)]; exact hrow3
        · intro v hv
          simp only [List.mem_cons, List.not_mem_nil, or_false] at hv
          subst hv; rfl
        · show q + 1 ≤ 9223372036854775807
          omega
        obtain ⟨hG4, hk4⟩ := hA3 1 [.string pb] v A4 rfl hd3 hAp
        have s4 : Ak.Sub A4 := fun j o hj => by rw [hk4 j o hj]; exact s3 _ _ hj
        obtain ⟨b4, c4, hv4, hb4, -⟩ := hG4.formN
        subst hv4
        obtain ⟨hP4, hA4⟩ := hG4.formB
        have hP4 := hP4 (outk.length - q) 16 (by omega) (by omega)
        have hd4 : ∀ j, A4.blk j = none → Ak.blk j = none := fun j hj => by
          cases h9 : Ak.blk j with
          | none => rfl
          | some o => rw [s4 _ _ h9] at hj; cases hj
        conv => lhs; whnf
        refine go_b hgc ?_
        conv => lhs; whnf
        refine Or.elim hb4 (fun hb4 => ?_) (fun hb4 => ?_)
        rotate_left
        obtain ⟨g4, hb4⟩ := hb4
        all_goals
          subst hb4
          conv => lhs; whnf
          refine (hD _).2 ⟨(outk.take q).map strV ++ ([Value.string pb] : List Value), (outk.drop q).map strV, hP4.rd, ?_, by rw [List.length_map, List.length_drop]; show outk.length - q = (outk.length - q) * 1; omega, fun v hv => (by
            obtain ⟨y, _, rfl⟩ := List.mem_map.1 hv
            rfl), by show (q + 1) + (outk.length - q) ≤ 9223372036854775807; omega, hP4.cap, rfl, hP4.none_, fun g' o' he' hle' _ => hP4.room _ (by rw [List.length_map, List.length_drop]; omega) g' o' he' hle', fun v A5 hAp => ?_⟩
          · exact hs2 A4 s4
          obtain ⟨hG5, hk5⟩ := hA4 (outk.length - q) _ v A5 (by rw [List.length_map, List.length_drop]; omega) hd4 hAp
          have s5 : Ak.Sub A5 := fun j o hj => by rw [hk5 j o hj]; exact s4 _ _ hj
          have hnew : outk.take q ++ pp :: outk.drop q = outk.take q ++ [pp] ++ outk.drop q := by simp
          have hlen5 : (outk.take q ++ pp :: outk.drop q).length = outk.length + 1 := by
            rw [List.length_append, List.length_cons, List.length_take, List.length_drop]; omega
          have hrow5 : GrowR A A5 1 9 (outk.take q ++ pp :: outk.drop q).length v ((outk.take q ++ pp :: outk.drop q).map strV) := by
            have h5 := grow_know (K' := A) hG5 fun j o h1 h2 => (by
              cases h9 : A.blk j with
              | none => rfl
              | some o' => rw [hAk _ _ h9] at h1; cases h1)
            have e1 : (q + 1) + (outk.length - q) = outk.length + 1 := by omega
            rw [e1, hpv] at h5
            rw [hlen5, hnew, List.map_append, List.map_append, List.map_singleton]
            exact h5
          have hq9 : (outk.takeWhile (lessB pp)).length = q := tw_at hql hqlt hge
          have hI5 : (rlistInv A N p).G (⟨k + 1, A5, v⟩ : RlG) := ⟨by show k + 1 ≤ N.length; omega, hAk.trans s5, by
            show GrowR A A5 1 9 (rkidsB (N.take (k + 1)) p).length v ((rkidsB (N.take (k + 1)) p).map strV)
            rw [hst]
            unfold insB
            rw [hq9]
            exact hrow5⟩
          conv => lhs; whnf
          exact (hD _).2 ⟨(⟨k + 1, A5, v⟩ : RlG), ⟨hI5, ⟨inc_slot (k := k) (by omega), rfl, trivial⟩, trivial, rfl⟩, by show N.length - (k + 1) < N.length - k; omega, ⟨same1 rfl rfl, same1 rfl rfl, trivial⟩, trivial⟩

end
end Go.Proofs.YtkfiabmmmianhaaGreatDoor

namespace Go.Proofs.YtkfiabmmmianhaaGreatDoor
open Go.Sx Go.RowKit
noncomputable section
open Classical

/-- A closed run that gives true, where some blocks are known. -/
theorem fok_closedG {P : Program} (hm : P.follows .mixedOrders = true) {C : FuncId → Option CT} (hC : CTSound P C) {Λ : LTab} (hΛ : LTSound P Λ) {n : Nat} {f : FuncId} {gl : List (Nat × List Value)} {Q : Arena → Prop}
    (hQ : ∀ (A : Arena) (w : World), (∀ k o, A.blk k = some o → w.heap[k]? = some o) → Q A → ∀ g cs, (g, cs) ∈ gl → ∃ c t fz, w.heap[g]? = some (.cells c t fz) ∧ ∀ (i : Nat) v, cs[i]? = some v → c[i]? = some v)
    (hk : ∀ (w : World) (hg : ∀ g cs, (g, cs) ∈ gl → ∃ c t fz, w.heap[g]? = some (.cells c t fz) ∧ ∀ (i : Nat) v, cs[i]? = some v → c[i]? = some v), sxTop P C Λ n f [] ⟨.e, 0, memG w gl hg⟩ (fun r _ => isT r) = true) :
    FOk P f ⟨Unit, fun _ vs A => vs = [] ∧ Q A, fun _ _ A v A' => A' = A ∧ v = .bool true⟩ := by
  intro _ vs A w hA hvs
  obtain ⟨rfl, hq⟩ : vs = [] ∧ Q A := hvs
  have hg := hQ A w hA hq
  have R : HRel (fun _ => ⟨0, 0, 0⟩) ⟨.e, 0, memG w gl hg⟩ w := by
    refine ⟨rfl, rfl, rfl, fun k o hk => hk, fun b B hb => ?_, fun b b' B B' hb => ?_, fun b B hb => ?_, fun k o hk => (by cases hk), fun b B hb => ?_, fun k o hk => (by cases hk)⟩ <;> (rw [T.get_e] at hb; cases hb)
  refine (sxTop_sound hm hC hΛ n f [] _ _ (hk w hg) _ w R (fun x hx => by cases hx)).mono (fun v w' ⟨z, h', ρ', hz, hv, hl, R', _, _, hle⟩ => ?_) fun _ _ h => h
  have old : ∀ k o, w.heap[k]? = some o → w'.heap[k]? = some o := fun k o hk => R'.mem k o (hle.1 k o hk)
  refine ⟨A, ⟨rfl, ?_⟩, R'.os.trans hle.2.1, R'.out.trans hle.2.2.1, R'.tape.trans hle.2.2.2, fun k hk hlt => ?_, fun k o hk => old k o (hA k o hk), fun k o ho => .inl ⟨o, ho⟩⟩
  · rw [hv]
    cases z with
    | v x => cases x with
      | bool b => simp only [isT] at hz; subst hz; rfl
      | _ => simp [isT] at hz
    | _ => simp [isT] at hz
  · have h0 : w.heap[k]? = some w.heap[k] := Array.getElem?_eq_getElem hlt
    rw [old k _ h0, h0]

def hasG : List (Nat × List Value) := [((0 : Nat), [.int .i64 0, .int .i64 23, .int .i64 17, .int .i64 11, .int .i64 32, .int .i64 260, .int .i64 0, .int .i64 128, .int .i64 256, .int .i64 64])]

theorem hasG_of (A : Arena) (w : World) (hA : ∀ k o, A.blk k = some o → w.heap[k]? = some o) (h : HasA A) : ∀ g cs, (g, cs) ∈ hasG → ∃ c t fz, w.heap[g]? = some (.cells c t fz) ∧ ∀ (i : Nat) v, cs[i]? = some v → c[i]? = some v := fun g cs hm => by
  simp only [hasG, List.mem_singleton, Prod.mk.injEq] at hm
  obtain ⟨rfl, rfl⟩ := hm
  unfold HasA at h
  rw [A.rdeq] at h
  unfold rdOf at h
  split at h
  · rename_i c t fz hb
    split at h
    · injection h with h
      refine ⟨c, t, fz, hA _ _ hb, fun i v hv => ?_⟩
      have h2 : [Value.int .i64 0, .int .i64 23, .int .i64 17, .int .i64 11, .int .i64 32, .int .i64 260, .int .i64 0, .int .i64 128, .int .i64 256, .int .i64 64] = (c.toList.drop 0).take 10 := h.symm
      rw [h2, List.drop_zero, List.getElem?_take] at hv
      split at hv
      · rw [← Array.getElem?_toList]; exact hv
      · cases hv
    · cases h
  · cases h

set_option maxRecDepth 100000 in
theorem awake11_run (w : World) (hg : ∀ g cs, (g, cs) ∈ hasG → ∃ c t fz, w.heap[g]? = some (.cells c t fz) ∧ ∀ (i : Nat) v, cs[i]? = some v → c[i]? = some v) : sxTop Tryz.prog C0 noL 400 7 [] ⟨.e, 0, memG w hasG hg⟩ (fun r _ => isT r) = true := by kernel_rfl

def awake11S : FSpec := ⟨Unit, fun _ vs A => vs = [] ∧ HasA A, fun _ _ A v A' => A' = A ∧ v = .bool true⟩

theorem awake11_ok : FOk Tryz.prog 7 awake11S := fok_closedG mixed C0_sound (noL_sound _) hasG_of awake11_run

def greatS : FSpec := ⟨DeedD × Arena, fun g vs _ => ∃ cs, vs = [deedV cs] ∧ DeedR g.2 g.1 cs, fun g _ A v A' => A' = A ∧ v = .bool (decide ((60 : Int) < g.1.parts.length))⟩

set_option maxRecDepth 100000 in
set_option maxHeartbeats 0 in
theorem great_ok : FOk Tryz.prog 6 greatS := by
  refine fok_v mixed fun ⟨d, C⟩ vs A hp => ?_
  obtain ⟨cs, rfl, hR⟩ : ∃ cs, vs = [deedV cs] ∧ DeedR C d cs := hp
  obtain ⟨⟨zxid, kind, ses, turn, xid, dtime, path, data, owner, ver, cver, tmo, err, cfg, mem⟩, parts⟩ := d
  rw [DeedR] at hR
  dsimp only [DeedH.cells] at hR
  obtain ⟨vd, vm, vp, rws, rfl, -, hd1, hM, hSp, hlen2, hRows⟩ := hR
  obtain ⟨a7, k7, rfl⟩ := hd1.1.form
  obtain ⟨a14, k14, rfl⟩ := hM.1.form
  obtain ⟨a15, k15, rfl⟩ := hSp.form
  refine ⟨noC, noL, 60, noC_sound _, noL_sound _, fun blk os out tape D hD => ?_⟩
  conv => lhs; whnf
  exact (hD _).2 ⟨rfl, rfl⟩

end
end Go.Proofs.YtkfiabmmmianhaaGreatDoor

namespace Go.Proofs.YtkfiabmmmianhaaGreatDoor
open Go.Sx Go.RowKit
noncomputable section
open Classical

structure LvT where
  k : Nat
  A : Arena
  Ba : Arena
  Oa : Nat → Prop
  T : TreeD
  Bb : Arena
  Ob : Nat → Prop
  N : List ToldD
  S : List SitD

structure LvInv (A0 : Arena) (ta rb n : Nat) (s : LvT) : Prop where
  le : s.k ≤ n
  a : TreeAt s.A s.Ba s.Oa ta s.T
  b : RefAt s.A s.Bb s.Ob rb s.N s.S
  ap : ApartR s.Ba s.Oa s.Bb s.Ob
  sa : Aside s.A A0 s.Oa
  sb : Aside s.A A0 s.Ob
  rt : RT s.T s.N s.S
  keys : KeysOk s.T
  na : s.T.nodes.length ≤ 1 + s.k * 61
  ea : s.T.seats.length ≤ s.k * 2

def livesInv (A0 : Arena) (ta rb n : Nat) : LInv := { γ := LvT, G := LvInv A0 ta rb n, keepS := [0, 1, 2, 7, 8], keepB := [], sl := fun s => [(9, .v (.int .i64 s.k))], bl := fun _ => [], ar := fun s => s.A, mu := fun s => n - s.k }

def livesS : FSpec := ⟨List DeedD × ByteArray × Int, fun g vs A => ∃ v, vs = [v, .string g.2.1, .int .i64 g.2.2] ∧ DeedsS A v g.1 ∧ HasA A, fun _ _ A v A' => A.Sub A' ∧ v = .bool true⟩

set_option maxRecDepth 100000 in
set_option maxHeartbeats 0 in
theorem lives_ok : FOk Tryz.prog 3 livesS := by
  refine fok_v mixed fun ⟨(ds : List DeedD), p, ses0⟩ vs A hp => ?_
  obtain ⟨v, rfl, ⟨rows, hS, hlen, hR⟩, hHas⟩ : ∃ v, vs = [v, .string p, .int .i64 ses0] ∧ DeedsS A v ds ∧ HasA A := hp
  obtain ⟨ao, c, rfl, hc, hl, ha1, ha2, ha3⟩ := hS
  have hrow : ∀ k (hk : k < ds.length), ∃ g0 o, ao = some ⟨g0, o, none⟩ ∧ ∃ cs, A.rd g0 (o + k * 16) 16 = some cs ∧ DeedR A ds[k] cs := fun k hk => by
    obtain ⟨g0, o, e, hra⟩ := Sl.at_ hc ha1 ha2 ha3 (by omega)
    exact ⟨g0, o, e, deed_at hra hR k hk rfl⟩
  have hC : CTSound Tryz.prog (lookC [specE 7 awake11S, specE 4 newS, specE 8 applyS, specE 6 greatS, specE 5 rnewS, specE 9 rapplyRS, specE 10 getS, specE 11 rgetS, specE 12 listS, specE 13 rlistS, specE 14 likeS, specE 15 sameNode2S, specE 16 sameTextsS, specE 17 ownedS, specE 18 rownedS] noC) := lookC_sound (noC_sound _) (fun x hx => by
    simp only [List.mem_cons, List.not_mem_nil, or_false] at hx
    rcases hx with rfl | rfl | rfl | rfl | rfl | rfl | rfl | rfl | rfl | rfl | rfl | rfl | rfl | rfl | rfl
    · exact specE_ok awake11_ok
    · exact specE_ok new_ok
    · exact specE_ok apply_ok
    · exact specE_ok great_ok
    · exact specE_ok rnew_ok
    · exact specE_ok rapplyR_ok
    · exact specE_ok get_ok
    · exact specE_ok rget_ok
    · exact specE_ok list_ok
    · exact specE_ok rlist_ok
    · exact specE_ok like_ok
    · exact specE_ok sameNode2_ok
    · exact specE_ok sameTexts_ok
    · exact specE_ok owned_ok
    · exact specE_ok rowned_ok)
  refine ⟨_, tabO Tryz.prog _ noL 60 [(3, 0)], 60, hC, tabO_sound mixed hC (noL_sound _) _ _, fun blk os out tape D hD => ?_⟩
  conv => lhs; whnf
  refine split_dec (fun h60 => ?_) (fun h60 => ?_)
  · have h60' : 60 < ds.length := by
      have h60 : (60 : Int) < ds.length := h60
      omega
    obtain ⟨g0, o, rfl, hra⟩ := Sl.at_ hc ha1 ha2 ha3 (by omega)
    obtain ⟨c', rfl⟩ : ∃ c', c = c' + 1 := ⟨c - 1, by omega⟩
    have hn : ∃ n : Nat, n = 60 ∧ n ≤ ds.length ∧ n ≤ c' + 1 ∧ n ≤ 60 := ⟨_, rfl, by omega, by omega, by omega⟩
    conv => lhs; whnf
    refine go_dec (by show (60 : Int) ≤ ((c' + 1 : Nat) : Int); omega) ?_
    conv => lhs; whnf
    obtain ⟨n, hn, hle, hnc, hn60⟩ := hn
    refine (hD _).2 ⟨(), rfl, fun v A1 hq => ?_⟩
    obtain ⟨ta, O1, rfl, hT1, s1, hO1⟩ : ∃ t O, v = .pointer (some ⟨t, 0, none⟩) ∧ TreeAt A1 Arena.void O t treeNew ∧ A.Sub A1 ∧ ∀ k, O k → A.blk k = none := hq
    conv => lhs; whnf
    refine (hD _).2 ⟨(), rfl, fun v A2 hq => ?_⟩
    obtain ⟨rb, O2, rfl, hT2, s2, hO2⟩ : ∃ r O, v = .pointer (some ⟨r, 0, none⟩) ∧ RefAt A2 Arena.void O r refNew [] ∧ A1.Sub A2 ∧ ∀ k, O k → A1.blk k = none := hq
    have hap0 : ApartR Arena.void O1 Arena.void O2 := by
      obtain ⟨m, s', E, h⟩ := hT1
      refine ⟨fun k h1 h2 => ?_, fun k o hb _ => (by cases hb), fun k o hb _ => (by cases hb)⟩
      obtain ⟨o, ho⟩ := h.live k h1
      rw [hO2 k h2] at ho; cases ho
    conv => lhs; whnf
    have hI0 : LvInv A ta rb n ⟨0, A2, Arena.void, O1, treeNew, Arena.void, O2, refNew, []⟩ :=
      ⟨Nat.zero_le _, TreeAt_sub hT1 s2, hT2, hap0, ⟨s1.trans s2, fun k o hk hO => (by rw [hO1 k hO] at hk; cases hk)⟩, ⟨s1.trans s2, fun k o hk hO => (by have := s1 _ _ hk; rw [hO2 k hO] at this; cases this)⟩, rt_new, keys_new, by show 1 ≤ 1 + 0 * 61; omega, by show 0 ≤ 0 * 2; omega⟩
    refine (hD _).2 ⟨livesInv A ta rb n, ⟨(⟨0, A2, Arena.void, O1, treeNew, Arena.void, O2, refNew, []⟩ : LvT), hI0, ⟨rfl, trivial⟩, trivial, rfl⟩, fun (s : LvT) hG => ⟨⟨trivial, trivial⟩, trivial, ?_⟩⟩
    obtain ⟨k, Ak, Ba, Oa, T, Bb, Ob, N, S⟩ := s
    obtain ⟨hk, hTa, hTb, hAp, hsa, hsb, hrt, hky, hna, hea⟩ : LvInv A ta rb n ⟨k, Ak, Ba, Oa, T, Bb, Ob, N, S⟩ := hG
    dsimp only at hk hTa hTb hAp hsa hsb hrt hky hna hea
    conv => lhs; whnf
    refine split_dec (fun hlt => ?_) (fun hlt => ?_)
    · have hkn : k < n := by
        have hlt : (k : Int) < (n : Int) := by rw [hn]; exact hlt
        omega
      obtain ⟨g1, o1, e1, cs, r1, hR1⟩ := hrow k (by omega)
      cases e1
      conv => lhs; whnf
      have hin : (k : Int) < (n : Int) := by omega
      rw [hn] at hin
      refine go_in ⟨by show (0 : Int) ≤ (k : Int); omega, hin⟩ ?_
      conv => lhs; whnf
      obtain ⟨d, hd⟩ : ∃ d, d = ds[k] := ⟨_, rfl⟩
      rw [← hd] at hR1
      obtain ⟨⟨zxid, kind, ses, turn, xid, dtime, path, data, owner, ver, cver, tmo, err, cfg, mem⟩, parts⟩ := d
      have hR0 := hR1
      rw [DeedR] at hR1
      dsimp only [DeedH.cells] at hR1
      obtain ⟨vd, vm, vp, rws, rfl, -, hd1, hM, hSp, hlen2, hRows⟩ := hR1
      obtain ⟨a7, k7, rfl⟩ := hd1.1.form
      obtain ⟨a14, k14, rfl⟩ := hM.1.form
      obtain ⟨a15, k15, rfl⟩ := hSp.form
      refine go_rd (rd_sub hsa.1 r1) ?_
      conv => lhs; whnf
      refine (hD _).2 ⟨(.mk ⟨zxid, kind, ses, turn, xid, dtime, path, data, owner, ver, cver, tmo, err, cfg, mem⟩ parts, A), ⟨_, rfl, hR0⟩, fun v A9 hq => ?_⟩
      obtain ⟨h9, rfl⟩ : Ak = A9 ∧ v = .bool (decide ((60 : Int) < parts.length)) := ⟨hq.1.symm, hq.2⟩
      subst h9
      conv => lhs; whnf
      refine split_dec (fun hw => ?_) (fun hw => ?_) <;> (conv => lhs; whnf)
      · refine (hD _).2 ⟨(), ⟨rfl, hHas.sub hsa.1⟩, fun v A9 hq => ?_⟩
        obtain ⟨h9, hv⟩ : Ak = A9 ∧ v = .bool true := ⟨hq.1.symm, hq.2⟩
        subst h9 hv
        conv => lhs; whnf
        exact (hD _).2 ⟨hsa.1, rfl⟩
      have hwp : parts.length ≤ 60 := by
        have hw : ¬ (60 : Int) < (parts.length : Int) := hw
        omega
      obtain ⟨dd, hdd⟩ : ∃ dd : DeedD, dd = (.mk ⟨zxid, kind, ses, turn, xid, dtime, path, data, owner, ver, cver, tmo, err, cfg, mem⟩ parts : DeedD) := ⟨_, rfl⟩
      have hddp : dd.parts.length ≤ 60 := by rw [hdd]; exact hwp
      rw [← hdd] at hR0
      have i0 : (0 : Int) ≤ (k : Int) := by omega
      have l1 := apply_len T dd
      have l4 := apply_slen T dd
      have hNl := rt_len hrt
      have hSl := rt_slen hrt
      have hrt' := hrt.apply dd
      have hky' := apply_keys hky dd
      have hsh' := rt_short hrt' hky'
      have hNl' := rt_len hrt'
      have hSl' := rt_slen hrt'
      repeat (first | refine go_in ⟨i0, hin⟩ ?_ | refine go_rd (rd_sub hsa.1 r1) ?_
              conv => lhs; whnf)
      refine (hD _).2 ⟨(⟨T, Ba, Oa, ta⟩, dd, A), ⟨_, rfl, hTa, hR0, hHas, hsa⟩, fun v A4 hq => ?_⟩
      obtain ⟨Ba4, Oa4, hTa4, hSa⟩ : StepTo Ak Ba Oa ta (treeApply T dd) A4 := hq
      obtain ⟨hTb4, hAp4⟩ := tree_step hTb hAp hSa
      have hsa4 := hsa.step hSa
      have hsb4 : Aside A4 A Ob := ⟨hsa4.1, hsb.2⟩
      conv => lhs; whnf
      repeat (first | refine go_in ⟨i0, hin⟩ ?_ | refine go_rd (rd_sub hsa4.1 r1) ?_
              conv => lhs; whnf)
      refine (hD _).2 ⟨(⟨N, S, Bb, Ob, rb⟩, dd, A), ⟨_, rfl, hTb4, by show N.length ≤ 800000; omega, by show S.length ≤ 800000; omega, hR0, hsb4⟩, fun v A5 hq => ?_⟩
      obtain ⟨Bb5, Ob5, hTb5, hSb⟩ : RefTo A4 Bb Ob rb (rapplyN N dd) (rapplyS S dd) A5 := hq
      obtain ⟨hTa5, hAp5⟩ := ref_step hTa4 hAp4.symm hSb
      have hsb5 := hsb4.step hSb
      have hsa5 : Aside A5 A Oa4 := ⟨hsb5.1, hsa4.2⟩
      have hAp5 := hAp5.symm
      generalize treeApply T dd = T5 at *
      generalize rapplyN N dd = N5 at *
      generalize rapplyS S dd = S5 at *
      have hnl5 : T5.nodes.length ≤ 1000000 := by omega
      have hsl5 : T5.seats.length ≤ 1000000 := by omega
      conv => lhs; whnf
      refine (hD _).2 ⟨(⟨T5, Ba4, Oa4, ta⟩, p), ⟨rfl, hTa5, hnl5⟩, fun v A6 hq => ?_⟩
      have hq : A5.Sub A6 ∧ GotV A5 A6 T5 p v := hq
      obtain ⟨s6, hq⟩ := hq
      obtain ⟨vd6, hv, hd6⟩ := got_of hq
      obtain ⟨b, hb⟩ : ∃ b, b = (kGet p T5.nodes).isSome := ⟨_, rfl⟩
      obtain ⟨xg, hxg⟩ : ∃ x, x = gotX T5 p := ⟨_, rfl⟩
      have hrg : rgotX N5 p = xg := by rw [hxg]; exact rt_got hrt' p
      have hri : (lookN N5 p).isSome = b := by rw [hb]; exact rt_is hrt' p
      have hrl : rkidsB N5 p = treeKids T5 p := rt_list hrt' p
      have hro : rownedL N5 ses0 = ownedP T5 ses0 := (rt_owned hrt' ses0).symm
      rw [← hb, ← hxg] at hv
      rw [← hxg] at hd6
      obtain ⟨gp, gd, ⟨u1, u2, u3, u4, u5, u6, u7, u8, u9, u10⟩⟩ := xg
      obtain ⟨ad6, cd6, hv6⟩ := hd6.1.form
      subst hv6
      subst hv
      have hd6 := hd6.sub (minus_sub _ _)
      have hTa6 := TreeAt_sub hTa5 s6
      have hTb6 := hTb5.more s6
      conv => lhs; whnf
      refine (hD _).2 ⟨(⟨N5, S5, Bb5, Ob5, rb⟩, p), ⟨rfl, hTb6, by show N5.length ≤ 1000000; omega, hsh'⟩, fun v A7 hq => ?_⟩
      have hq : A6.Sub A7 ∧ ∃ vd, v = .tuple #[.agg (nodeC (rgotX N5 p, vd)).toArray, .bool (lookN N5 p).isSome] ∧ SlB (A7.minus A6) vd (rgotX N5 p).data := hq
      rw [hrg, hri] at hq
      obtain ⟨s7, vd7, hv, hd7⟩ := hq
      obtain ⟨ad7, cd7, hv7⟩ := hd7.1.form
      subst hv7
      subst hv
      have hd7 := hd7.sub (minus_sub _ _)
      have hd6 := hd6.sub s7
      have hTa7 := TreeAt_sub hTa6 s7
      have hTb7 := hTb6.more s7
      conv => lhs; whnf
      refine (hD _).2 ⟨(⟨T5, Ba4, Oa4, ta⟩, p), ⟨rfl, hTa7, hnl5⟩, fun v A8 hq => ?_⟩
      have hq : A7.Sub A8 ∧ ∃ x, v = .tuple #[x, .bool (kGet p T5.nodes).isSome] ∧ Sl (A8.minus A7) 1 (if (kGet p T5.nodes).isSome then treeKids T5 p else []).length x ((if (kGet p T5.nodes).isSome then treeKids T5 p else []).map strV) := hq
      rw [← hb] at hq
      obtain ⟨s8, x8, hv, hS8⟩ := hq
      obtain ⟨tk, htk⟩ : ∃ tk, tk = (if b = true then treeKids T5 p else []) := ⟨_, rfl⟩
      rw [← htk] at hS8
      obtain ⟨a8, c8, hv8⟩ := hS8.form
      subst hv8
      subst hv
      have hS8 := hS8.sub (minus_sub _ _)
      have hTa8 := TreeAt_sub hTa7 s8
      have hTb8 := hTb7.more s8
      conv => lhs; whnf
      refine (hD _).2 ⟨(⟨N5, S5, Bb5, Ob5, rb⟩, p), ⟨rfl, hTb8, by show N5.length ≤ 1000000; omega, hsh'⟩, fun v A9 hq => ?_⟩
      have hq : A8.Sub A9 ∧ ∃ x, v = .tuple #[x, .bool (lookN N5 p).isSome] ∧ Sl (A9.minus A8) 1 (if (lookN N5 p).isSome then rkidsB N5 p else []).length x ((if (lookN N5 p).isSome then rkidsB N5 p else []).map strV) := hq
      rw [hri, hrl, ← htk] at hq
      obtain ⟨s9, x9, hv, hS9⟩ := hq
      obtain ⟨a9, c9, hv9⟩ := hS9.form
      subst hv9
      subst hv
      have hS9 := hS9.sub (minus_sub _ _)
      have hS8 := hS8.sub s9
      have hd6 := hd6.sub (s8.trans s9)
      have hd7 := hd7.sub (s8.trans s9)
      have hTa9 := TreeAt_sub hTa8 s9
      have hTb9 := hTb8.more s9
      have s59 : A5.Sub A9 := s6.trans (s7.trans (s8.trans s9))
      have htl : tk.length ≤ 140737488351232 := by
        have h1 : (treeKids T5 p).length ≤ T5.nodes.length := by rw [kids_len]; exact Nat.le_trans List.countP_le_length (by rw [List.length_map]; exact Nat.le_refl _)
        rw [htk]
        by_cases hb9 : b = true
        · rw [if_pos hb9]; omega
        · rw [if_neg hb9]; show 0 ≤ _; omega
      conv => lhs; whnf
      refine (hD _).2 ⟨(⟨T5, Ba4, Oa4, ta⟩, ⟨N5, S5, Bb5, Ob5, rb⟩), ⟨rfl, hTa9, hTb9, hrt', hnl5, hsl5, hsh'⟩, fun v A10 hq => ?_⟩
      have hq : A9.Sub A10 ∧ v = .bool true := hq
      obtain ⟨s10, hv⟩ := hq
      subst hv
      have hS8 := hS8.sub s10
      have hS9 := hS9.sub s10
      have hd6 := hd6.sub s10
      have hd7 := hd7.sub s10
      have hTa10 := TreeAt_sub hTa9 s10
      have hTb10 := hTb9.more s10
      have hol : (ownedP T5 ses0).length ≤ 140737488351232 := by
        have h1 : (ownedP T5 ses0).length ≤ T5.nodes.length := by
          unfold ownedP
          refine Nat.le_trans (List.length_filter_le _ _) ?_
          rw [treePaths, sortL_length, List.length_map]
          exact Nat.le_refl _
        omega
      have hI : ∀ A14, A10.Sub A14 → LvInv A ta rb n ⟨k + 1, A14, Ba4, Oa4, T5, Bb5, Ob5, N5, S5⟩ := fun A14 h14 =>
        ⟨by show k + 1 ≤ n; omega, TreeAt_sub hTa10 h14, hTb10.more h14, hAp5, AsideR.sub hsa5 (s59.trans (s10.trans h14)), AsideR.sub hsb5 (s59.trans (s10.trans h14)), hrt', hky', by show T5.nodes.length ≤ 1 + (k + 1) * 61; omega, by show T5.seats.length ≤ (k + 1) * 2; omega⟩
      clear hd1 hM hSp hRows hR0 hTa hTb hTa4 hTb4 hTa5 hTb5 hTa6 hTb6 hTa7 hTb7 hTa8 hTb8 hTa9 hTb9
      refine Or.elim (Bool.eq_false_or_eq_true b) (fun hb9 => ?_) (fun hb9 => ?_)
      all_goals
        subst hb9
        conv => lhs; whnf
        refine (hD _).2 ⟨((⟨gp, gd, ⟨u1, u2, u3, u4, u5, u6, u7, u8, u9, u10⟩⟩, .slice ad6 gd.length cd6), (⟨gp, gd, ⟨u1, u2, u3, u4, u5, u6, u7, u8, u9, u10⟩⟩, .slice ad7 gd.length cd7)), ⟨rfl, hd6, hd7⟩, fun v A11 hq => ?_⟩
        have hq : A11 = A10 ∧ v = .bool (decide ((⟨gp, gd, ⟨u1, u2, u3, u4, u5, u6, u7, u8, u9, u10⟩⟩ : ToldD) = ⟨gp, gd, ⟨u1, u2, u3, u4, u5, u6, u7, u8, u9, u10⟩⟩)) := hq
        have h11 := hq.1.symm
        have hv := hq.2
        subst h11
        rw [decide_eq_true rfl] at hv
        subst hv
        conv => lhs; whnf
        refine (hD _).2 ⟨(tk, tk), ⟨_, _, rfl, ⟨hS8, htl⟩, ⟨hS9, htl⟩⟩, fun v A12 hq => ?_⟩
        have hq : A12 = A10 ∧ v = .bool (decide (tk = tk)) := hq
        have h12 := hq.1.symm
        have hv := hq.2
        subst h12
        rw [decide_eq_true rfl] at hv
        subst hv
        conv => lhs; whnf
        refine (hD _).2 ⟨(⟨T5, Ba4, Oa4, ta⟩, ses0), ⟨rfl, hTa10, hnl5⟩, fun v A13 hq => ?_⟩
        have hq : A10.Sub A13 ∧ Sl (A13.minus A10) 1 (ownedP T5 ses0).length v ((ownedP T5 ses0).map strV) := hq
        obtain ⟨s13, hS13⟩ := hq
        have hS13 := hS13.sub (minus_sub _ _)
        obtain ⟨a13, c13, hv⟩ := hS13.form
        subst hv
        conv => lhs; whnf
        refine (hD _).2 ⟨(⟨N5, S5, Bb5, Ob5, rb⟩, ses0), ⟨rfl, hTb10.more s13, by show N5.length ≤ 1000000; omega⟩, fun v A14 hq => ?_⟩
        have hq : A13.Sub A14 ∧ Sl (A14.minus A13) 1 (rownedL N5 ses0).length v ((rownedL N5 ses0).map strV) := hq
        rw [hro] at hq
        obtain ⟨s14, hS14⟩ := hq
        have hS14 := hS14.sub (minus_sub _ _)
        obtain ⟨a14, c14, hv⟩ := hS14.form
        subst hv
        conv => lhs; whnf
        refine (hD _).2 ⟨(ownedP T5 ses0, ownedP T5 ses0), ⟨_, _, rfl, ⟨hS13.sub s14, hol⟩, ⟨hS14, hol⟩⟩, fun v A15 hq => ?_⟩
        have hq : A15 = A14 ∧ v = .bool (decide (ownedP T5 ses0 = ownedP T5 ses0)) := hq
        have h15 := hq.1.symm
        have hv := hq.2
        subst h15
        rw [decide_eq_true rfl] at hv
        subst hv
        have hI := hI A14 (s13.trans s14)
        conv => lhs; whnf
        exact (hD _).2 ⟨(⟨k + 1, A14, Ba4, Oa4, T5, Bb5, Ob5, N5, S5⟩ : LvT), ⟨hI, ⟨inc_slot (k := k) (by omega), trivial⟩, trivial, rfl⟩, by show n - (k + 1) < n - k; omega, ⟨same1 rfl rfl, same1 rfl rfl, same1 rfl rfl, same1 rfl rfl, same1 rfl rfl, trivial⟩, trivial⟩
    · conv => lhs; whnf
      refine (hD _).2 ⟨(), ⟨rfl, hHas.sub hsa.1⟩, fun v A9 hq => ?_⟩
      obtain ⟨h9, hv⟩ : Ak = A9 ∧ v = .bool true := ⟨hq.1.symm, hq.2⟩
      subst h9 hv
      conv => lhs; whnf
      exact (hD _).2 ⟨hsa.1, rfl⟩
  · have hn : ∃ n : Nat, n = ds.length ∧ n ≤ ds.length ∧ n ≤ c ∧ n ≤ 60 := ⟨_, rfl, by omega, by omega, by
      have h60 : ¬ (60 : Int) < ds.length := h60
      omega⟩
    conv => lhs; whnf
    obtain ⟨n, hn, hle, hnc, hn60⟩ := hn
    refine (hD _).2 ⟨(), rfl, fun v A1 hq => ?_⟩
    obtain ⟨ta, O1, rfl, hT1, s1, hO1⟩ : ∃ t O, v = .pointer (some ⟨t, 0, none⟩) ∧ TreeAt A1 Arena.void O t treeNew ∧ A.Sub A1 ∧ ∀ k, O k → A.blk k = none := hq
    conv => lhs; whnf
    refine (hD _).2 ⟨(), rfl, fun v A2 hq => ?_⟩
    obtain ⟨rb, O2, rfl, hT2, s2, hO2⟩ : ∃ r O, v = .pointer (some ⟨r, 0, none⟩) ∧ RefAt A2 Arena.void O r refNew [] ∧ A1.Sub A2 ∧ ∀ k, O k → A1.blk k = none := hq
    have hap0 : ApartR Arena.void O1 Arena.void O2 := by
      obtain ⟨m, s', E, h⟩ := hT1
      refine ⟨fun k h1 h2 => ?_, fun k o hb _ => (by cases hb), fun k o hb _ => (by cases hb)⟩
      obtain ⟨o, ho⟩ := h.live k h1
      rw [hO2 k h2] at ho; cases ho
    conv => lhs; whnf
    have hI0 : LvInv A ta rb n ⟨0, A2, Arena.void, O1, treeNew, Arena.void, O2, refNew, []⟩ :=
      ⟨Nat.zero_le _, TreeAt_sub hT1 s2, hT2, hap0, ⟨s1.trans s2, fun k o hk hO => (by rw [hO1 k hO] at hk; cases hk)⟩, ⟨s1.trans s2, fun k o hk hO => (by have := s1 _ _ hk; rw [hO2 k hO] at this; cases this)⟩, rt_new, keys_new, by show 1 ≤ 1 + 0 * 61; omega, by show 0 ≤ 0 * 2; omega⟩
    refine (hD _).2 ⟨livesInv A ta rb n, ⟨(⟨0, A2, Arena.void, O1, treeNew, Arena.void, O2, refNew, []⟩ : LvT), hI0, ⟨rfl, trivial⟩, trivial, rfl⟩, fun (s : LvT) hG => ⟨⟨trivial, trivial⟩, trivial, ?_⟩⟩
    obtain ⟨k, Ak, Ba, Oa, T, Bb, Ob, N, S⟩ := s
    obtain ⟨hk, hTa, hTb, hAp, hsa, hsb, hrt, hky, hna, hea⟩ : LvInv A ta rb n ⟨k, Ak, Ba, Oa, T, Bb, Ob, N, S⟩ := hG
    dsimp only at hk hTa hTb hAp hsa hsb hrt hky hna hea
    conv => lhs; whnf
    refine split_dec (fun hlt => ?_) (fun hlt => ?_)
    · have hkn : k < n := by
        have hlt : (k : Int) < (n : Int) := by rw [hn]; exact hlt
        omega
      obtain ⟨g1, o1, e1, cs, r1, hR1⟩ := hrow k (by omega)
      cases e1
      conv => lhs; whnf
      have hin : (k : Int) < (n : Int) := by omega
      rw [hn] at hin
      refine go_in ⟨by show (0 : Int) ≤ (k : Int); omega, hin⟩ ?_
      conv => lhs; whnf
      obtain ⟨d, hd⟩ : ∃ d, d = ds[k] := ⟨_, rfl⟩
      rw [← hd] at hR1
      obtain ⟨⟨zxid, kind, ses, turn, xid, dtime, path, data, owner, ver, cver, tmo, err, cfg, mem⟩, parts⟩ := d
      have hR0 := hR1
      rw [DeedR] at hR1
      dsimp only [DeedH.cells] at hR1
      obtain ⟨vd, vm, vp, rws, rfl, -, hd1, hM, hSp, hlen2, hRows⟩ := hR1
      obtain ⟨a7, k7, rfl⟩ := hd1.1.form
      obtain ⟨a14, k14, rfl⟩ := hM.1.form
      obtain ⟨a15, k15, rfl⟩ := hSp.form
      refine go_rd (rd_sub hsa.1 r1) ?_
      conv => lhs; whnf
      refine (hD _).2 ⟨(.mk ⟨zxid, kind, ses, turn, xid, dtime, path, data, owner, ver, cver, tmo, err, cfg, mem⟩ parts, A), ⟨_, rfl, hR0⟩, fun v A9 hq => ?_⟩
      obtain ⟨h9, rfl⟩ : Ak = A9 ∧ v = .bool (decide ((60 : Int) < parts.length)) := ⟨hq.1.symm, hq.2⟩
      subst h9
      conv => lhs; whnf
      refine split_dec (fun hw => ?_) (fun hw => ?_) <;> (conv => lhs; whnf)
      · refine (hD _).2 ⟨(), ⟨rfl, hHas.sub hsa.1⟩, fun v A9 hq => ?_⟩
        obtain ⟨h9, hv⟩ : Ak = A9 ∧ v = .bool true := ⟨hq.1.symm, hq.2⟩
        subst h9 hv
        conv => lhs; whnf
        exact (hD _).2 ⟨hsa.1, rfl⟩
      have hwp : parts.length ≤ 60 := by
        have hw : ¬ (60 : Int) < (parts.length : Int) := hw
        omega
      obtain ⟨dd, hdd⟩ : ∃ dd : DeedD, dd = (.mk ⟨zxid, kind, ses, turn, xid, dtime, path, data, owner, ver, cver, tmo, err, cfg, mem⟩ parts : DeedD) := ⟨_, rfl⟩
      have hddp : dd.parts.length ≤ 60 := by rw [hdd]; exact hwp
      rw [← hdd] at hR0
      have i0 : (0 : Int) ≤ (k : Int) := by omega
      have l1 := apply_len T dd
      have l4 := apply_slen T dd
      have hNl := rt_len hrt
      have hSl := rt_slen hrt
      have hrt' := hrt.apply dd
      have hky' := apply_keys hky dd
      have hsh' := rt_short hrt' hky'
      have hNl' := rt_len hrt'
      have hSl' := rt_slen hrt'
      repeat (first | refine go_in ⟨i0, hin⟩ ?_ | refine go_rd (rd_sub hsa.1 r1) ?_
              conv => lhs; whnf)
      refine (hD _).2 ⟨(⟨T, Ba, Oa, ta⟩, dd, A), ⟨_, rfl, hTa, hR0, hHas, hsa⟩, fun v A4 hq => ?_⟩
      obtain ⟨Ba4, Oa4, hTa4, hSa⟩ : StepTo Ak Ba Oa ta (treeApply T dd) A4 := hq
      obtain ⟨hTb4, hAp4⟩ := tree_step hTb hAp hSa
      have hsa4 := hsa.step hSa
      have hsb4 : Aside A4 A Ob := ⟨hsa4.1, hsb.2⟩
      conv => lhs; whnf
      repeat (first | refine go_in ⟨i0, hin⟩ ?_ | refine go_rd (rd_sub hsa4.1 r1) ?_
              conv => lhs; whnf)
      refine (hD _).2 ⟨(⟨N, S, Bb, Ob, rb⟩, dd, A), ⟨_, rfl, hTb4, by show N.length ≤ 800000; omega, by show S.length ≤ 800000; omega, hR0, hsb4⟩, fun v A5 hq => ?_⟩
      obtain ⟨Bb5, Ob5, hTb5, hSb⟩ : RefTo A4 Bb Ob rb (rapplyN N dd) (rapplyS S dd) A5 := hq
      obtain ⟨hTa5, hAp5⟩ := ref_step hTa4 hAp4.symm hSb
      have hsb5 := hsb4.step hSb
      have hsa5 : Aside A5 A Oa4 := ⟨hsb5.1, hsa4.2⟩
      have hAp5 := hAp5.symm
      generalize treeApply T dd = T5 at *
      generalize rapplyN N dd = N5 at *
      generalize rapplyS S dd = S5 at *
      have hnl5 : T5.nodes.length ≤ 1000000 := by omega
      have hsl5 : T5.seats.length ≤ 1000000 := by omega
      conv => lhs; whnf
      refine (hD _).2 ⟨(⟨T5, Ba4, Oa4, ta⟩, p), ⟨rfl, hTa5, hnl5⟩, fun v A6 hq => ?_⟩
      have hq : A5.Sub A6 ∧ GotV A5 A6 T5 p v := hq
      obtain ⟨s6, hq⟩ := hq
      obtain ⟨vd6, hv, hd6⟩ := got_of hq
      obtain ⟨b, hb⟩ : ∃ b, b = (kGet p T5.nodes).isSome := ⟨_, rfl⟩
      obtain ⟨xg, hxg⟩ : ∃ x, x = gotX T5 p := ⟨_, rfl⟩
      have hrg : rgotX N5 p = xg := by rw [hxg]; exact rt_got hrt' p
      have hri : (lookN N5 p).isSome = b := by rw [hb]; exact rt_is hrt' p
      have hrl : rkidsB N5 p = treeKids T5 p := rt_list hrt' p
      have hro : rownedL N5 ses0 = ownedP T5 ses0 := (rt_owned hrt' ses0).symm
      rw [← hb, ← hxg] at hv
      rw [← hxg] at hd6
      obtain ⟨gp, gd, ⟨u1, u2, u3, u4, u5, u6, u7, u8, u9, u10⟩⟩ := xg
      obtain ⟨ad6, cd6, hv6⟩ := hd6.1.form
      subst hv6
      subst hv
      have hd6 := hd6.sub (minus_sub _ _)
      have hTa6 := TreeAt_sub hTa5 s6
      have hTb6 := hTb5.more s6
      conv => lhs; whnf
      refine (hD _).2 ⟨(⟨N5, S5, Bb5, Ob5, rb⟩, p), ⟨rfl, hTb6, by show N5.length ≤ 1000000; omega, hsh'⟩, fun v A7 hq => ?_⟩
      have hq : A6.Sub A7 ∧ ∃ vd, v = .tuple #[.agg (nodeC (rgotX N5 p, vd)).toArray, .bool (lookN N5 p).isSome] ∧ SlB (A7.minus A6) vd (rgotX N5 p).data := hq
      rw [hrg, hri] at hq
      obtain ⟨s7, vd7, hv, hd7⟩ := hq
      obtain ⟨ad7, cd7, hv7⟩ := hd7.1.form
      subst hv7
      subst hv
      have hd7 := hd7.sub (minus_sub _ _)
      have hd6 := hd6.sub s7
      have hTa7 := TreeAt_sub hTa6 s7
      have hTb7 := hTb6.more s7
      conv => lhs; whnf
      refine (hD _).2 ⟨(⟨T5, Ba4, Oa4, ta⟩, p), ⟨rfl, hTa7, hnl5⟩, fun v A8 hq => ?_⟩
      have hq : A7.Sub A8 ∧ ∃ x, v = .tuple #[x, .bool (kGet p T5.nodes).isSome] ∧ Sl (A8.minus A7) 1 (if (kGet p T5.nodes).isSome then treeKids T5 p else []).length x ((if (kGet p T5.nodes).isSome then treeKids T5 p else []).map strV) := hq
      rw [← hb] at hq
      obtain ⟨s8, x8, hv, hS8⟩ := hq
      obtain ⟨tk, htk⟩ : ∃ tk, tk = (if b = true then treeKids T5 p else []) := ⟨_, rfl⟩
      rw [← htk] at hS8
      obtain ⟨a8, c8, hv8⟩ := hS8.form
      subst hv8
      subst hv
      have hS8 := hS8.sub (minus_sub _ _)
      have hTa8 := TreeAt_sub hTa7 s8
      have hTb8 := hTb7.more s8
      conv => lhs; whnf
      refine (hD _).2 ⟨(⟨N5, S5, Bb5, Ob5, rb⟩, p), ⟨rfl, hTb8, by show N5.length ≤ 1000000; omega, hsh'⟩, fun v A9 hq => ?_⟩
      have hq : A8.Sub A9 ∧ ∃ x, v = .tuple #[x, .bool (lookN N5 p).isSome] ∧ Sl (A9.minus A8) 1 (if (lookN N5 p).isSome then rkidsB N5 p else []).length x ((if (lookN N5 p).isSome then rkidsB N5 p else []).map strV) := hq
      rw [hri, hrl, ← htk] at hq
      obtain ⟨s9, x9, hv, hS9⟩ := hq
      obtain ⟨a9, c9, hv9⟩ := hS9.form
      subst hv9
      subst hv
      have hS9 := hS9.sub (minus_sub _ _)
      have hS8 := hS8.sub s9
      have hd6 := hd6.sub (s8.trans s9)
      have hd7 := hd7.sub (s8.trans s9)
      have hTa9 := TreeAt_sub hTa8 s9
      have hTb9 := hTb8.more s9
      have s59 : A5.Sub A9 := s6.trans (s7.trans (s8.trans s9))
      have htl : tk.length ≤ 140737488351232 := by
        have h1 : (treeKids T5 p).length ≤ T5.nodes.length := by rw [kids_len]; exact Nat.le_trans List.countP_le_length (by rw [List.length_map]; exact Nat.le_refl _)
        rw [htk]
        by_cases hb9 : b = true
        · rw [if_pos hb9]; omega
        · rw [if_neg hb9]; show 0 ≤ _; omega
      conv => lhs; whnf
      refine (hD _).2 ⟨(⟨T5, Ba4, Oa4, ta⟩, ⟨N5, S5, Bb5, Ob5, rb⟩), ⟨rfl, hTa9, hTb9, hrt', hnl5, hsl5, hsh'⟩, fun v A10 hq => ?_⟩
      have hq : A9.Sub A10 ∧ v = .bool true := hq
      obtain ⟨s10, hv⟩ := hq
      subst hv
      have hS8 := hS8.sub s10
      have hS9 := hS9.sub s10
      have hd6 := hd6.sub s10
      have hd7 := hd7.sub s10
      have hTa10 := TreeAt_sub hTa9 s10
      have hTb10 := hTb9.more s10
      have hol : (ownedP T5 ses0).length ≤ 140737488351232 := by
        have h1 : (ownedP T5 ses0).length ≤ T5.nodes.length := by
          unfold ownedP
          refine Nat.le_trans (List.length_filter_le _ _) ?_
          rw [treePaths, sortL_length, List.length_map]
          exact Nat.le_refl _
        omega
      have hI : ∀ A14, A10.Sub A14 → LvInv A ta rb n ⟨k + 1, A14, Ba4, Oa4, T5, Bb5, Ob5, N5, S5⟩ := fun A14 h14 =>
        ⟨by show k + 1 ≤ n; omega, TreeAt_sub hTa10 h14, hTb10.more h14, hAp5, AsideR.sub hsa5 (s59.trans (s10.trans h14)), AsideR.sub hsb5 (s59.trans (s10.trans h14)), hrt', hky', by show T5.nodes.length ≤ 1 + (k + 1) * 61; omega, by show T5.seats.length ≤ (k + 1) * 2; omega⟩
      clear hd1 hM hSp hRows hR0 hTa hTb hTa4 hTb4 hTa5 hTb5 hTa6 hTb6 hTa7 hTb7 hTa8 hTb8 hTa9 hTb9
      refine Or.elim (Bool.eq_false_or_eq_true b) (fun hb9 => ?_) (fun hb9 => ?_)
      all_goals
        subst hb9
        conv => lhs; whnf
        refine (hD _).2 ⟨((⟨gp, gd, ⟨u1, u2, u3, u4, u5, u6, u7, u8, u9, u10⟩⟩, .slice ad6 gd.length cd6), (⟨gp, gd, ⟨u1, u2, u3, u4, u5, u6, u7, u8, u9, u10⟩⟩, .slice ad7 gd.length cd7)), ⟨rfl, hd6, hd7⟩, fun v A11 hq => ?_⟩
        have hq : A11 = A10 ∧ v = .bool (decide ((⟨gp, gd, ⟨u1, u2, u3, u4, u5, u6, u7, u8, u9, u10⟩⟩ : ToldD) = ⟨gp, gd, ⟨u1, u2, u3, u4, u5, u6, u7, u8, u9, u10⟩⟩)) := hq
        have h11 := hq.1.symm
        have hv := hq.2
        subst h11
        rw [decide_eq_true rfl] at hv
        subst hv
        conv => lhs; whnf
        refine (hD _).2 ⟨(tk, tk), ⟨_, _, rfl, ⟨hS8, htl⟩, ⟨hS9, htl⟩⟩, fun v A12 hq => ?_⟩
        have hq : A12 = A10 ∧ v = .bool (decide (tk = tk)) := hq
        have h12 := hq.1.symm
        have hv := hq.2
        subst h12
        rw [decide_eq_true rfl] at hv
        subst hv
        conv => lhs; whnf
        refine (hD _).2 ⟨(⟨T5, Ba4, Oa4, ta⟩, ses0), ⟨rfl, hTa10, hnl5⟩, fun v A13 hq => ?_⟩
        have hq : A10.Sub A13 ∧ Sl (A13.minus A10) 1 (ownedP T5 ses0).length v ((ownedP T5 ses0).map strV) := hq
        obtain ⟨s13, hS13⟩ := hq
        have hS13 := hS13.sub (minus_sub _ _)
        obtain ⟨a13, c13, hv⟩ := hS13.form
        subst hv
        conv => lhs; whnf
        refine (hD _).2 ⟨(⟨N5, S5, Bb5, Ob5, rb⟩, ses0), ⟨rfl, hTb10.more s13, by show N5.length ≤ 1000000; omega⟩, fun v A14 hq => ?_⟩
        have hq : A13.Sub A14 ∧ Sl (A14.minus A13) 1 (rownedL N5 ses0).length v ((rownedL N5 ses0).map strV) := hq
        rw [hro] at hq
        obtain ⟨s14, hS14⟩ := hq
        have hS14 := hS14.sub (minus_sub _ _)
        obtain ⟨a14, c14, hv⟩ := hS14.form
        subst hv
        conv => lhs; whnf
        refine (hD _).2 ⟨(ownedP T5 ses0, ownedP T5 ses0), ⟨_, _, rfl, ⟨hS13.sub s14, hol⟩, ⟨hS14, hol⟩⟩, fun v A15 hq => ?_⟩
        have hq : A15 = A14 ∧ v = .bool (decide (ownedP T5 ses0 = ownedP T5 ses0)) := hq
        have h15 := hq.1.symm
        have hv := hq.2
        subst h15
        rw [decide_eq_true rfl] at hv
        subst hv
        have hI := hI A14 (s13.trans s14)
        conv => lhs; whnf
        exact (hD _).2 ⟨(⟨k + 1, A14, Ba4, Oa4, T5, Bb5, Ob5, N5, S5⟩ : LvT), ⟨hI, ⟨inc_slot (k := k) (by omega), trivial⟩, trivial, rfl⟩, by show n - (k + 1) < n - k; omega, ⟨same1 rfl rfl, same1 rfl rfl, same1 rfl rfl, same1 rfl rfl, same1 rfl rfl, trivial⟩, trivial⟩
    · conv => lhs; whnf
      refine (hD _).2 ⟨(), ⟨rfl, hHas.sub hsa.1⟩, fun v A9 hq => ?_⟩
      obtain ⟨h9, hv⟩ : Ak = A9 ∧ v = .bool true := ⟨hq.1.symm, hq.2⟩
      subst h9 hv
      conv => lhs; whnf
      exact (hD _).2 ⟨hsa.1, rfl⟩

end
end Go.Proofs.YtkfiabmmmianhaaGreatDoor

namespace Go.Sx
noncomputable section
open Go.RowKit Go.ChangeShapes Go.WideShapes

theorem list1 {α : Type} {l : List α} (h : l.length = 1) : ∃ v0, l = [v0] := by
  match l, h with
  | [v0], _ => exact ⟨v0, rfl⟩

theorem list2 {α : Type} {l : List α} (h : l.length = 2) : ∃ v0 v1, l = [v0, v1] := by
  match l, h with
  | [v0, v1], _ => exact ⟨v0, v1, rfl⟩

theorem list3 {α : Type} {l : List α} (h : l.length = 3) : ∃ v0 v1 v2, l = [v0, v1, v2] := by
  match l, h with
  | [v0, v1, v2], _ => exact ⟨v0, v1, v2, rfl⟩

theorem list4 {α : Type} {l : List α} (h : l.length = 4) : ∃ v0 v1 v2 v3, l = [v0, v1, v2, v3] := by
  match l, h with
  | [v0, v1, v2, v3], _ => exact ⟨v0, v1, v2, v3, rfl⟩

theorem list5 {α : Type} {l : List α} (h : l.length = 5) : ∃ v0 v1 v2 v3 v4, l = [v0, v1, v2, v3, v4] := by
  match l, h with
  | [v0, v1, v2, v3, v4], _ => exact ⟨v0, v1, v2, v3, v4, rfl⟩

theorem list6 {α : Type} {l : List α} (h : l.length = 6) : ∃ v0 v1 v2 v3 v4 v5, l = [v0, v1, v2, v3, v4, v5] := by
  match l, h with
  | [v0, v1, v2, v3, v4, v5], _ => exact ⟨v0, v1, v2, v3, v4, v5, rfl⟩

theorem list7 {α : Type} {l : List α} (h : l.length = 7) : ∃ v0 v1 v2 v3 v4 v5 v6, l = [v0, v1, v2, v3, v4, v5, v6] := by
  match l, h with
  | [v0, v1, v2, v3, v4, v5, v6], _ => exact ⟨v0, v1, v2, v3, v4, v5, v6, rfl⟩

theorem list8 {α : Type} {l : List α} (h : l.length = 8) : ∃ v0 v1 v2 v3 v4 v5 v6 v7, l = [v0, v1, v2, v3, v4, v5, v6, v7] := by
  match l, h with
  | [v0, v1, v2, v3, v4, v5, v6, v7], _ => exact ⟨v0, v1, v2, v3, v4, v5, v6, v7, rfl⟩

theorem list15 {α : Type} {l : List α} (h : l.length = 15) : ∃ v0 v1 v2 v3 v4 v5 v6 v7 v8 v9 v10 v11 v12 v13 v14, l = [v0, v1, v2, v3, v4, v5, v6, v7, v8, v9, v10, v11, v12, v13, v14] := by
  match l, h with
  | [v0, v1, v2, v3, v4, v5, v6, v7, v8, v9, v10, v11, v12, v13, v14], _ => exact ⟨v0, v1, v2, v3, v4, v5, v6, v7, v8, v9, v10, v11, v12, v13, v14, rfl⟩

theorem list16 {α : Type} {l : List α} (h : l.length = 16) : ∃ v0 v1 v2 v3 v4 v5 v6 v7 v8 v9 v10 v11 v12 v13 v14 v15, l = [v0, v1, v2, v3, v4, v5, v6, v7, v8, v9, v10, v11, v12, v13, v14, v15] := by
  match l, h with
  | [v0, v1, v2, v3, v4, v5, v6, v7, v8, v9, v10, v11, v12, v13, v14, v15], _ => exact ⟨v0, v1, v2, v3, v4, v5, v6, v7, v8, v9, v10, v11, v12, v13, v14, v15, rfl⟩

theorem list18 {α : Type} {l : List α} (h : l.length = 18) : ∃ v0 v1 v2 v3 v4 v5 v6 v7 v8 v9 v10 v11 v12 v13 v14 v15 v16 v17, l = [v0, v1, v2, v3, v4, v5, v6, v7, v8, v9, v10, v11, v12, v13, v14, v15, v16, v17] := by
  match l, h with
  | [v0, v1, v2, v3, v4, v5, v6, v7, v8, v9, v10, v11, v12, v13, v14, v15, v16, v17], _ => exact ⟨v0, v1, v2, v3, v4, v5, v6, v7, v8, v9, v10, v11, v12, v13, v14, v15, v16, v17, rfl⟩

/-- All memory that lay, as an arena. -/
def allOf (W : World) : Arena := Arena.of fun k => W.heap[k]?

theorem cells_spot {W : World} {a : Addr} {n : Nat} {cs : List Value} (h : W.cells? 0 a n = some cs) (hn : 0 < n) : a.spot = none := by
  unfold World.cells? at h
  rw [if_pos (Nat.zero_le _)] at h
  have h1 := mapM_some_get h 0 0 (by simp [hn])
  have hl := mapM_some_length h
  rw [List.length_range] at hl
  have h2 : cs[0]? = some cs[0] := List.getElem?_eq_getElem (by omega)
  rw [h2] at h1
  unfold World.cell? Addr.add at h1
  simp only [if_true] at h1
  split at h1
  · split at h1
    · cases h1
    · rename_i h3
      cases hs : a.spot with
      | none => rfl
      | some s => rw [hs] at h3; simp at h3
  · cases h1

theorem cells_rd {W : World} {g o : Nat} {n : Nat} {cs : List Value} (h : W.cells? 0 ⟨g, o, none⟩ n = some cs) (hn : 0 < n) : (allOf W).rd g o n = some cs := by
  unfold World.cells? at h
  rw [if_pos (Nat.zero_le _)] at h
  have hl := mapM_some_length h
  rw [List.length_range] at hl
  have key : ∀ i, i < n → ∃ c t fz, W.heap[g]? = some (.cells c t fz) ∧ c[o + i]? = cs[i]? := fun i hi => by
    have h1 := mapM_some_get h i i (by simp [hi])
    have h2 : cs[i]? = some cs[i] := List.getElem?_eq_getElem (by omega)
    rw [h2] at h1
    unfold World.cell? at h1
    rw [add_none] at h1
    simp only at h1
    split at h1
    · rename_i c t fz hb
      simp only [Option.isSome_none, Bool.false_eq_true, if_false] at h1
      exact ⟨c, t, fz, hb, by rw [h1, h2]⟩
    · cases h1
  obtain ⟨c, t, fz, hb, _⟩ := key 0 hn
  have hle : o + n ≤ c.size := by
    obtain ⟨c', t', fz', hb', h3⟩ := key (n - 1) (by omega)
    rw [hb] at hb'
    injection hb' with hb'
    injection hb' with e1 e2 e3
    subst e1
    have h4 : cs[n - 1]? = some cs[n - 1] := List.getElem?_eq_getElem (by omega)
    rw [h4] at h3
    have := (Array.getElem?_eq_some_iff.1 h3).1
    omega
  rw [rd_mk (A := allOf W) (c := c) (t := t) (fz := fz) hb hle]
  congr 1
  refine List.ext_getElem? fun i => ?_
  by_cases hi : i < n
  · obtain ⟨c', t', fz', hb', h3⟩ := key i hi
    rw [hb] at hb'
    injection hb' with hb'
    injection hb' with e1 e2 e3
    subst e1
    rw [List.getElem?_take_of_lt hi, List.getElem?_drop, Array.getElem?_toList, h3]
  · rw [List.getElem?_eq_none (by simp; omega), List.getElem?_eq_none (by omega)]

theorem rd_join {A : Arena} {g o n m : Nat} {xs ys : List Value} (h1 : A.rd g o n = some xs) (h2 : A.rd g (o + n) m = some ys) : A.rd g o (n + m) = some (xs ++ ys) := by
  obtain ⟨c, t, fz, hb, hle, rfl⟩ := rd_some h1
  obtain ⟨c', t', fz', hb', hle', rfl⟩ := rd_some h2
  rw [hb] at hb'
  injection hb' with hb'
  injection hb' with e1 e2 e3
  subst e1
  rw [rd_mk hb (by omega), List.take_add, List.drop_drop]

section
variable {H : Type} {enc : TypeId × Value → H} {P : Program} {W : World}

/-- How cells are read here. -/
abbrev trodA (enc : TypeId × Value → H) (P : Program) (W : World) (n : Nat) (t : TypeId) (cs : List Value) : Option (DataW H × List MemPlace) := DataW.trod enc P W 0 (fun _ => true) true n t cs

/-- No row in it is longer than what can be reached. -/
def RFits (P : Program) (t : TypeId) (d : DataW H) : Prop := ∀ z ∈ d.weights P t, z ≤ 140737488351232

theorem weightsAll_mem {e : TypeId} : ∀ {l : List (DataW H)} {d : DataW H}, d ∈ l → ∀ z ∈ d.weights P e, z ∈ DataW.weightsAll P e l
  | [], d, h => by cases h
  | x :: l, d, h => fun z hz => by
    simp only [DataW.weightsAll, List.mem_append]
    rcases List.mem_cons.1 h with rfl | h
    · exact .inl hz
    · exact .inr (weightsAll_mem h z hz)

theorem weightsEach_mem : ∀ {ts : List TypeId} {l : List (DataW H)} {i : Nat} {t : TypeId} {d : DataW H}, ts[i]? = some t → l[i]? = some d → ∀ z ∈ d.weights P t, z ∈ DataW.weightsEach P ts l
  | [], _, _, _, _, h1, _ => by simp at h1
  | _ :: _, [], _, _, _, _, h2 => by simp at h2
  | t' :: ts, d' :: l, 0, t, d, h1, h2 => fun z hz => by
    simp only [List.getElem?_cons_zero, Option.some.injEq] at h1 h2
    subst h1; subst h2
    simp only [DataW.weightsEach, List.mem_append]
    exact .inl hz
  | t' :: ts, d' :: l, i + 1, t, d, h1, h2 => fun z hz => by
    simp only [List.getElem?_cons_succ] at h1 h2
    simp only [DataW.weightsEach, List.mem_append]
    exact .inr (weightsEach_mem h1 h2 z hz)

theorem rfits_at {ts : List TypeId} {l : List (DataW H)} (h : (DataW.weightsEach P ts l).all (· ≤ reachBytes) = true) (i : Nat) {t : TypeId} {d : DataW H} (h1 : ts[i]? = some t) (h2 : l[i]? = some d) : RFits P t d := fun z hz => by
  have h3 := List.all_eq_true.1 h z (weightsEach_mem h1 h2 z hz)
  have h4 : z ≤ reachBytes := by simpa using h3
  exact h4

/-- A slice's cell. -/
theorem slice_cell {t e : TypeId} (ht : P.underlying t = some (.slice e)) {r : Reach} {b : Nat} {v : Value} (h : Value.okWide P W r b t v) : v.cells.toList = [v] := by
  unfold Value.okWide at h
  rw [ht] at h
  simp only [Cell.okWide, Cell.ok, ht] at h
  cases v with
  | slice a l c => rfl
  | _ => exact h.elim

/-- A slice: its row, and each of its elements. -/
theorem slice_up {t e : TypeId} {es B : Nat} (ht : P.underlying t = some (.slice e)) (hes : P.cellsOf e = es) (hes0 : 0 < es) (hB : P.bytesOf e = B) {n : Nat} {x : DataW H × List MemPlace} {v : Value} (h : trodA enc P W n t [v] = some x) (hw : RFits P t x.1) :
    ∃ rows : List (List Value), Sl (allOf W) es rows.length v rows.flatten ∧ rows.length * B ≤ 140737488351232 ∧ ∀ r ∈ rows, r.length = es ∧ ∃ m y, m < n ∧ trodA enc P W m e r = some y ∧ RFits P e y.1 := by
  rcases DataW.trod_slice ht h with ⟨hn, _⟩ | ⟨a, len, cap, elems, rest, m, hm, hn, hx, _, hle, _, hel, hrd, hsp, _⟩
  · obtain rfl : v = .slice none 0 0 := by simpa using hn
    exact ⟨[], Sl.nil _ _, by simp, by simp⟩
  · obtain rfl : v = .slice (some a) len cap := by simpa using hn
    obtain ⟨hr1, hr2⟩ := hsp rfl
    subst hes
    have hone : ∀ i, i < len → ∃ cs y, W.cells? 0 (a.add (i * P.cellsOf e)) (P.cellsOf e) = some cs ∧ trodA enc P W m e cs = some y ∧ elems[i]? = some y := fun i hi => by
      have h1 := hrd i hi
      have h2 : elems[i]? = some elems[i] := List.getElem?_eq_getElem (by omega)
      rw [h2, Option.bind_eq_some_iff] at h1
      obtain ⟨cs, h3, h4⟩ := h1
      exact ⟨cs, _, h3, h4, h2⟩
    have hspot : 0 < cap → a.spot = none := fun hc => by
      by_cases h0 : 0 < len
      · obtain ⟨cs, y, h1, _⟩ := hone 0 h0
        rw [Nat.zero_mul] at h1
        exact cells_spot (a := a) (by simpa [Addr.add] using h1) hes0
      · have h1 := hr2 0 (by omega)
        have h2 : rest[0]? = some rest[0] := List.getElem?_eq_getElem (by omega)
        rw [h2, Option.bind_eq_some_iff] at h1
        obtain ⟨cs, h3, _⟩ := h1
        have h0 : len = 0 := by omega
        subst h0
        exact cells_spot (a := a) (by simpa [Addr.add] using h3) hes0
    have hfit : ∀ y ∈ elems, RFits P e y.1 := fun y hy z hz => by
      refine hw z ?_
      rw [hx]
      simp only [DataW.weights, ht, List.mem_cons, List.mem_append]
      exact .inr (.inl (weightsAll_mem (List.mem_map.2 ⟨y, hy, rfl⟩) z hz))
    have hrows : ∀ k, k ≤ len → ∃ rows : List (List Value), rows.length = k ∧ (0 < k → (allOf W).rd a.block a.off (k * P.cellsOf e) = some rows.flatten) ∧ ∀ r ∈ rows, r.length = P.cellsOf e ∧ ∃ m y, m < n ∧ trodA enc P W m e r = some y ∧ RFits P e y.1 := fun k => by
      induction k with
      | zero => exact fun _ => ⟨[], rfl, fun h => (by omega), by simp⟩
      | succ k ih =>
        intro hk
        obtain ⟨rows, r1, r2, r3⟩ := ih (by omega)
        obtain ⟨cs, y, h1, h2, h3⟩ := hone k (by omega)
        obtain ⟨g, o, s⟩ := a
        have hs := hspot (by omega)
        simp only at hs
        subst hs
        rw [add_none] at h1
        have h4 := cells_rd h1 hes0
        refine ⟨rows ++ [cs], by simp [r1], fun _ => ?_, fun r hr => ?_⟩
        · rw [List.flatten_append, Nat.succ_mul]
          simp only [List.flatten_cons, List.flatten_nil, List.append_nil]
          by_cases h0 : 0 < k
          · exact rd_join (r2 h0) h4
          · have h0 : k = 0 := by omega
            subst h0
            have : rows = [] := List.length_eq_zero_iff.1 r1
            subst this
            simpa using h4
        · rcases List.mem_append.1 hr with hr | hr
          · exact r3 r hr
          · rw [List.mem_singleton] at hr
            subst hr
            exact ⟨rd_len h4, m, y, by omega, h2, hfit y (List.mem_of_getElem? h3)⟩
    obtain ⟨rows, r1, r2, r3⟩ := hrows len (Nat.le_refl _)
    refine ⟨rows, ⟨some a, cap, by rw [r1], by omega, ?_, fun h => (by cases h), fun b hb hc => (by injection hb with hb; subst hb; exact hspot hc), fun h0 b hb => (by injection hb with hb; subst hb; rw [r1]; exact r2 (by omega))⟩, ?_, r3⟩
    · clear r1 r2
      induction rows with
      | nil => simp
      | cons r rows ih =>
        rw [List.flatten_cons, List.length_append, ih (fun x hx => r3 x (List.mem_cons_of_mem _ hx)), (r3 r (by simp)).1, List.length_cons, Nat.succ_mul]; omega
    · have h1 : (elems.length + rest.length) * P.bytesOf e ≤ 140737488351232 := by
        refine hw _ ?_
        rw [hx]
        simp [DataW.weights, ht]
      rw [hB] at h1
      refine Nat.le_trans (Nat.mul_le_mul_right B ?_) h1
      omega

/-- A struct: each of its fields. -/
theorem fields_up {t : TypeId} {fs : Array Field} (ht : P.underlying t = some (.struct fs)) {n : Nat} {x : DataW H × List MemPlace} {cs : List Value} (h : trodA enc P W n t cs = some x) (hw : RFits P t x.1) :
    cs.length = P.cellsOf t ∧ ∃ m, m < n ∧ ∀ (i : Nat) (f : Field), fs[i]? = some f → ∃ y, trodA enc P W m f.type ((cs.drop f.offset).take (P.cellsOf f.type)) = some y ∧ RFits P f.type y.1 := by
  obtain ⟨xs, m, hm, hx, hl, hlen, hf⟩ := DataW.trod_struct ht h
  refine ⟨hl, m, by omega, fun i f hi => ?_⟩
  have hi' : i < fs.size := (Array.getElem?_eq_some_iff.1 hi).1
  have h2 : xs[i]? = some xs[i] := List.getElem?_eq_getElem (by omega)
  refine ⟨xs[i], (hf i f hi).trans h2, fun z hz => hw z ?_⟩
  rw [hx]
  simp only [DataW.weights, ht]
  exact weightsEach_mem (i := i) (t := f.type) (d := xs[i].1) (by simp [hi]) (by simp [h2]) z hz

variable {n : Nat} {t : TypeId} {v : Value} {l : List Value}

/-- A field of one cell. -/
theorem up_one (hc : P.cellsOf t = 1) (h : ∃ y, trodA enc P W n t ((v :: l).take (P.cellsOf t)) = some y ∧ RFits P t y.1) : ∃ y, trodA enc P W n t [v] = some y ∧ RFits P t y.1 := by
  rw [hc] at h
  exact h

theorem up_int {k : IntKind} (ht : P.underlying t = some (.int k)) (hc : P.cellsOf t = 1) (h : ∃ y, trodA enc P W n t ((v :: l).take (P.cellsOf t)) = some y ∧ RFits P t y.1) : ∃ x, v = .int k x ∧ (Lit.int k x).wf = true := by
  obtain ⟨y, h, _⟩ := up_one hc h
  obtain ⟨x, hx, _, hw⟩ := DataW.trod_int ht h
  exact ⟨x, by simpa using hx, hw⟩

theorem up_bool (ht : P.underlying t = some .bool) (hc : P.cellsOf t = 1) (h : ∃ y, trodA enc P W n t ((v :: l).take (P.cellsOf t)) = some y ∧ RFits P t y.1) : ∃ x, v = .bool x := by
  obtain ⟨y, h, _⟩ := up_one hc h
  obtain ⟨x, hx, _⟩ := DataW.trod_bool ht h
  exact ⟨x, by simpa using hx⟩

theorem up_string (ht : P.underlying t = some .string) (hc : P.cellsOf t = 1) (h : ∃ y, trodA enc P W n t ((v :: l).take (P.cellsOf t)) = some y ∧ RFits P t y.1) : ∃ x : ByteArray, v = .string x ∧ x.data.toList.length ≤ 140737488351232 := by
  obtain ⟨y, h, hf⟩ := up_one hc h
  obtain ⟨x, hx, hy, _⟩ := DataW.trod_string ht h
  refine ⟨x, by simpa using hx, hf _ ?_⟩
  rw [hy]
  simp [DataW.weights]

theorem up_bytes {e : TypeId} (ht : P.underlying t = some (.slice e)) (he : P.underlying e = some (.int .u8)) (hc : P.cellsOf e = 1) (hb : P.bytesOf e = 1) (ht1 : P.cellsOf t = 1) (h : ∃ y, trodA enc P W n t ((v :: l).take (P.cellsOf t)) = some y ∧ RFits P t y.1) : ∃ bs, SlB (allOf W) v bs := by
  obtain ⟨y, h, hf⟩ := up_one ht1 h
  obtain ⟨rows, h1, h2, h3⟩ := slice_up ht hc (by omega) hb h hf
  have key : ∀ rows : List (List Value), (∀ r ∈ rows, r.length = 1 ∧ ∃ m y, m < n ∧ trodA enc P W m e r = some y ∧ RFits P e y.1) → ∃ bs : List UInt8, rows.flatten = bs.map bv ∧ bs.length = rows.length := by
    intro rows
    induction rows with
    | nil => exact fun _ => ⟨[], rfl, rfl⟩
    | cons r rows ih =>
      intro h
      obtain ⟨bs, k1, k2⟩ := ih fun x hx => h x (List.mem_cons_of_mem _ hx)
      obtain ⟨_, m, y, _, h5, _⟩ := h r (by simp)
      obtain ⟨x, hx, _, hwf⟩ := DataW.trod_int he h5
      have hr : 0 ≤ x ∧ x < 256 := by
        simp only [Lit.wf, Bool.and_eq_true, decide_eq_true_eq] at hwf
        have h8 : IntKind.u8.min = 0 := rfl
        have h9 : IntKind.u8.max = 255 := rfl
        omega
      refine ⟨UInt8.ofNat x.toNat :: bs, ?_, by simp [k2]⟩
      rw [List.flatten_cons, k1, hx, List.map_cons]
      simp only [bv, List.cons_append, List.nil_append, List.cons.injEq, and_true]
      congr 1
      simp only [UInt8.toNat_ofNat']
      omega
  obtain ⟨bs, k1, k2⟩ := key rows h3
  refine ⟨bs, ?_, by omega⟩
  rw [k2, ← k1]
  exact h1

end

/-- A contract whose arena is all that lay: what lay lies as it lay. -/
theorem below_of_moves {A' : Arena} {w w' : World} (hs : (allOf w).Sub A') (hm : Moves (allOf w) A' w w') : Below w.heap.size w w' := by
  have hb : ∀ k, k < w.heap.size → w'.heap[k]? = w.heap[k]? := fun k hk => by
    have h0 : w.heap[k]? = some w.heap[k] := Array.getElem?_eq_getElem hk
    rw [hm.sub k _ (hs k _ h0)]
    exact h0.symm
  refine ⟨hm.os, hm.tape, hm.out, ?_, hb⟩
  rcases Nat.eq_zero_or_pos w.heap.size with h0 | h0
  · omega
  · have h1 := hb (w.heap.size - 1) (by omega)
    have h2 : (w.heap[w.heap.size - 1]?) = some w.heap[w.heap.size - 1] := Array.getElem?_eq_getElem (by omega)
    rw [h2] at h1
    have := (Array.getElem?_eq_some_iff.1 h1).1
    omega

/-- A contract, as what a call shows. -/
theorem calls_of_fok {P : Program} {f : FuncId} {S : FSpec} (h : FOk P f S) {fn : Func} (hf : P.funcs[f]? = some fn) (hn : (fn.name == "runtime.NumGoroutine") = false) (hb : fn.body.isSome = true) (g : S.γ) (vs : List Value) (w : World) (hp : S.pre g vs (allOf w))
    (hs : ∀ v A', S.post g vs (allOf w) v A' → (allOf w).Sub A') : Calls P f vs.toArray w fun e w' => ∃ v, e = .returned v ∧ (∃ A', S.post g vs (allOf w) v A') ∧ Below w.heap.size w w' :=
  (calls_of_goes (h g vs (allOf w) w (fun _ _ h => h) hp) hf hn hb).mono fun _ _ ⟨v, he, A', h1, h2⟩ => ⟨v, he, ⟨A', h1⟩, below_of_moves (hs v A' h1) h2⟩

end
end Go.Sx

namespace Go.Proofs.YtkfiabmmmianhaaGreatDoor
open Go.Sx Go.RowKit Go.ChangeShapes Go.WideShapes
noncomputable section

section
variable {H : Type} {enc : TypeId × Value → H} {W : World}

theorem member_up {n : Nat} {cs : List Value} (h : ∃ y, trodA enc Tryz.prog W n 105 cs = some y ∧ RFits Tryz.prog 105 y.1) : ∃ m : MemD, cs = m.cells := by
  obtain ⟨y, h, hf⟩ := h
  obtain ⟨hl, m, _, hx⟩ := fields_up (P := Tryz.prog) Tryz.underlying105 h hf
  have hl : cs.length = 4 := hl.trans (by kernel_rfl)
  obtain ⟨v0, v1, v2, v3, rfl⟩ := list4 hl
  obtain ⟨c0, rfl, _⟩ := up_int (v := v0) (l := [v1, v2, v3]) Tryz.underlying3 (by kernel_rfl) (hx 0 _ rfl)
  obtain ⟨c1, rfl, _⟩ := up_int (v := v1) (l := [v2, v3]) Tryz.underlying103 (by kernel_rfl) (hx 1 _ rfl)
  obtain ⟨c2, rfl, _⟩ := up_int (v := v2) (l := [v3]) Tryz.underlying3 (by kernel_rfl) (hx 2 _ rfl)
  obtain ⟨c3, rfl, _⟩ := up_int (v := v3) (l := []) Tryz.underlying3 (by kernel_rfl) (hx 3 _ rfl)
  exact ⟨⟨c0, c1, c2, c3⟩, rfl⟩

theorem members_up {n : Nat} {v : Value} {l : List Value} (h : ∃ y, trodA enc Tryz.prog W n 32 ((v :: l).take (Tryz.prog.cellsOf 32)) = some y ∧ RFits Tryz.prog 32 y.1) : ∃ ms, MemR (allOf W) v ms := by
  obtain ⟨y, h, hf⟩ := up_one (by kernel_rfl) h
  obtain ⟨rows, h1, h2, h3⟩ := slice_up (es := 4) (B := 32) Tryz.underlying32 (by kernel_rfl) (by decide) (by kernel_rfl) h hf
  have key : ∀ rows : List (List Value), (∀ r ∈ rows, r.length = 4 ∧ ∃ m y, m < n ∧ trodA enc Tryz.prog W m 105 r = some y ∧ RFits Tryz.prog 105 y.1) → ∃ ms : List MemD, rows = ms.map MemD.cells := by
    intro rows
    induction rows with
    | nil => exact fun _ => ⟨[], rfl⟩
    | cons r rows ih =>
      intro h
      obtain ⟨ms, rfl⟩ := ih fun x hx => h x (List.mem_cons_of_mem _ hx)
      obtain ⟨_, m, y, _, h5, h6⟩ := h r (by simp)
      obtain ⟨d, rfl⟩ := member_up ⟨y, h5, h6⟩
      exact ⟨d :: ms, rfl⟩
  obtain ⟨ms, rfl⟩ := key rows h3
  rw [List.length_map] at h1 h2
  exact ⟨ms, h1, h2⟩

theorem deeds_rows {n : Nat} (ih : ∀ m, m < n → ∀ cs, (∃ y, trodA enc Tryz.prog W m 36 cs = some y ∧ RFits Tryz.prog 36 y.1) → ∃ d, DeedR (allOf W) d cs) :
    ∀ rows : List (List Value), (∀ r ∈ rows, r.length = 16 ∧ ∃ m y, m < n ∧ trodA enc Tryz.prog W m 36 r = some y ∧ RFits Tryz.prog 36 y.1) → ∃ ds, DeedsR (allOf W) ds rows
  | [], _ => ⟨[], rfl⟩
  | r :: rows, h => by
    obtain ⟨ds, hd⟩ := deeds_rows ih rows fun x hx => h x (List.mem_cons_of_mem _ hx)
    obtain ⟨_, m, y, h4, h5, h6⟩ := h r (by simp)
    obtain ⟨d, hr⟩ := ih m h4 r ⟨y, h5, h6⟩
    exact ⟨d :: ds, r, rows, rfl, hr, hd⟩

theorem deed_up (n : Nat) : ∀ cs, (∃ y, trodA enc Tryz.prog W n 36 cs = some y ∧ RFits Tryz.prog 36 y.1) → ∃ d, DeedR (allOf W) d cs := by
  induction n using Nat.strongRecOn with
  | _ n ih =>
    intro cs ⟨y, h, hf⟩
    obtain ⟨hl, m, hm, hx⟩ := fields_up (P := Tryz.prog) Tryz.underlying36 h hf
    have hl : cs.length = 16 := hl.trans (by kernel_rfl)
    obtain ⟨v0, v1, v2, v3, v4, v5, v6, v7, v8, v9, v10, v11, v12, v13, v14, v15, rfl⟩ := list16 hl
    obtain ⟨c0, rfl, _⟩ := up_int (v := v0) (l := [v1, v2, v3, v4, v5, v6, v7, v8, v9, v10, v11, v12, v13, v14, v15]) Tryz.underlying28 (by kernel_rfl) (hx 0 _ rfl)
    obtain ⟨c1, rfl, _⟩ := up_int (v := v1) (l := [v2, v3, v4, v5, v6, v7, v8, v9, v10, v11, v12, v13, v14, v15]) Tryz.underlying29 (by kernel_rfl) (hx 1 _ rfl)
    obtain ⟨c2, rfl, _⟩ := up_int (v := v2) (l := [v3, v4, v5, v6, v7, v8, v9, v10, v11, v12, v13, v14, v15]) Tryz.underlying2 (by kernel_rfl) (hx 2 _ rfl)
    obtain ⟨c3, rfl, _⟩ := up_int (v := v3) (l := [v4, v5, v6, v7, v8, v9, v10, v11, v12, v13, v14, v15]) Tryz.underlying3 (by kernel_rfl) (hx 3 _ rfl)
    obtain ⟨c4, rfl, _⟩ := up_int (v := v4) (l := [v5, v6, v7, v8, v9, v10, v11, v12, v13, v14, v15]) Tryz.underlying3 (by kernel_rfl) (hx 4 _ rfl)
    obtain ⟨c5, rfl, _⟩ := up_int (v := v5) (l := [v6, v7, v8, v9, v10, v11, v12, v13, v14, v15]) Tryz.underlying2 (by kernel_rfl) (hx 5 _ rfl)
    obtain ⟨c6, rfl, hc6⟩ := up_string (v := v6) (l := [v7, v8, v9, v10, v11, v12, v13, v14, v15]) Tryz.underlying9 (by kernel_rfl) (hx 6 _ rfl)
    obtain ⟨bs, hbs⟩ := up_bytes (v := v7) (l := [v8, v9, v10, v11, v12, v13, v14, v15]) Tryz.underlying30 Tryz.underlying5 (by kernel_rfl) (by kernel_rfl) (by kernel_rfl) (hx 7 _ rfl)
    obtain ⟨c8, rfl, _⟩ := up_int (v := v8) (l := [v9, v10, v11, v12, v13, v14, v15]) Tryz.underlying2 (by kernel_rfl) (hx 8 _ rfl)
    obtain ⟨c9, rfl, _⟩ := up_int (v := v9) (l := [v10, v11, v12, v13, v14, v15]) Tryz.underlying3 (by kernel_rfl) (hx 9 _ rfl)
    obtain ⟨c10, rfl, _⟩ := up_int (v := v10) (l := [v11, v12, v13, v14, v15]) Tryz.underlying3 (by kernel_rfl) (hx 10 _ rfl)
    obtain ⟨c11, rfl, _⟩ := up_int (v := v11) (l := [v12, v13, v14, v15]) Tryz.underlying3 (by kernel_rfl) (hx 11 _ rfl)
    obtain ⟨c12, rfl, _⟩ := up_int (v := v12) (l := [v13, v14, v15]) Tryz.underlying31 (by kernel_rfl) (hx 12 _ rfl)
    have he : ∃ y, trodA enc Tryz.prog W m 34 ([v13, v14, v15].take (Tryz.prog.cellsOf 34)) = some y ∧ RFits Tryz.prog 34 y.1 := hx 13 _ rfl
    rw [show Tryz.prog.cellsOf 34 = 2 by kernel_rfl] at he
    obtain ⟨ye, he, hfe⟩ := he
    obtain ⟨_, me, _, hxe⟩ := fields_up (P := Tryz.prog) Tryz.underlying34 he hfe
    obtain ⟨c13, rfl, _⟩ := up_int (v := v13) (l := [v14]) Tryz.underlying28 (by kernel_rfl) (hxe 0 _ rfl)
    have h14 := hxe 1 _ rfl
    obtain ⟨ms, hms⟩ := members_up (v := v14) (l := []) h14
    obtain ⟨y, h, hf⟩ := up_one (P := Tryz.prog) (t := 22) (v := v15) (l := []) (by kernel_rfl) (hx 14 _ rfl)
    obtain ⟨rows, h1, h2, h3⟩ := slice_up (es := 16) (B := 184) Tryz.underlying22 (by kernel_rfl) (by decide) (by kernel_rfl) h hf
    obtain ⟨ds, hds⟩ := deeds_rows (n := m) (fun k hk => ih k (by omega)) rows h3
    have hlen := hds.length
    rw [hlen] at h1 h2
    exact ⟨.mk ⟨c0, c1, c2, c3, c4, c5, c6, bs, c8, c9, c10, c11, c12, c13, ms⟩ ds, v7, v14, v15, rows, rfl, hc6, hbs, hms, h1, h2, hds⟩

theorem deeds_up {v : Value} {d : DataW H} {ps : List MemPlace} (h : DataW.Trod enc Tryz.prog W 0 (fun _ => true) true 22 v d ps) (hf : RFits Tryz.prog 22 d) (hv : v.cells.toList = [v]) : ∃ ds, DeedsS (allOf W) v ds := by
  obtain ⟨n, h⟩ := h
  rw [hv] at h
  obtain ⟨rows, h1, h2, h3⟩ := slice_up (es := 16) (B := 184) Tryz.underlying22 (by kernel_rfl) (by decide) (by kernel_rfl) h hf
  obtain ⟨ds, hds⟩ := deeds_rows (n := n) (fun k _ => deed_up k) rows h3
  have hlen := hds.length
  rw [hlen] at h1 h2
  exact ⟨ds, rows, h1, h2, hds⟩

end

end
end Go.Proofs.YtkfiabmmmianhaaGreatDoor
