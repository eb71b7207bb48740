/-
  Contracts: the document's paths: parts, check, what stands over one, its last part.
  Contracts: the document's tree: a path's parent is marked.
  Contracts: the document's tree: a create, a delete, a set.
  Contracts: the document's tree: another row of sittings; a sitting less.
  Contracts: the document's tree: a sitting, whatever was there.
  Trees that are alike tell the same; a copy is alike; what deeds keep of a tree.
  Trees, plain: sorted paths, counts of children, nodes that were loaded.
-/
import Derived.Test.YtbebacffaljckaaGreatDoorG15
import Derived.Test.YtbebacffaljckaaGreatDoorG11
import Derived.Test.YtbebacffaljckaaGreatDoorG12
import Derived.Test.YtbebacffaljckaaGreatDoorG14
namespace Go.Proofs.YtbebacffaljckaaGreatDoor
open Go.Sx Go.RowKit
noncomputable section
open Classical

/-- The parts of a right path. -/
def partsL (l : List UInt8) : List (List UInt8) := if pathOk l = true ∧ l ≠ [47] then splitL (l.drop 1) else []

theorem splitL_mem_len : ∀ (l y : List UInt8), y ∈ splitL l → y.length ≤ l.length
  | [], y, h => by
    simp only [splitL, List.mem_singleton] at h
    subst h; simp
  | b :: l, y, h => by
    have ih := splitL_mem_len l
    simp only [splitL] at h
    cases hb : b == 47 with
    | true =>
      rw [hb] at h
      simp only [cond_true] at h
      rcases List.mem_cons.1 h with e | h
      · subst e; simp
      · have := ih y h; simp; omega
    | false =>
      rw [hb] at h
      simp only [cond_false] at h
      cases hs : splitL l with
      | nil => exact absurd hs (splitL_ne l)
      | cons x xs =>
        rw [hs] at h
        simp only at h
        rcases List.mem_cons.1 h with e | h
        · subst e
          have := ih x (by rw [hs]; simp)
          simp; omega
        · have := ih y (by rw [hs]; simp [h])
          simp; omega

def refPartsS : FSpec := ⟨ByteArray, fun s vs _ => vs = [.string s] ∧ s.data.toList.length ≤ 140737488351232,
  fun s _ A v A' => A.Sub A' ∧ ∃ x, v = .tuple #[x, .bool (pathOk s.data.toList)] ∧ Sl (A'.minus A) 1 (partsL s.data.toList).length x ((partsL s.data.toList).map strV)⟩

set_option maxRecDepth 100000 in
set_option maxHeartbeats 0 in
theorem refParts_ok : FOk Tryz.prog 74 refPartsS := by
  refine fok_v mixed fun (s : ByteArray) vs A hp => ?_
  obtain ⟨rfl, hsz⟩ : vs = [.string s] ∧ s.data.toList.length ≤ 140737488351232 := hp
  have hC : CTSound Tryz.prog (lookC [specE 98 splitS, specE 99 refPartS] noC) := lookC_sound (noC_sound _) (fun x hx => by
    simp only [List.mem_cons, List.not_mem_nil, or_false] at hx
    rcases hx with rfl | rfl
    · exact specE_ok split_ok
    · exact specE_ok refPart_ok)
  refine ⟨_, tabO Tryz.prog _ noL 60 [(74, 0)], 60, hC, tabO_sound mixed hC (noL_sound _) _ _, fun blk os out tape D hD => ?_⟩
  obtain ⟨l, hl⟩ : ∃ l, l = s.data.toList := ⟨_, rfl⟩
  have hbad2 : ∀ A2, A.Sub A2 → pathOk l = false → refPartsS.post s [.string s] A (.tuple #[.slice none 0 0, .bool false]) A2 := fun A2 h2 hb => by
    refine ⟨h2, .slice none 0 0, by rw [← hl, hb], ?_⟩
    have e : partsL s.data.toList = [] := by rw [← hl, partsL, if_neg (by rw [hb]; simp)]
    rw [e]
    exact Sl.nil _ _
  have hbad := hbad2 A (Arena.Sub.refl _)
  conv => lhs; whnf
  refine split_dec (fun h1 => ?_) (fun h1 => ?_) <;> (conv => lhs; whnf)
  · have h1 : (200 : Int) < (s.data.toList.length : Int) := h1
    exact (hD _).2 (hbad (pathOk_no fun q e => by
      have := congrArg List.length e
      rw [List.length_cons, hl] at this
      omega))
  refine split_dec (fun h2 => ?_) (fun h2 => ?_) <;> (conv => lhs; whnf)
  · have h2 : (s.data.toList.length : Int) = 0 := h2
    exact (hD _).2 (hbad (pathOk_no fun q e => by
      have := congrArg List.length e
      rw [List.length_cons, hl] at this
      omega))
  have hlen : s.data.toList.length ≤ 200 := by
    have h1 : ¬ (200 : Int) < (s.data.toList.length : Int) := h1
    omega
  have hpos : 0 < s.data.toList.length := by
    have h2 : ¬ (s.data.toList.length : Int) = 0 := h2
    omega
  have i00 : (0 : Int) ≤ (0 : Int) ∧ (0 : Int) < (s.data.toList.length : Int) := by omega
  refine go_in i00 ?_
  conv => lhs; whnf
  obtain ⟨b, q, hbq⟩ : ∃ b q, s.data.toList = b :: q := by
    cases h : s.data.toList with
    | nil => rw [h] at hpos; exact absurd hpos (Nat.lt_irrefl _)
    | cons b q => exact ⟨b, q, rfl⟩
  have hg0 : s.data.toList.getD (Int.toNat 0) 0 = b := by rw [hbq]; rfl
  refine split_b (fun h3 => ?_) (fun h3 => ?_) <;> (conv => lhs; whnf)
  · have h3 : (!decide (((s.data.toList.getD (Int.toNat 0) 0).toNat : Int) = 47)) = true := h3
    rw [hg0] at h3
    refine (hD _).2 (hbad (pathOk_no fun q' e => ?_))
    rw [hl, hbq] at e
    injection e with e
    rw [e] at h3
    exact absurd h3 (by decide)
  have hb : b = 47 := by
    have h3 : (!decide (((s.data.toList.getD (Int.toNat 0) 0).toNat : Int) = 47)) = false := h3
    rw [hg0] at h3
    have h4 : ((b.toNat : Nat) : Int) = 47 := by simpa using h3
    exact UInt8.toNat_inj.1 (Int.ofNat.inj h4)
  rw [hb] at hbq
  refine split_b (fun h4 => ?_) (fun h4 => ?_) <;> (conv => lhs; whnf)
  · have h4 : s.data.toList = [47] := beqL_iff.1 h4
    have hend : refPartsS.post s [.string s] A (.tuple #[.slice none 0 0, .bool true]) A := by
      refine ⟨Arena.Sub.refl _, .slice none 0 0, by rw [h4]; rfl, ?_⟩
      have e : partsL s.data.toList = [] := by rw [partsL, if_neg (by simp [h4])]
      rw [e]
      exact Sl.nil _ _
    exact (hD _).2 hend
  have hq0 : q ≠ [] := fun e => by
    have h4 : ¬ s.data.toList = [47] := beqL_ff.1 h4
    exact h4 (by rw [hbq, e])
  have hqe : (s.data.toList.drop 1).take (s.data.toList.length - 1) = q := by
    rw [hbq]
    simp
  have hql : q.length ≤ 199 := by
    rw [hbq, List.length_cons] at hlen
    omega
  refine go_b (bnd_from (x := 1) (k := 1) rfl (show 1 ≤ s.data.toList.length by omega)) ?_
  conv => lhs; whnf
  refine (hD _).2 ⟨(s.data.toList.drop 1).take (s.data.toList.length - 1), ⟨rfl, by rw [hqe]; omega⟩, fun v A1 hq => ?_⟩
  have hq : A.Sub A1 ∧ Sl (A1.minus A) 1 (splitL ((s.data.toList.drop 1).take (s.data.toList.length - 1))).length v ((splitL ((s.data.toList.drop 1).take (s.data.toList.length - 1))).map strV) := hq
  rw [hqe] at hq
  obtain ⟨ps, hps⟩ : ∃ ps, ps = splitL q := ⟨_, rfl⟩
  have hpl : ps.length ≤ 200 := by
    rw [hps, splitL_len]
    have := List.count_le_length (a := (47 : UInt8)) (l := q)
    omega
  rw [← hps] at hq
  obtain ⟨s1, hS⟩ := hq
  have hS0 := hS
  obtain ⟨ao, c, rfl, hc, hsl, ha1, ha2, ha3⟩ := hS
  conv => lhs; whnf
  have hpk : pathOk l = ps.all partOk := by
    have e : q.isEmpty = false := by
      cases q with
      | nil => exact absurd rfl hq0
      | cons x xs => rfl
    rw [hl, hbq]
    show (decide (q.length < 200) && restOk q) = _
    rw [decide_eq_true (by omega), restOk, e, hps]
    rfl
  refine (hD _).2 ⟨cnt A1 5 [0, 4] [] ps.length fun k => (ps.take k).all partOk = true, ⟨(0 : Nat), ⟨Nat.zero_le _, by simp⟩, ⟨rfl, trivial⟩, trivial, rfl⟩, fun (k : Nat) hk => ⟨⟨trivial, trivial⟩, trivial, ?_⟩⟩
  simp only [cnt] at hk
  obtain ⟨hkl, hall⟩ := hk
  conv => lhs; whnf
  refine split_dec (fun hlt => ?_) (fun hlt => ?_) <;> (conv => lhs; whnf)
  · have hkl2 : k < ps.length := by
      have hlt : (k : Int) < (ps.length : Int) := hlt
      omega
    obtain ⟨g, o, rfl, hra⟩ := Sl.at_ hc ha1 ha2 ha3 (by omega)
    have r1 := rd_sub (minus_sub A A1) (text_at hra k hkl2 rfl)
    have i0 : (0 : Int) ≤ (k : Int) ∧ (k : Int) < (ps.length : Int) := by omega
    repeat (first | refine go_in i0 ?_ | refine go_rd r1 ?_
            conv => lhs; whnf)
    have hpkl : ps[k].length ≤ 1000 := by
      have h1 : ∀ (l : List UInt8) (y : List UInt8), y ∈ splitL l → y.length ≤ l.length := splitL_mem_len
      have := h1 q ps[k] (by rw [← hps]; exact List.getElem_mem _)
      omega
    refine (hD _).2 ⟨(⟨ps[k].toArray⟩ : ByteArray), ⟨rfl, by show ps[k].length ≤ _; omega⟩, fun v A9 hq => ?_⟩
    have hq : A9 = A1 ∧ v = .bool (partOk ps[k]) := hq
    have h9 := hq.1.symm
    have hv := hq.2
    subst h9
    by_cases hok : partOk ps[k] = true
    rotate_left
    · have hok : partOk ps[k] = false := by simpa using hok
      rw [hok] at hv
      subst hv
      have hend := hbad2 A1 s1 (by
        rw [hpk, List.all_eq_false]
        exact ⟨ps[k], List.getElem_mem _, by simp [hok]⟩)
      conv => lhs; whnf
      exact (hD _).2 hend
    rw [hok] at hv
    subst hv
    conv => lhs; whnf
    refine (hD _).2 ⟨(k + 1 : Nat), ⟨⟨by omega, ?_⟩, ⟨inc_slot (by omega), trivial⟩, trivial, rfl⟩, by show ps.length - (k + 1) < ps.length - k; omega, ⟨same1 rfl rfl, same1 rfl rfl, trivial⟩, trivial⟩
    show (ps.take (k + 1)).all partOk = true
    rw [List.take_succ_eq_append_getElem hkl2, List.all_append, hall]
    simpa using hok
  · have e : k = ps.length := by
      have hlt : ¬ (k : Int) < (ps.length : Int) := hlt
      omega
    rw [e, List.take_length] at hall
    have hend : refPartsS.post s [.string s] A (.tuple #[.slice ao ps.length c, .bool true]) A1 := by
      have hk1 : pathOk s.data.toList = true := by rw [← hl, hpk]; exact hall
      have e2 : partsL s.data.toList = ps := by
        rw [partsL, if_pos ⟨hk1, by rw [hbq]; intro e; injection e with _ e; exact hq0 e⟩, hbq, hps]; rfl
      refine ⟨s1, .slice ao ps.length c, by rw [hk1], ?_⟩
      rw [e2]
      exact hS0
    exact (hD _).2 hend

/-! ### Check, Parent, Base -/

theorem refPartsC : CTSound Tryz.prog (lookC [specE 74 refPartsS, specE 110 joinS] noC) := lookC_sound (noC_sound _) (fun x hx => by
  simp only [List.mem_cons, List.not_mem_nil, or_false] at hx
  rcases hx with rfl | rfl
  · exact specE_ok refParts_ok
  · exact specE_ok join_ok)

def refCheckS : FSpec := ⟨ByteArray, fun s vs _ => vs = [.string s] ∧ s.data.toList.length ≤ 140737488351232, fun s _ A v A' => A.Sub A' ∧ v = .bool (pathOk s.data.toList)⟩
def refParentS : FSpec := ⟨ByteArray, fun s vs _ => vs = [.string s] ∧ s.data.toList.length ≤ 140737488351232, fun s _ A v A' => A.Sub A' ∧ v = .string (parentP s)⟩
def refBaseS : FSpec := ⟨ByteArray, fun s vs _ => vs = [.string s] ∧ s.data.toList.length ≤ 140737488351232, fun s _ A v A' => A.Sub A' ∧ v = .string (baseP s)⟩

set_option maxRecDepth 100000 in
set_option maxHeartbeats 0 in
theorem refCheck_ok : FOk Tryz.prog 59 refCheckS := by
  refine fok_v mixed fun (s : ByteArray) vs A hp => ?_
  obtain ⟨rfl, hsz⟩ : vs = [.string s] ∧ s.data.toList.length ≤ 140737488351232 := hp
  refine ⟨_, noL, 60, refPartsC, noL_sound _, fun blk os out tape D hD => ?_⟩
  conv => lhs; whnf
  refine (hD _).2 ⟨s, ⟨rfl, hsz⟩, fun v A' hq => ?_⟩
  have hq : A.Sub A' ∧ ∃ x, v = .tuple #[x, .bool (pathOk s.data.toList)] ∧ Sl (A'.minus A) 1 (partsL s.data.toList).length x ((partsL s.data.toList).map strV) := hq
  obtain ⟨s1, x, hv, hS⟩ := hq
  subst hv
  have hend : refCheckS.post s [.string s] A (.bool (pathOk s.data.toList)) A' := ⟨s1, rfl⟩
  conv => lhs; whnf
  exact (hD _).2 hend

theorem parts_facts (s : ByteArray) : (partsL s.data.toList = [] → parentP s = ⟨#[]⟩ ∧ baseP s = ⟨#[]⟩) ∧ (∀ h : partsL s.data.toList ≠ [], parentP s = ⟨(47 :: Lib.join ((partsL s.data.toList).take ((partsL s.data.toList).length - 1)) [47]).toArray⟩ ∧ baseP s = ⟨((partsL s.data.toList).getLast h).toArray⟩) ∧ (partsL s.data.toList).length ≤ 200 ∧ (Lib.join ((partsL s.data.toList).take ((partsL s.data.toList).length - 1)) [47]).length ≤ 200 := by
  by_cases hk : pathOk s.data.toList = true ∧ s.data.toList ≠ [47]
  · obtain ⟨q, hq, hl, _⟩ := pathOk_head hk.1
    have hq0 : q ≠ [] := fun e => hk.2 (by rw [hq, e])
    have e : partsL s.data.toList = splitL q := by rw [partsL, if_pos hk, hq]; rfl
    have hpp := parent_parts (by rw [← hq]; exact hk.1) hq0
    rw [← hq] at hpp
    have hlen : (splitL q).length ≤ 200 := by
      rw [splitL_len]
      have := List.count_le_length (a := (47 : UInt8)) (l := q)
      omega
    rw [e]
    have hdl : (splitL q).take ((splitL q).length - 1) = (splitL q).dropLast := by rw [List.dropLast_eq_take]
    rw [hdl]
    refine ⟨fun h => absurd h (splitL_ne q), fun h => ⟨?_, ?_⟩, hlen, ?_⟩
    · unfold parentP
      rw [hpp.1]
    · unfold baseP
      have h2 := hpp.2
      rw [List.getLast?_eq_some_getLast h] at h2
      injection h2 with h2
      rw [h2]
    · have h1 := hpp.1
      have h3 : (cutP s.data.toList).1.length ≤ s.data.toList.length := by
        rw [cutP, if_pos hk]
        exact List.length_take_le' _ _
      rw [h1, List.length_cons, hq, List.length_cons] at h3
      omega
  · have e : partsL s.data.toList = [] := by rw [partsL, if_neg hk]
    rw [e]
    refine ⟨fun _ => ?_, fun h => absurd rfl h, by simp, by simp [Lib.join_nil]⟩
    unfold parentP baseP
    rw [cutP, if_neg hk]
    exact ⟨rfl, rfl⟩

set_option maxRecDepth 100000 in
set_option maxHeartbeats 0 in
theorem refParent_ok : FOk Tryz.prog 71 refParentS := by
  refine fok_v mixed fun (s : ByteArray) vs A hp => ?_
  obtain ⟨rfl, hsz⟩ : vs = [.string s] ∧ s.data.toList.length ≤ 140737488351232 := hp
  refine ⟨_, noL, 60, refPartsC, noL_sound _, fun blk os out tape D hD => ?_⟩
  conv => lhs; whnf
  refine (hD _).2 ⟨s, ⟨rfl, hsz⟩, fun v A' hq => ?_⟩
  have hq : A.Sub A' ∧ ∃ x, v = .tuple #[x, .bool (pathOk s.data.toList)] ∧ Sl (A'.minus A) 1 (partsL s.data.toList).length x ((partsL s.data.toList).map strV) := hq
  obtain ⟨hf1, hf2, hf3, hf4⟩ := parts_facts s
  obtain ⟨ps, hps⟩ : ∃ ps, ps = partsL s.data.toList := ⟨_, rfl⟩
  rw [← hps] at hq hf1 hf2 hf3 hf4
  obtain ⟨s1, x, hv, ao, c, rfl, hc, hsl, ha1, ha2, ha3⟩ := hq
  subst hv
  conv => lhs; whnf
  refine split_dec (fun h0 => ?_) (fun h0 => ?_) <;> (conv => lhs; whnf)
  · have h0 : (ps.length : Int) = 0 := h0
    have e : ps = [] := List.length_eq_zero_iff.1 (by omega)
    have hend : refParentS.post s [.string s] A (.string ⟨#[]⟩) A' := ⟨s1, by rw [(hf1 e).1]⟩
    exact (hD _).2 hend
  have hpos : 0 < ps.length := by
    have h0 : ¬ (ps.length : Int) = 0 := h0
    omega
  have hne : ps ≠ [] := fun e => by rw [e] at hpos; exact absurd hpos (Nat.lt_irrefl _)
  obtain ⟨g, o, rfl, hra⟩ := Sl.at_ hc ha1 ha2 ha3 hpos
  have hx : IntKind.i64.wrap ((ps.length : Int) - 1) = ((ps.length - 1 : Nat) : Int) := by
    rw [Sx.wrap_i64 (by omega) (by omega)]; omega
  conv => lhs; whnf
  refine go_b (bnd_to hx (show ps.length - 1 ≤ c by omega)) ?_
  have hJ : Sl A' 1 (ps.take (ps.length - 1)).length (.slice (some ⟨g, o + bif Nat.beq c 0 then 0 else 0 * 1, none⟩) ((IntKind.i64.wrap ((ps.length : Int) - 1)).toNat - 0) (c - 0)) ((ps.take (ps.length - 1)).map strV) := by
    have e0 : (o + bif Nat.beq c 0 then 0 else 0 * 1) = o := by cases Nat.beq c 0 <;> rfl
    have e1 : (ps.take (ps.length - 1)).length = ps.length - 1 := by rw [List.length_take]; omega
    rw [hx, Int.toNat_natCast, Nat.sub_zero, e0, e1, Nat.sub_zero]
    refine Sl.row (by omega) ?_
    have := rd_at (rd_sub (minus_sub A A') hra) (i := 0) (m := (ps.length - 1) * 1) (by omega)
    rw [Nat.add_zero, List.drop_zero, ← List.map_take] at this
    rw [Nat.mul_one] at this ⊢
    exact this
  have hJl : (ps.take (ps.length - 1)).length ≤ 1000 := by rw [List.length_take]; omega
  conv => lhs; whnf
  refine (hD _).2 ⟨ps.take (ps.length - 1), ⟨_, rfl, hJ, hJl, by omega⟩, fun v A9 hq => ?_⟩
  have hq : A9 = A' ∧ v = .string ⟨(Lib.join (ps.take (ps.length - 1)) [47]).toArray⟩ := hq
  have h9 := hq.1.symm
  have hv := hq.2
  subst h9
  subst hv
  have hend : refParentS.post s [.string s] A (.string ⟨(47 :: Lib.join (ps.take (ps.length - 1)) [47]).toArray⟩) A' := ⟨s1, by rw [(hf2 hne).1]⟩
  conv => lhs; whnf
  refine go_b (Nat.ble_eq_true_of_le (show 1 + (Lib.join (ps.take (ps.length - 1)) [47]).length ≤ 9223372036854775807 by omega)) ?_
  conv => lhs; whnf
  exact (hD _).2 hend

end
end Go.Proofs.YtbebacffaljckaaGreatDoor

namespace Go.Proofs.YtbebacffaljckaaGreatDoor
open Go.Sx Go.RowKit
noncomputable section
open Classical

/-- One cell of a row's element is turned. -/
theorem row_set {F1 E F2 : List Value} (i : Nat) (v : Value) (hi : i < E.length) : (F1 ++ (E ++ F2)).take (F1.length + i) ++ [v] ++ (F1 ++ (E ++ F2)).drop (F1.length + i + 1) = F1 ++ (E.set i v ++ F2) := by
  have h1 : (F1 ++ (E ++ F2)).take (F1.length + i) = F1 ++ E.take i := by
    rw [List.take_append, List.take_of_length_le (by omega), Nat.add_sub_cancel_left, List.take_append_of_le_length (by omega)]
  have h2 : (F1 ++ (E ++ F2)).drop (F1.length + i + 1) = E.drop (i + 1) ++ F2 := by
    rw [List.drop_append, List.drop_eq_nil_of_le (by omega), List.nil_append, show F1.length + i + 1 - F1.length = i + 1 by omega, List.drop_append_of_le_length (by omega)]
  rw [h1, h2, List.set_eq_take_append_cons_drop, if_pos hi]
  simp

/-- A cell of an element of a row is stored. -/
theorem RowIn.turn {α : Type} {enc : α → List Value} {es : Nat} (he : ∀ x, (enc x).length = es) {A A' : Arena} {g : Nat} {e : TypeId} {l : List α} {v : Value} (h : RowIn A g es e l.length v (l.flatMap enc)) {k i : Nat} (hk : k < l.length) (hi : i < es) {w : Value} {x' : α} (hx : enc x' = (enc l[k]).set i w) (hP : A.Put A' g (0 + k * es + i) [w]) : RowIn A' g es e (l.set k x').length v ((l.set k x').flatMap enc) := by
  obtain ⟨h1, ao, c, h2, h3, h4, h5, h6⟩ := h
  have hkl := hk
  obtain ⟨h7, cc, h8, h9, h10⟩ := h6 (by omega)
  obtain ⟨c0, t0, fz0, c1, k1, k2, k3⟩ := hP.at_
  rw [h8] at k1
  injection k1 with k1
  injection k1 with k1 k1' k1''
  subst k1; subst k1'; subst k1''
  have hl : l = l.take k ++ l[k] :: l.drop (k + 1) := by
    rw [← List.drop_eq_getElem_cons hk, List.take_append_drop]
  have hs : l.set k x' = l.take k ++ x' :: l.drop (k + 1) := by
    rw [List.set_eq_take_append_cons_drop, if_pos hk]
  have hf : l.flatMap enc = (l.take k).flatMap enc ++ (enc l[k] ++ (l.drop (k + 1)).flatMap enc) := by
    conv => lhs; rw [hl]
    rw [List.flatMap_append, List.flatMap_cons]
  have hfs : (l.set k x').flatMap enc = (l.take k).flatMap enc ++ ((enc l[k]).set i w ++ (l.drop (k + 1)).flatMap enc) := by
    rw [hs, List.flatMap_append, List.flatMap_cons, hx]
  have hF1 : ((l.take k).flatMap enc).length = k * es := by rw [flatN_len (enc := enc) he, List.length_take, Nat.min_eq_left (by omega)]
  have hfl : ((l.set k x').flatMap enc).length = (l.set k x').length * es := by
    rw [hfs, List.length_append, List.length_append, List.length_set, ← List.length_append, ← List.length_append, ← hf, List.length_set]
    exact h1
  have hkn : k * es + es ≤ l.length * es := by rw [← Nat.succ_mul]; exact Nat.mul_le_mul_right _ hk
  refine ⟨hfl, ao, c, by rw [List.length_set]; exact h2, by rw [List.length_set]; exact h3, h4, h5, fun _ => ⟨h7, c1, k2, ?_, ?_⟩⟩
  · rw [List.length_set, ← Array.length_toList, k3]
    simp only [List.length_append, List.length_take, List.length_drop, Array.length_toList, List.length_singleton]
    omega
  · rw [List.length_set, k3, hfs]
    have hrow := row_set (F1 := (l.take k).flatMap enc) (E := enc l[k]) (F2 := (l.drop (k + 1)).flatMap enc) i w (by rw [he]; exact hi)
    rw [← hf, hF1, ← h10] at hrow
    rw [← hrow]
    have e1 : (0 + k * es + i) = k * es + i := by omega
    rw [e1, List.length_singleton]
    have hlen : (cc.toList.take (k * es + i) ++ [w]).length = k * es + i + 1 := by
      rw [List.length_append, List.length_take, Array.length_toList, List.length_singleton]; omega
    rw [List.take_append, List.take_of_length_le (by rw [hlen]; omega), hlen, List.take_take, Nat.min_eq_left (by omega), List.drop_take]

/-- A node is turned in place; its data may be new. -/
theorem RefR.turnG {A A' B B' : Arena} {O : Nat → Prop} {r : Nat} {l : List (ToldD × Value)} {S : List SitD} {vn vs : Value} {gn gs : Nat} (h : RefR A B O r l S vn vs gn gs) (hBB : B.Sub B') (hB2 : B'.Sub A) (hoff : ∀ k, O k → B'.blk k = none) {k i : Nat} (hk : k < l.length) (hi : i < 12) {w : Value} {x' : ToldD × Value} (hx : nodeC x' = (nodeC l[k]).set i w) (hd : SlB B' x'.2 x'.1.data) (hP : A.Put A' gn (0 + k * 12 + i) [w]) :
    RefR A' B' O r (l.set k x') S vn vs gn gs ∧ Kept A O A' O := by
  have hpos : 0 < l.length := by omega
  have hgn := h.own.2.1 hpos
  have hoth := hP.other
  refine ⟨⟨h.top.sub fun o ho => by rw [hoth r (Ne.symm (h.ne.1 hpos))]; exact ho, RowIn.turn (enc := nodeC) (fun _ => rfl) h.nrow hk hi hx hP, h.srow.keep fun hs => hoth gs (Ne.symm (h.ne.2.2 hpos hs)), fun x hx2 => ?_, fun j o hj => ?_, ⟨h.own.1, fun _ => hgn, h.own.2.2⟩, hoff, fun j hj => ?_, ⟨fun _ => h.ne.1 hpos, h.ne.2.1, fun _ hs => h.ne.2.2 hpos hs⟩⟩, fun j o hj hO => ?_, fun j hj => (hP.dom j).1 hj, fun j hj => .inl hj⟩
  · rcases List.mem_or_eq_of_mem_set hx2 with h1 | h1
    · exact (h.data x h1).sub hBB
    · rw [h1]
      exact hd
  · rw [hoth j fun e => by rw [e, hoff gn hgn] at hj; cases hj]
    exact hB2 j o hj
  · by_cases e : j = gn
    · obtain ⟨c0, t0, fz0, c1, k1, k2, _⟩ := hP.at_
      rw [e]
      exact ⟨_, k2⟩
    · rw [hoth j e]; exact h.live j hj
  · rw [hoth j fun e => hO (e ▸ hgn)]
    exact hj

theorem RefR.turn {A A' B : Arena} {O : Nat → Prop} {r : Nat} {l : List (ToldD × Value)} {S : List SitD} {vn vs : Value} {gn gs : Nat} (h : RefR A B O r l S vn vs gn gs) {k i : Nat} (hk : k < l.length) (hi : i < 12) {w : Value} {x' : ToldD × Value} (hx : nodeC x' = (nodeC l[k]).set i w) (hv : x'.2 = l[k].2) (hd : x'.1.data = l[k].1.data) (hP : A.Put A' gn (0 + k * 12 + i) [w]) :
    RefR A' B O r (l.set k x') S vn vs gn gs ∧ Kept A O A' O :=
  h.turnG (Arena.Sub.refl _) h.sub h.off hk hi hx (by rw [hv, hd]; exact h.data l[k] (List.getElem_mem hk)) hP

/-- What lies there may be stored to. -/
theorem RefR.room {A B : Arena} {O : Nat → Prop} {r : Nat} {l : List (ToldD × Value)} {S : List SitD} {vn vs : Value} {gn gs : Nat} (h : RefR A B O r l S vn vs gn gs) {k i o : Nat} (hk : k < l.length) (hi : i < 12) (ho : o = 0 + k * 12 + i) : A.Room gn o 1 := by
  obtain ⟨_, ao, c, _, _, _, _, h6⟩ := h.nrow
  obtain ⟨_, cc, h8, h9, _⟩ := h6 (by omega)
  exact ⟨cc, _, _, h8, by omega, .inl rfl⟩

theorem Kept.trans {A A1 A2 : Arena} {O O1 O2 : Nat → Prop} (h : Kept A O A1 O1) (k : Kept A1 O1 A2 O2) : Kept A O A2 O2 := by
  refine ⟨fun j o hj hO => k.keep j o (h.keep j o hj hO) fun h1 => ?_, fun j hj => h.dom j (k.dom j hj), fun j hj => ?_⟩
  · rcases h.own j h1 with h2 | h2
    · exact hO h2
    · rw [hj] at h2; cases h2
  · rcases k.own j hj with h1 | h1
    · exact h.own j h1
    · exact .inr (h.dom j h1)

theorem Kept.more {A A1 : Arena} {O : Nat → Prop} (h : A.Sub A1) : Kept A O A1 O := by
  refine ⟨fun j o hj _ => h j o hj, fun j hj => ?_, fun _ hj => .inl hj⟩
  cases hb : A.blk j with
  | none => rfl
  | some o => rw [h j o hb] at hj; cases hj

def markX (z cv : Int) (x : ToldD) : ToldD := ⟨x.path, x.data, { x.stat with cver := cv, pzxid := z }⟩

def rmarkL (N : List ToldD) (p : ByteArray) (z cv : Int) : List ToldD := if findI N (parentP p) < 0 then N else match N[(findI N (parentP p)).toNat]? with
  | some x => N.set (findI N (parentP p)).toNat (markX z cv x)
  | none => N

def rmarkS : FSpec := ⟨RG × ByteArray × Int × Int, fun g vs A => vs = [.pointer (some ⟨g.1.r, 0, none⟩), .string g.2.1, .int .i64 g.2.2.1, .int .i64 g.2.2.2] ∧ RefAt A g.1.B g.1.O g.1.r g.1.N g.1.S ∧ g.1.N.length ≤ 1000000 ∧ g.2.1.data.toList.length ≤ 140737488351232,
  fun g _ A _ A' => ∃ O', RefAt A' g.1.B O' g.1.r (rmarkL g.1.N g.2.1 g.2.2.1 g.2.2.2) g.1.S ∧ Kept A g.1.O A' O'⟩

set_option maxRecDepth 100000 in
set_option maxHeartbeats 0 in
theorem rmark_ok : FOk Tryz.prog 54 rmarkS := by
  refine fok_v mixed fun ⟨⟨N, S, B, O, r⟩, p, z, cv⟩ vs A hp => ?_
  obtain ⟨rfl, hRef, hN, hpl⟩ : vs = [.pointer (some ⟨r, 0, none⟩), .string p, .int .i64 z, .int .i64 cv] ∧ RefAt A B O r N S ∧ N.length ≤ 1000000 ∧ p.data.toList.length ≤ 140737488351232 := hp
  have hC : CTSound Tryz.prog (lookC [specE 56 findS, specE 71 refParentS] noC) := lookC_sound (noC_sound _) (fun x hx => by
    simp only [List.mem_cons, List.not_mem_nil, or_false] at hx
    rcases hx with rfl | rfl
    · exact specE_ok find_ok
    · exact specE_ok refParent_ok)
  refine ⟨_, noL, 60, hC, noL_sound _, fun blk os out tape D hD => ?_⟩
  conv => lhs; whnf
  refine (hD _).2 ⟨p, ⟨rfl, hpl⟩, fun v A1 hq => ?_⟩
  have hq : A.Sub A1 ∧ v = .string (parentP p) := hq
  obtain ⟨s1, hv⟩ := hq
  subst hv
  have hRef1 := hRef.more s1
  conv => lhs; whnf
  refine (hD _).2 ⟨(⟨N, S, B, O, r⟩, parentP p), ⟨rfl, hRef1, hN⟩, fun v A9 hq => ?_⟩
  have hq : A9 = A1 ∧ v = .int .i64 (findI N (parentP p)) := hq
  have h9 := hq.1.symm
  have hv := hq.2
  subst h9
  by_cases hf : findI N (parentP p) < 0
  · subst hv
    have hend : rmarkS.post (⟨N, S, B, O, r⟩, p, z, cv) [] A (.tuple #[]) A1 := by
      show ∃ O', RefAt A1 B O' r (rmarkL N p z cv) S ∧ Kept A O A1 O'
      rw [rmarkL, if_pos hf]
      exact ⟨O, hRef1, Kept.more s1⟩
    conv => lhs; whnf
    refine no_dec (by omega) ?_
    conv => lhs; whnf
    exact (hD _).2 hend
  obtain ⟨k, hk, hfk⟩ := findI_lt hf
  rw [hfk] at hv
  subst hv
  obtain ⟨l, vn, vs', gn, gs, hl, h⟩ := hRef1
  have hll : l.length = N.length := by rw [← hl, List.length_map]
  have hkl : k < l.length := by omega
  have hpos : 0 < l.length := by omega
  obtain ⟨_, ao, c, hvn, hc, hz1, hz2, hz3⟩ := h.nrow
  obtain ⟨e, cc, h8, h9, h10⟩ := hz3 hpos
  subst e
  subst hvn
  have htop : A1.rd r 0 1 = some [.slice (some ⟨gn, 0, none⟩) l.length c] := h.top.rd (o := 0) (n := 1) (by show 0 + 1 ≤ 2; omega)
  have i0 : (0 : Int) ≤ (k : Int) ∧ (k : Int) < (l.length : Int) := by omega
  have hkn : k * 12 + 12 ≤ l.length * 12 := by omega
  conv => lhs; whnf
  repeat (first | refine go_rd htop ?_ | refine go_in i0 ?_
          conv => lhs; whnf)
  obtain ⟨⟨⟨xp, xd, ⟨q1, q2, q3, q4, q5, q6, q7, q8, q9, q10⟩⟩, xv⟩, hx⟩ : ∃ x, x = l[k] := ⟨_, rfl⟩
  have hroom : A1.Room gn (0 + k * 12 + 2 + 6) 1 := ⟨cc, _, _, h8, by omega, .inl rfl⟩
  refine (hD _).2 ⟨hroom, fun A2 hP => ?_⟩
  have hP : A1.Put A2 gn (0 + k * 12 + 8) [.int .i64 cv] := hP
  obtain ⟨hT2, hK2⟩ := h.turn hkl (i := 8) (by omega) (w := .int .i64 cv) (x' := (⟨xp, xd, ⟨q1, q2, q3, q4, q5, q6, cv, q8, q9, q10⟩⟩, xv)) (by rw [← hx]; rfl) (by rw [← hx]) (by rw [← hx]) hP
  have htop2 : A2.rd r 0 1 = some [.slice (some ⟨gn, 0, none⟩) l.length c] := hT2.top.rd (o := 0) (n := 1) (by show 0 + 1 ≤ 2; omega)
  obtain ⟨cc2, t2, fz2, hroom2⟩ : A2.Room gn (0 + k * 12 + 2 + 2) 1 := by
    obtain ⟨c0, t0, fz0, c1, k1, k2, k3⟩ := hP.at_
    rw [h8] at k1
    injection k1 with k1
    injection k1 with k1 k1' k1''
    subst k1; subst k1'; subst k1''
    refine ⟨c1, _, _, k2, ?_, .inl rfl⟩
    rw [← Array.length_toList, k3]
    simp only [List.length_append, List.length_take, List.length_drop, Array.length_toList, List.length_singleton]
    omega
  conv => lhs; whnf
  repeat (first | refine go_rd htop2 ?_ | refine go_in i0 ?_
          conv => lhs; whnf)
  refine (hD _).2 ⟨⟨cc2, t2, fz2, hroom2⟩, fun A3 hP2 => ?_⟩
  have hP2 : A2.Put A3 gn (0 + k * 12 + 4) [.int .i64 z] := hP2
  have hk2 : k < (l.set k ((⟨xp, xd, ⟨q1, q2, q3, q4, q5, q6, cv, q8, q9, q10⟩⟩ : ToldD), xv)).length := by rw [List.length_set]; exact hkl
  obtain ⟨hT3, hK3⟩ := hT2.turn hk2 (i := 4) (by omega) (w := .int .i64 z) (x' := (⟨xp, xd, ⟨q1, q2, z, q4, q5, q6, cv, q8, q9, q10⟩⟩, xv)) (by rw [List.getElem_set_self]; rfl) (by rw [List.getElem_set_self]) (by rw [List.getElem_set_self]) hP2
  have hend : rmarkS.post (⟨N, S, B, O, r⟩, p, z, cv) [] A (.tuple #[]) A3 := by
    show ∃ O', RefAt A3 B O' r (rmarkL N p z cv) S ∧ Kept A O A3 O'
    refine ⟨O, ⟨_, _, _, _, _, ?_, hT3⟩, (Kept.more s1).trans (hK2.trans hK3)⟩
    rw [rmarkL, if_neg hf, hfk, Int.toNat_natCast, List.set_set, List.map_set, hl]
    have e2 : N[k]? = some ⟨xp, xd, ⟨q1, q2, q3, q4, q5, q6, q7, q8, q9, q10⟩⟩ := by
      rw [← hl, List.getElem?_map, List.getElem?_eq_getElem hkl, ← hx]; rfl
    rw [e2]
    rfl
  conv => lhs; whnf
  exact (hD _).2 hend

end
end Go.Proofs.YtbebacffaljckaaGreatDoor

namespace Go.Proofs.YtbebacffaljckaaGreatDoor
open Go.Sx Go.RowKit
noncomputable section
open Classical

/-- What a set does to a node. -/
def setX (h : DeedH) (z time : Int) (x : ToldD) : ToldD := ⟨x.path, h.data, { x.stat with mzxid := z, mtime := time, ver := h.ver }⟩

def rsetL (N : List ToldD) (h : DeedH) (z time : Int) : List ToldD := if findI N h.path < 0 then N else match N[(findI N h.path).toNat]? with
  | some x => N.set (findI N h.path).toNat (setX h z time x)
  | none => N

def rchangeL (N : List ToldD) (h : DeedH) (z time : Int) : List ToldD :=
  if h.kind = 1 then rmarkL (putL N ⟨h.path, h.data, ⟨z, z, z, time, time, 0, 0, h.owner, 0, 0⟩⟩) h.path z h.cver
  else if h.kind = 2 then rmarkL (dropL N h.path) h.path z h.cver
  else if h.kind = 3 then rsetL N h z time else N

theorem rchange1 {N : List ToldD} {h : DeedH} {z time : Int} (k : h.kind = 1) : rchangeL N h z time = rmarkL (putL N ⟨h.path, h.data, ⟨z, z, z, time, time, 0, 0, h.owner, 0, 0⟩⟩) h.path z h.cver := by
  unfold rchangeL; rw [if_pos k]

theorem rchange2 {N : List ToldD} {h : DeedH} {z time : Int} (k : h.kind = 2) : rchangeL N h z time = rmarkL (dropL N h.path) h.path z h.cver := by
  unfold rchangeL; rw [if_neg (by omega), if_pos k]

theorem rchange3 {N : List ToldD} {h : DeedH} {z time : Int} (k : h.kind = 3) : rchangeL N h z time = rsetL N h z time := by
  unfold rchangeL; rw [if_neg (by omega), if_neg (by omega), if_pos k]

theorem rchange0 {N : List ToldD} {h : DeedH} {z time : Int} (k1 : ¬ h.kind = 1) (k2 : ¬ h.kind = 2) (k3 : ¬ h.kind = 3) : rchangeL N h z time = N := by
  unfold rchangeL; rw [if_neg k1, if_neg k2, if_neg k3]

def rchangeS : FSpec := ⟨RG × DeedD × Arena × Int × Int, fun g vs A => ∃ cs, vs = [.pointer (some ⟨g.1.r, 0, none⟩), deedV cs, .int .i64 g.2.2.2.1, .int .i64 g.2.2.2.2] ∧ RefAt A g.1.B g.1.O g.1.r g.1.N g.1.S ∧ g.1.N.length ≤ 900000 ∧ DeedR g.2.2.1 g.2.1 cs ∧ Aside A g.2.2.1 g.1.O,
  fun g _ A _ A' => RefTo A g.1.B g.1.O g.1.r (rchangeL g.1.N g.2.1.h g.2.2.2.1 g.2.2.2.2) g.1.S A'⟩

theorem RefTo.of {A B A' B' : Arena} {O O' : Nat → Prop} {r : Nat} {N : List ToldD} {S : List SitD} (h : RefAt A' B' O' r N S) (hK : Kept A O A' O') (hB : B.Sub B') (hn : ∀ k o, B'.blk k = some o → B.blk k = some o ∨ A.blk k = none) : RefTo A B O r N S A' :=
  ⟨B', O', h, hK.keep, hK.dom, hK.own, hB, hn⟩

theorem RefR.more {A B A' : Arena} {O : Nat → Prop} {r : Nat} {l : List (ToldD × Value)} {S : List SitD} {vn vs : Value} {gn gs : Nat} (h : RefR A B O r l S vn vs gn gs) (hs : A.Sub A') : RefR A' B O r l S vn vs gn gs :=
  h.frame (fun k hk => by
    obtain ⟨o, ho⟩ := h.live k hk
    rw [hs k o ho, ho]) (h.sub.trans hs)

theorem putL_len (N : List ToldD) (n : ToldD) : (putL N n).length ≤ N.length + 1 := by
  unfold putL
  have h1 := dropL_len N n.path
  rw [List.length_append, List.length_cons, List.length_take, List.length_drop]
  omega

set_option maxRecDepth 100000 in
set_option maxHeartbeats 0 in
theorem rchange_ok : FOk Tryz.prog 25 rchangeS := by
  refine fok_v mixed fun ⟨⟨N, S, B, O, r⟩, d, C, z, time⟩ vs A hp => ?_
  obtain ⟨cs, rfl, hRef, hN, hR, hAs⟩ : ∃ cs, vs = [.pointer (some ⟨r, 0, none⟩), deedV cs, .int .i64 z, .int .i64 time] ∧ RefAt A B O r N S ∧ N.length ≤ 900000 ∧ DeedR C d cs ∧ Aside A C O := hp
  obtain ⟨⟨zxid, kind, ses, turn, xid, dtime, path, data, owner, ver, cver, tmo, err, cfg, mem⟩, parts⟩ := d
  rw [DeedR] at hR
  dsimp only [DeedH.cells] at hR
  obtain ⟨vd, vm, vp, rws, rfl, hpl, hd1, hM, hSp, hlen2, hRows⟩ := hR
  have hdA := hd1.sub hAs.1
  obtain ⟨⟨a7, k7, rfl, hd7, hdl, hz1, hz2, hz3⟩, hdn⟩ := hdA
  obtain ⟨a14, k14, rfl⟩ := hM.1.form
  obtain ⟨a15, k15, rfl⟩ := hSp.form
  have hC : CTSound Tryz.prog (lookC [specE 56 findS, specE 53 putS, specE 55 dropS, specE 54 rmarkS] noC) := lookC_sound (noC_sound _) (fun x hx => by
    simp only [List.mem_cons, List.not_mem_nil, or_false] at hx
    rcases hx with rfl | rfl | rfl | rfl
    · exact specE_ok find_ok
    · exact specE_ok put_ok
    · exact specE_ok drop_ok
    · exact specE_ok rmark_ok)
  refine ⟨_, noL, 60, hC, noL_sound _, fun blk os out tape D hD => ?_⟩
  conv => lhs; whnf
  refine split_dec (fun k1 => ?_) (fun k1 => ?_) <;> (conv => lhs; whnf)
  · have e2 : ¬ kind = 2 := by omega
    have e3 : ¬ kind = 3 := by omega
    repeat (first | refine go_dec k1 ?_ | refine no_dec e2 ?_ | refine no_dec e3 ?_
            conv => lhs; whnf)
    have hcs : (a7 = none ∧ data.length = 0) ∨ (∃ g7 o7 t7, a7 = some ⟨g7, o7, some t7⟩ ∧ data.length = 0) ∨ ∃ g7 o7, a7 = some ⟨g7, o7, none⟩ := by
      cases a7 with
      | none => exact .inl ⟨rfl, by have := hz1 rfl; omega⟩
      | some a =>
        obtain ⟨g7, o7, sp⟩ := a
        cases sp with
        | none => exact .inr (.inr ⟨g7, o7, rfl⟩)
        | some t7 =>
          refine .inr (.inl ⟨g7, o7, t7, rfl, ?_⟩)
          rcases Nat.eq_zero_or_pos k7 with h | h
          · omega
          · have := hz2 _ rfl h
            cases this
    refine Or.elim hcs (fun e => ?_) (fun e => Or.elim e (fun e => ?_) (fun e => ?_))
    · obtain ⟨e, h0⟩ := e
      subst e
      refine (hD _).2 fun gb A1 hN => ?_
      have hN : A.New A1 gb #[] 5 := hN
      conv => lhs; whnf
      repeat (refine go_D hD rfl ?_
              conv => lhs; whnf)
      refine (hD _).2 ⟨[], data.map bv, rfl, ?_, hdl, fun v hv => (by
        obtain ⟨b, _, rfl⟩ := List.mem_map.1 hv
        rfl), by show 0 + data.length ≤ 9223372036854775807; omega, fun h0 => (by
        rw [nextcap0 h0]
        show data.length * 1 ≤ _
        omega), rfl, fun h => (by cases h), fun _ _ _ h1 h2 => absurd (by
        have : data.length = 0 := by omega
        rw [List.length_eq_zero_iff.1 this]; rfl) h2, fun v A2 hA => ?_⟩
      · show (if data.length = 0 then some [] else none) = _
        rw [if_pos h0, List.length_eq_zero_iff.1 h0]; rfl
      obtain ⟨s2, hS2⟩ := clone_end hN.sub hA hdl
      obtain ⟨ax, cx, hvx⟩ := hS2.form
      subst hvx
      have hRef2 := hRef.more s2
      have hAs2 : Aside A2 (A2.minus A) O := ⟨minus_sub A A2, fun j o hj hO => by
        obtain ⟨l0, vn0, vs0, gn0, gs0, _, h0⟩ := hRef
        obtain ⟨o', ho'⟩ := h0.live j hO
        rw [minus_none _ ho'] at hj; cases hj⟩
      conv => lhs; whnf
      repeat (refine go_D hD rfl ?_
              conv => lhs; whnf)
      refine (hD _).2 ⟨(⟨N, S, B, O, r⟩, ((⟨path, data, ⟨z, z, z, time, time, 0, 0, owner, 0, 0⟩⟩ : ToldD), .slice ax data.length cx), A2.minus A), ⟨rfl, hRef2, by show N.length ≤ 1000000; omega, ⟨hS2, hdn⟩, hAs2⟩, fun v A3 hq => ?_⟩
      have hq : ∃ O', RefAt A3 (B.plus (A2.minus A)) O' r (putL N ⟨path, data, ⟨z, z, z, time, time, 0, 0, owner, 0, 0⟩⟩) S ∧ Kept A2 O A3 O' := hq
      obtain ⟨O3, hR3, hK3⟩ := hq
      have hpll := putL_len N ⟨path, data, ⟨z, z, z, time, time, 0, 0, owner, 0, 0⟩⟩
      conv => lhs; whnf
      repeat (first | refine go_dec k1 ?_ | refine no_dec e2 ?_ | refine no_dec e3 ?_
              conv => lhs; whnf)
      refine (hD _).2 ⟨(⟨putL N ⟨path, data, ⟨z, z, z, time, time, 0, 0, owner, 0, 0⟩⟩, S, B.plus (A2.minus A), O3, r⟩, path, z, cver), ⟨rfl, hR3, by show (putL N ⟨path, data, ⟨z, z, z, time, time, 0, 0, owner, 0, 0⟩⟩).length ≤ 1000000; omega, hpl⟩, fun v A4 hq => ?_⟩
      have hq : ∃ O', RefAt A4 (B.plus (A2.minus A)) O' r (rmarkL (putL N ⟨path, data, ⟨z, z, z, time, time, 0, 0, owner, 0, 0⟩⟩) path z cver) S ∧ Kept A3 O3 A4 O' := hq
      obtain ⟨O4, hR4, hK4⟩ := hq
      have hend : rchangeS.post (⟨N, S, B, O, r⟩, .mk ⟨zxid, kind, ses, turn, xid, dtime, path, data, owner, ver, cver, tmo, err, cfg, mem⟩ parts, C, z, time) [] A (.tuple #[]) A4 := by
        show RefTo A B O r (rchangeL N ⟨zxid, kind, ses, turn, xid, dtime, path, data, owner, ver, cver, tmo, err, cfg, mem⟩ z time) S A4
        rw [rchange1 k1]
        exact RefTo.of hR4 ((Kept.more s2).trans (hK3.trans hK4)) (plus_l _ _) fun j o hj => (plus_cases hj).imp id fun h => (minus_blk h.2).1
      conv => lhs; whnf
      exact (hD _).2 hend
    · obtain ⟨g7, o7, t7, e, h0⟩ := e
      subst e
      refine (hD _).2 fun gb A1 hN => ?_
      have hN : A.New A1 gb #[] 5 := hN
      conv => lhs; whnf
      repeat (refine go_D hD rfl ?_
              conv => lhs; whnf)
      refine (hD _).2 ⟨[], data.map bv, rfl, ?_, hdl, fun v hv => (by
        obtain ⟨b, _, rfl⟩ := List.mem_map.1 hv
        rfl), by show 0 + data.length ≤ 9223372036854775807; omega, fun h0 => (by
        rw [nextcap0 h0]
        show data.length * 1 ≤ _
        omega), rfl, fun h => (by cases h), fun _ _ _ h1 h2 => absurd (by
        have : data.length = 0 := by omega
        rw [List.length_eq_zero_iff.1 this]; rfl) h2, fun v A2 hA => ?_⟩
      · show (if data.length = 0 then some [] else none) = _
        rw [if_pos h0, List.length_eq_zero_iff.1 h0]; rfl
      obtain ⟨s2, hS2⟩ := clone_end hN.sub hA hdl
      obtain ⟨ax, cx, hvx⟩ := hS2.form
      subst hvx
      have hRef2 := hRef.more s2
      have hAs2 : Aside A2 (A2.minus A) O := ⟨minus_sub A A2, fun j o hj hO => by
        obtain ⟨l0, vn0, vs0, gn0, gs0, _, h0⟩ := hRef
        obtain ⟨o', ho'⟩ := h0.live j hO
        rw [minus_none _ ho'] at hj; cases hj⟩
      conv => lhs; whnf
      repeat (refine go_D hD rfl ?_
              conv => lhs; whnf)
      refine (hD _).2 ⟨(⟨N, S, B, O, r⟩, ((⟨path, data, ⟨z, z, z, time, time, 0, 0, owner, 0, 0⟩⟩ : ToldD), .slice ax data.length cx), A2.minus A), ⟨rfl, hRef2, by show N.length ≤ 1000000; omega, ⟨hS2, hdn⟩, hAs2⟩, fun v A3 hq => ?_⟩
      have hq : ∃ O', RefAt A3 (B.plus (A2.minus A)) O' r (putL N ⟨path, data, ⟨z, z, z, time, time, 0, 0, owner, 0, 0⟩⟩) S ∧ Kept A2 O A3 O' := hq
      obtain ⟨O3, hR3, hK3⟩ := hq
      have hpll := putL_len N ⟨path, data, ⟨z, z, z, time, time, 0, 0, owner, 0, 0⟩⟩
      conv => lhs; whnf
      repeat (first | refine go_dec k1 ?_ | refine no_dec e2 ?_ | refine no_dec e3 ?_
              conv => lhs; whnf)
      refine (hD _).2 ⟨(⟨putL N ⟨path, data, ⟨z, z, z, time, time, 0, 0, owner, 0, 0⟩⟩, S, B.plus (A2.minus A), O3, r⟩, path, z, cver), ⟨rfl, hR3, by show (putL N ⟨path, data, ⟨z, z, z, time, time, 0, 0, owner, 0, 0⟩⟩).length ≤ 1000000; omega, hpl⟩, fun v A4 hq => ?_⟩
      have hq : ∃ O', RefAt A4 (B.plus (A2.minus A)) O' r (rmarkL (putL N ⟨path, data, ⟨z, z, z, time, time, 0, 0, owner, 0, 0⟩⟩) path z cver) S ∧ Kept A3 O3 A4 O' := hq
      obtain ⟨O4, hR4, hK4⟩ := hq
      have hend : rchangeS.post (⟨N, S, B, O, r⟩, .mk ⟨zxid, kind, ses, turn, xid, dtime, path, data, owner, ver, cver, tmo, err, cfg, mem⟩ parts, C, z, time) [] A (.tuple #[]) A4 := by
        show RefTo A B O r (rchangeL N ⟨zxid, kind, ses, turn, xid, dtime, path, data, owner, ver, cver, tmo, err, cfg, mem⟩ z time) S A4
        rw [rchange1 k1]
        exact RefTo.of hR4 ((Kept.more s2).trans (hK3.trans hK4)) (plus_l _ _) fun j o hj => (plus_cases hj).imp id fun h => (minus_blk h.2).1
      conv => lhs; whnf
      exact (hD _).2 hend
    · obtain ⟨g7, o7, e⟩ := e
      subst e
      refine (hD _).2 fun gb A1 hN => ?_
      have hN : A.New A1 gb #[] 5 := hN
      conv => lhs; whnf
      repeat (refine go_D hD rfl ?_
              conv => lhs; whnf)
      refine (hD _).2 ⟨[], data.map bv, rfl, ?_, hdl, fun v hv => (by
        obtain ⟨b, _, rfl⟩ := List.mem_map.1 hv
        rfl), by show 0 + data.length ≤ 9223372036854775807; omega, fun h0 => (by
        rw [nextcap0 h0]
        show data.length * 1 ≤ _
        omega), rfl, fun h => (by cases h), fun _ _ _ h1 h2 => absurd (by
        have : data.length = 0 := by omega
        rw [List.length_eq_zero_iff.1 this]; rfl) h2, fun v A2 hA => ?_⟩
      · show (if data.length = 0 then some [] else A1.rd g7 o7 (data.length * 1)) = _
        by_cases h0 : data.length = 0
        · rw [if_pos h0, List.length_eq_zero_iff.1 h0]; rfl
        · rw [if_neg h0]; exact rd_sub hN.sub (hz3 (by omega) _ rfl)
      obtain ⟨s2, hS2⟩ := clone_end hN.sub hA hdl
      obtain ⟨ax, cx, hvx⟩ := hS2.form
      subst hvx
      have hRef2 := hRef.more s2
      have hAs2 : Aside A2 (A2.minus A) O := ⟨minus_sub A A2, fun j o hj hO => by
        obtain ⟨l0, vn0, vs0, gn0, gs0, _, h0⟩ := hRef
        obtain ⟨o', ho'⟩ := h0.live j hO
        rw [minus_none _ ho'] at hj; cases hj⟩
      conv => lhs; whnf
      repeat (refine go_D hD rfl ?_
              conv => lhs; whnf)
      refine (hD _).2 ⟨(⟨N, S, B, O, r⟩, ((⟨path, data, ⟨z, z, z, time, time, 0, 0, owner, 0, 0⟩⟩ : ToldD), .slice ax data.length cx), A2.minus A), ⟨rfl, hRef2, by show N.length ≤ 1000000; omega, ⟨hS2, hdn⟩, hAs2⟩, fun v A3 hq => ?_⟩
      have hq : ∃ O', RefAt A3 (B.plus (A2.minus A)) O' r (putL N ⟨path, data, ⟨z, z, z, time, time, 0, 0, owner, 0, 0⟩⟩) S ∧ Kept A2 O A3 O' := hq
      obtain ⟨O3, hR3, hK3⟩ := hq
      have hpll := putL_len N ⟨path, data, ⟨z, z, z, time, time, 0, 0, owner, 0, 0⟩⟩
      conv => lhs; whnf
      repeat (first | refine go_dec k1 ?_ | refine no_dec e2 ?_ | refine no_dec e3 ?_
              conv => lhs; whnf)
      refine (hD _).2 ⟨(⟨putL N ⟨path, data, ⟨z, z, z, time, time, 0, 0, owner, 0, 0⟩⟩, S, B.plus (A2.minus A), O3, r⟩, path, z, cver), ⟨rfl, hR3, by show (putL N ⟨path, data, ⟨z, z, z, time, time, 0, 0, owner, 0, 0⟩⟩).length ≤ 1000000; omega, hpl⟩, fun v A4 hq => ?_⟩
      have hq : ∃ O', RefAt A4 (B.plus (A2.minus A)) O' r (rmarkL (putL N ⟨path, data, ⟨z, z, z, time, time, 0, 0, owner, 0, 0⟩⟩) path z cver) S ∧ Kept A3 O3 A4 O' := hq
      obtain ⟨O4, hR4, hK4⟩ := hq
      have hend : rchangeS.post (⟨N, S, B, O, r⟩, .mk ⟨zxid, kind, ses, turn, xid, dtime, path, data, owner, ver, cver, tmo, err, cfg, mem⟩ parts, C, z, time) [] A (.tuple #[]) A4 := by
        show RefTo A B O r (rchangeL N ⟨zxid, kind, ses, turn, xid, dtime, path, data, owner, ver, cver, tmo, err, cfg, mem⟩ z time) S A4
        rw [rchange1 k1]
        exact RefTo.of hR4 ((Kept.more s2).trans (hK3.trans hK4)) (plus_l _ _) fun j o hj => (plus_cases hj).imp id fun h => (minus_blk h.2).1
      conv => lhs; whnf
      exact (hD _).2 hend
  refine split_dec (fun k2 => ?_) (fun k2 => ?_) <;> (conv => lhs; whnf)
  · have e3 : ¬ kind = 3 := by omega
    repeat (first | refine no_dec k1 ?_ | refine go_dec k2 ?_ | refine no_dec e3 ?_
            conv => lhs; whnf)
    refine (hD _).2 ⟨(⟨N, S, B, O, r⟩, path), ⟨rfl, hRef, by show N.length ≤ 1000000; omega⟩, fun v A1 hq => ?_⟩
    have hq : ∃ O', RefAt A1 B O' r (dropL N path) S ∧ Kept A O A1 O' := hq
    obtain ⟨O1, hR1, hK1⟩ := hq
    have hdl := dropL_len N path
    conv => lhs; whnf
    repeat (first | refine no_dec k1 ?_ | refine go_dec k2 ?_ | refine no_dec e3 ?_
            conv => lhs; whnf)
    refine (hD _).2 ⟨(⟨dropL N path, S, B, O1, r⟩, path, z, cver), ⟨rfl, hR1, by show (dropL N path).length ≤ 1000000; omega, hpl⟩, fun v A2 hq => ?_⟩
    have hq : ∃ O', RefAt A2 B O' r (rmarkL (dropL N path) path z cver) S ∧ Kept A1 O1 A2 O' := hq
    obtain ⟨O2, hR2, hK2⟩ := hq
    have hend : rchangeS.post (⟨N, S, B, O, r⟩, .mk ⟨zxid, kind, ses, turn, xid, dtime, path, data, owner, ver, cver, tmo, err, cfg, mem⟩ parts, C, z, time) [] A (.tuple #[]) A2 := by
      show RefTo A B O r (rchangeL N ⟨zxid, kind, ses, turn, xid, dtime, path, data, owner, ver, cver, tmo, err, cfg, mem⟩ z time) S A2
      rw [rchange2 k2]
      exact RefTo.of hR2 (hK1.trans hK2) (Arena.Sub.refl _) fun k o hk => .inl hk
    conv => lhs; whnf
    exact (hD _).2 hend
  refine split_dec (fun k3 => ?_) (fun k3 => ?_) <;> (conv => lhs; whnf)
  · refine (hD _).2 ⟨(⟨N, S, B, O, r⟩, path), ⟨rfl, hRef, by show N.length ≤ 1000000; omega⟩, fun v A9 hq => ?_⟩
    have hq : A9 = A ∧ v = .int .i64 (findI N path) := hq
    have h9 := hq.1.symm
    have hv := hq.2
    subst h9
    by_cases hf : findI N path < 0
    · subst hv
      have hend : rchangeS.post (⟨N, S, B, O, r⟩, .mk ⟨zxid, kind, ses, turn, xid, dtime, path, data, owner, ver, cver, tmo, err, cfg, mem⟩ parts, C, z, time) [] A (.tuple #[]) A := by
        show RefTo A B O r (rchangeL N ⟨zxid, kind, ses, turn, xid, dtime, path, data, owner, ver, cver, tmo, err, cfg, mem⟩ z time) S A
        rw [rchange3 k3, rsetL, if_pos hf]
        exact RefTo.of hRef (Kept.refl _ _) (Arena.Sub.refl _) fun k o hk => .inl hk
      conv => lhs; whnf
      repeat (first | refine no_dec k1 ?_ | refine no_dec k2 ?_ | refine go_dec k3 ?_
              conv => lhs; whnf)
      refine no_dec (show ¬ 0 ≤ findI N path by omega) ?_
      conv => lhs; whnf
      exact (hD _).2 hend
    obtain ⟨k, hk, hfk⟩ := findI_lt hf
    rw [hfk] at hv
    subst hv
    obtain ⟨l, vn, vs', gn, gs, hl, h⟩ := hRef
    have hll : l.length = N.length := by rw [← hl, List.length_map]
    have hkl : k < l.length := by omega
    have hpos : 0 < l.length := by omega
    obtain ⟨_, ao, c, hvn, hc, hy1, hy2, hy3⟩ := h.nrow
    obtain ⟨e, cc, h8, h9, h10⟩ := hy3 hpos
    subst e
    subst hvn
    have htop : A.rd r 0 1 = some [.slice (some ⟨gn, 0, none⟩) l.length c] := h.top.rd (o := 0) (n := 1) (by show 0 + 1 ≤ 2; omega)
    have i0 : (0 : Int) ≤ (k : Int) ∧ (k : Int) < (l.length : Int) := by omega
    have ik : (0 : Int) ≤ (k : Int) := by omega
    have hkn : k * 12 + 12 ≤ l.length * 12 := by omega
    obtain ⟨⟨⟨xp, xd, ⟨q1, q2, q3, q4, q5, q6, q7, q8, q9, q10⟩⟩, xv⟩, hx⟩ : ∃ x, x = l[k] := ⟨_, rfl⟩
    conv => lhs; whnf
    repeat (first | refine no_dec k1 ?_ | refine no_dec k2 ?_ | refine go_dec k3 ?_ | refine go_dec ik ?_ | refine go_rd htop ?_ | refine go_in i0 ?_
            conv => lhs; whnf)
    have hcs : (a7 = none ∧ data.length = 0) ∨ (∃ g7 o7 t7, a7 = some ⟨g7, o7, some t7⟩ ∧ data.length = 0) ∨ ∃ g7 o7, a7 = some ⟨g7, o7, none⟩ := by
      cases a7 with
      | none => exact .inl ⟨rfl, by have := hz1 rfl; omega⟩
      | some a =>
        obtain ⟨g7, o7, sp⟩ := a
        cases sp with
        | none => exact .inr (.inr ⟨g7, o7, rfl⟩)
        | some t7 =>
          refine .inr (.inl ⟨g7, o7, t7, rfl, ?_⟩)
          rcases Nat.eq_zero_or_pos k7 with hh | hh
          · omega
          · have := hz2 _ rfl hh
            cases this
    refine Or.elim hcs (fun e => ?_) (fun e => Or.elim e (fun e => ?_) (fun e => ?_))
    · obtain ⟨e, h0⟩ := e
      subst e
      refine (hD _).2 fun gb A1 hNw => ?_
      have hNw : A.New A1 gb #[] 5 := hNw
      have htop1 := rd_sub hNw.sub htop
      conv => lhs; whnf
      repeat (first | refine go_D hD rfl ?_ | refine go_rd htop1 ?_ | refine go_in i0 ?_
              conv => lhs; whnf)
      refine (hD _).2 ⟨[], data.map bv, rfl, ?_, hdl, fun v hv => (by
        obtain ⟨b, _, rfl⟩ := List.mem_map.1 hv
        rfl), by show 0 + data.length ≤ 9223372036854775807; omega, fun h0 => (by
        rw [nextcap0 h0]
        show data.length * 1 ≤ _
        omega), rfl, fun h => (by cases h), fun _ _ _ h1 h2 => absurd (by
        have : data.length = 0 := by omega
        rw [List.length_eq_zero_iff.1 this]; rfl) h2, fun v A2 hA => ?_⟩
      · show (if data.length = 0 then some [] else none) = _
        rw [if_pos h0, List.length_eq_zero_iff.1 h0]; rfl
      obtain ⟨s2, hS2⟩ := clone_end hNw.sub hA hdl
      obtain ⟨ax, cx, hvx⟩ := hS2.form
      subst hvx
      have h2 := h.more s2
      have htop2 := rd_sub s2 htop
      have hroom : A2.Room gn (0 + k * 12 + 1) 1 := h2.room hkl (i := 1) (by omega) rfl
      have hBs : (B.plus (A2.minus A)).Sub A2 := fun j o hj => by
        rcases plus_cases hj with hh | hh
        · exact s2 j o (h.sub j o hh)
        · exact (minus_blk hh.2).2
      have hoff : ∀ j, O j → (B.plus (A2.minus A)).blk j = none := fun j hj => by
        cases hb : (B.plus (A2.minus A)).blk j with
        | none => rfl
        | some o =>
          rcases plus_cases hb with hh | hh
          · rw [h.off j hj] at hh; cases hh
          · obtain ⟨o', ho'⟩ := h.live j hj
            rw [minus_none _ ho'] at hh; cases hh.2
      conv => lhs; whnf
      repeat (first | refine go_D hD rfl ?_ | refine go_rd htop2 ?_ | refine go_in i0 ?_
              conv => lhs; whnf)
      refine (hD _).2 ⟨hroom, fun A3 hP3 => ?_⟩
      have hP3 : A2.Put A3 gn (0 + k * 12 + 1) [.slice ax data.length cx] := hP3
      obtain ⟨hT3, hK3⟩ := h2.turnG (B' := B.plus (A2.minus A)) (plus_l _ _) hBs hoff hkl (i := 1) (by omega) (w := .slice ax data.length cx) (x' := (⟨xp, data, ⟨q1, q2, q3, q4, q5, q6, q7, q8, q9, q10⟩⟩, .slice ax data.length cx)) (by rw [← hx]; rfl) ⟨hS2.sub (plus_r (minus_apart h.sub)), hdn⟩ hP3
      have htop3 : A3.rd r 0 1 = some [.slice (some ⟨gn, 0, none⟩) l.length c] := hT3.top.rd (o := 0) (n := 1) (by show 0 + 1 ≤ 2; omega)
      have hk3 : k < (l.set k ((⟨xp, data, ⟨q1, q2, q3, q4, q5, q6, q7, q8, q9, q10⟩⟩ : ToldD), Value.slice ax data.length cx)).length := by rw [List.length_set]; exact hkl
      have hroom3 : A3.Room gn (0 + k * 12 + 2 + 1) 1 := hT3.room hk3 (i := 3) (by omega) rfl
      conv => lhs; whnf
      repeat (first | refine go_D hD rfl ?_ | refine go_rd htop3 ?_ | refine go_in i0 ?_
              conv => lhs; whnf)
      refine (hD _).2 ⟨hroom3, fun A4 hP4 => ?_⟩
      have hP4 : A3.Put A4 gn (0 + k * 12 + 3) [.int .i64 z] := hP4
      obtain ⟨hT4, hK4⟩ := hT3.turn hk3 (i := 3) (by omega) (w := .int .i64 z) (x' := (⟨xp, data, ⟨q1, z, q3, q4, q5, q6, q7, q8, q9, q10⟩⟩, .slice ax data.length cx)) (by rw [List.getElem_set_self]; rfl) (by rw [List.getElem_set_self]) (by rw [List.getElem_set_self]) hP4
      have htop4 : A4.rd r 0 1 = some [.slice (some ⟨gn, 0, none⟩) l.length c] := hT4.top.rd (o := 0) (n := 1) (by show 0 + 1 ≤ 2; omega)
      rw [List.set_set] at hT4
      have hk4 : k < (l.set k ((⟨xp, data, ⟨q1, z, q3, q4, q5, q6, q7, q8, q9, q10⟩⟩ : ToldD), Value.slice ax data.length cx)).length := by rw [List.length_set]; exact hkl
      have hroom4 : A4.Room gn (0 + k * 12 + 2 + 4) 1 := hT4.room hk4 (i := 6) (by omega) rfl
      conv => lhs; whnf
      repeat (first | refine go_D hD rfl ?_ | refine go_rd htop4 ?_ | refine go_in i0 ?_
              conv => lhs; whnf)
      refine (hD _).2 ⟨hroom4, fun A5 hP5 => ?_⟩
      have hP5 : A4.Put A5 gn (0 + k * 12 + 6) [.int .i64 time] := hP5
      obtain ⟨hT5, hK5⟩ := hT4.turn hk4 (i := 6) (by omega) (w := .int .i64 time) (x' := (⟨xp, data, ⟨q1, z, q3, q4, time, q6, q7, q8, q9, q10⟩⟩, .slice ax data.length cx)) (by rw [List.getElem_set_self]; rfl) (by rw [List.getElem_set_self]) (by rw [List.getElem_set_self]) hP5
      have htop5 : A5.rd r 0 1 = some [.slice (some ⟨gn, 0, none⟩) l.length c] := hT5.top.rd (o := 0) (n := 1) (by show 0 + 1 ≤ 2; omega)
      rw [List.set_set] at hT5
      have hk5 : k < (l.set k ((⟨xp, data, ⟨q1, z, q3, q4, time, q6, q7, q8, q9, q10⟩⟩ : ToldD), Value.slice ax data.length cx)).length := by rw [List.length_set]; exact hkl
      have hroom5 : A5.Room gn (0 + k * 12 + 2 + 5) 1 := hT5.room hk5 (i := 7) (by omega) rfl
      conv => lhs; whnf
      repeat (first | refine go_D hD rfl ?_ | refine go_rd htop5 ?_ | refine go_in i0 ?_
              conv => lhs; whnf)
      refine (hD _).2 ⟨hroom5, fun A6 hP6 => ?_⟩
      have hP6 : A5.Put A6 gn (0 + k * 12 + 7) [.int .i64 ver] := hP6
      obtain ⟨hT6, hK6⟩ := hT5.turn hk5 (i := 7) (by omega) (w := .int .i64 ver) (x' := (⟨xp, data, ⟨q1, z, q3, q4, time, ver, q7, q8, q9, q10⟩⟩, .slice ax data.length cx)) (by rw [List.getElem_set_self]; rfl) (by rw [List.getElem_set_self]) (by rw [List.getElem_set_self]) hP6
      rw [List.set_set] at hT6
      have hend : rchangeS.post (⟨N, S, B, O, r⟩, .mk ⟨zxid, kind, ses, turn, xid, dtime, path, data, owner, ver, cver, tmo, err, cfg, mem⟩ parts, C, z, time) [] A (.tuple #[]) A6 := by
        show RefTo A B O r (rchangeL N ⟨zxid, kind, ses, turn, xid, dtime, path, data, owner, ver, cver, tmo, err, cfg, mem⟩ z time) S A6
        rw [rchange3 k3]
        refine RefTo.of (O' := O) ⟨_, _, _, _, _, ?_, hT6⟩ ((Kept.more s2).trans (hK3.trans (hK4.trans (hK5.trans hK6)))) (plus_l _ _) fun j o hj => (plus_cases hj).imp id fun h => (minus_blk h.2).1
        rw [rsetL, if_neg hf, hfk, Int.toNat_natCast, List.map_set, hl]
        have e2 : N[k]? = some ⟨xp, xd, ⟨q1, q2, q3, q4, q5, q6, q7, q8, q9, q10⟩⟩ := by
          rw [← hl, List.getElem?_map, List.getElem?_eq_getElem hkl, ← hx]; rfl
        rw [e2]
        rfl
      conv => lhs; whnf
      exact (hD _).2 hend
    · obtain ⟨g7, o7, t7, e, h0⟩ := e
      subst e
      refine (hD _).2 fun gb A1 hNw => ?_
      have hNw : A.New A1 gb #[] 5 := hNw
      have htop1 := rd_sub hNw.sub htop
      conv => lhs; whnf
      repeat (first | refine go_D hD rfl ?_ | refine go_rd htop1 ?_ | refine go_in i0 ?_
              conv => lhs; whnf)
      refine (hD _).2 ⟨[], data.map bv, rfl, ?_, hdl, fun v hv => (by
        obtain ⟨b, _, rfl⟩ := List.mem_map.1 hv
        rfl), by show 0 + data.length ≤ 9223372036854775807; omega, fun h0 => (by
        rw [nextcap0 h0]
        show data.length * 1 ≤ _
        omega), rfl, fun h => (by cases h), fun _ _ _ h1 h2 => absurd (by
        have : data.length = 0 := by omega
        rw [List.length_eq_zero_iff.1 this]; rfl) h2, fun v A2 hA => ?_⟩
      · show (if data.length = 0 then some [] else none) = _
        rw [if_pos h0, List.length_eq_zero_iff.1 h0]; rfl
      obtain ⟨s2, hS2⟩ := clone_end hNw.sub hA hdl
      obtain ⟨ax, cx, hvx⟩ := hS2.form
      subst hvx
      have h2 := h.more s2
      have htop2 := rd_sub s2 htop
      have hroom : A2.Room gn (0 + k * 12 + 1) 1 := h2.room hkl (i := 1) (by omega) rfl
      have hBs : (B.plus (A2.minus A)).Sub A2 := fun j o hj => by
        rcases plus_cases hj with hh | hh
        · exact s2 j o (h.sub j o hh)
        · exact (minus_blk hh.2).2
      have hoff : ∀ j, O j → (B.plus (A2.minus A)).blk j = none := fun j hj => by
        cases hb : (B.plus (A2.minus A)).blk j with
        | none => rfl
        | some o =>
          rcases plus_cases hb with hh | hh
          · rw [h.off j hj] at hh; cases hh
          · obtain ⟨o', ho'⟩ := h.live j hj
            rw [minus_none _ ho'] at hh; cases hh.2
      conv => lhs; whnf
      repeat (first | refine go_D hD rfl ?_ | refine go_rd htop2 ?_ | refine go_in i0 ?_
              conv => lhs; whnf)
      refine (hD _).2 ⟨hroom, fun A3 hP3 => ?_⟩
      have hP3 : A2.Put A3 gn (0 + k * 12 + 1) [.slice ax data.length cx] := hP3
      obtain ⟨hT3, hK3⟩ := h2.turnG (B' := B.plus (A2.minus A)) (plus_l _ _) hBs hoff hkl (i := 1) (by omega) (w := .slice ax data.length cx) (x' := (⟨xp, data, ⟨q1, q2, q3, q4, q5, q6, q7, q8, q9, q10⟩⟩, .slice ax data.length cx)) (by rw [← hx]; rfl) ⟨hS2.sub (plus_r (minus_apart h.sub)), hdn⟩ hP3
      have htop3 : A3.rd r 0 1 = some [.slice (some ⟨gn, 0, none⟩) l.length c] := hT3.top.rd (o := 0) (n := 1) (by show 0 + 1 ≤ 2; omega)
      have hk3 : k < (l.set k ((⟨xp, data, ⟨q1, q2, q3, q4, q5, q6, q7, q8, q9, q10⟩⟩ : ToldD), Value.slice ax data.length cx)).length := by rw [List.length_set]; exact hkl
      have hroom3 : A3.Room gn (0 + k * 12 + 2 + 1) 1 := hT3.room hk3 (i := 3) (by omega) rfl
      conv => lhs; whnf
      repeat (first | refine go_D hD rfl ?_ | refine go_rd htop3 ?_ | refine go_in i0 ?_
              conv => lhs; whnf)
      refine (hD _).2 ⟨hroom3, fun A4 hP4 => ?_⟩
      have hP4 : A3.Put A4 gn (0 + k * 12 + 3) [.int .i64 z] := hP4
      obtain ⟨hT4, hK4⟩ := hT3.turn hk3 (i := 3) (by omega) (w := .int .i64 z) (x' := (⟨xp, data, ⟨q1, z, q3, q4, q5, q6, q7, q8, q9, q10⟩⟩, .slice ax data.length cx)) (by rw [List.getElem_set_self]; rfl) (by rw [List.getElem_set_self]) (by rw [List.getElem_set_self]) hP4
      have htop4 : A4.rd r 0 1 = some [.slice (some ⟨gn, 0, none⟩) l.length c] := hT4.top.rd (o := 0) (n := 1) (by show 0 + 1 ≤ 2; omega)
      rw [List.set_set] at hT4
      have hk4 : k < (l.set k ((⟨xp, data, ⟨q1, z, q3, q4, q5, q6, q7, q8, q9, q10⟩⟩ : ToldD), Value.slice ax data.length cx)).length := by rw [List.length_set]; exact hkl
      have hroom4 : A4.Room gn (0 + k * 12 + 2 + 4) 1 := hT4.room hk4 (i := 6) (by omega) rfl
      conv => lhs; whnf
      repeat (first | refine go_D hD rfl ?_ | refine go_rd htop4 ?_ | refine go_in i0 ?_
              conv => lhs; whnf)
      refine (hD _).2 ⟨hroom4, fun A5 hP5 => ?_⟩
      have hP5 : A4.Put A5 gn (0 + k * 12 + 6) [.int .i64 time] := hP5
      obtain ⟨hT5, hK5⟩ := hT4.turn hk4 (i := 6) (by omega) (w := .int .i64 time) (x' := (⟨xp, data, ⟨q1, z, q3, q4, time, q6, q7, q8, q9, q10⟩⟩, .slice ax data.length cx)) (by rw [List.getElem_set_self]; rfl) (by rw [List.getElem_set_self]) (by rw [List.getElem_set_self]) hP5
      have htop5 : A5.rd r 0 1 = some [.slice (some ⟨gn, 0, none⟩) l.length c] := hT5.top.rd (o := 0) (n := 1) (by show 0 + 1 ≤ 2; omega)
      rw [List.set_set] at hT5
      have hk5 : k < (l.set k ((⟨xp, data, ⟨q1, z, q3, q4, time, q6, q7, q8, q9, q10⟩⟩ : ToldD), Value.slice ax data.length cx)).length := by rw [List.length_set]; exact hkl
      have hroom5 : A5.Room gn (0 + k * 12 + 2 + 5) 1 := hT5.room hk5 (i := 7) (by omega) rfl
      conv => lhs; whnf
      repeat (first | refine go_D hD rfl ?_ | refine go_rd htop5 ?_ | refine go_in i0 ?_
              conv => lhs; whnf)
      refine (hD _).2 ⟨hroom5, fun A6 hP6 => ?_⟩
      have hP6 : A5.Put A6 gn (0 + k * 12 + 7) [.int .i64 ver] := hP6
      obtain ⟨hT6, hK6⟩ := hT5.turn hk5 (i := 7) (by omega) (w := .int .i64 ver) (x' := (⟨xp, data, ⟨q1, z, q3, q4, time, ver, q7, q8, q9, q10⟩⟩, .slice ax data.length cx)) (by rw [List.getElem_set_self]; rfl) (by rw [List.getElem_set_self]) (by rw [List.getElem_set_self]) hP6
      rw [List.set_set] at hT6
      have hend : rchangeS.post (⟨N, S, B, O, r⟩, .mk ⟨zxid, kind, ses, turn, xid, dtime, path, data, owner, ver, cver, tmo, err, cfg, mem⟩ parts, C, z, time) [] A (.tuple #[]) A6 := by
        show RefTo A B O r (rchangeL N ⟨zxid, kind, ses, turn, xid, dtime, path, data, owner, ver, cver, tmo, err, cfg, mem⟩ z time) S A6
        rw [rchange3 k3]
        refine RefTo.of (O' := O) ⟨_, _, _, _, _, ?_, hT6⟩ ((Kept.more s2).trans (hK3.trans (hK4.trans (hK5.trans hK6)))) (plus_l _ _) fun j o hj => (plus_cases hj).imp id fun h => (minus_blk h.2).1
        rw [rsetL, if_neg hf, hfk, Int.toNat_natCast, List.map_set, hl]
        have e2 : N[k]? = some ⟨xp, xd, ⟨q1, q2, q3, q4, q5, q6, q7, q8, q9, q10⟩⟩ := by
          rw [← hl, List.getElem?_map, List.getElem?_eq_getElem hkl, ← hx]; rfl
        rw [e2]
        rfl
      conv => lhs; whnf
      exact (hD _).2 hend
    · obtain ⟨g7, o7, e⟩ := e
      subst e
      refine (hD _).2 fun gb A1 hNw => ?_
      have hNw : A.New A1 gb #[] 5 := hNw
      have htop1 := rd_sub hNw.sub htop
      conv => lhs; whnf
      repeat (first | refine go_D hD rfl ?_ | refine go_rd htop1 ?_ | refine go_in i0 ?_
              conv => lhs; whnf)
      refine (hD _).2 ⟨[], data.map bv, rfl, ?_, hdl, fun v hv => (by
        obtain ⟨b, _, rfl⟩ := List.mem_map.1 hv
        rfl), by show 0 + data.length ≤ 9223372036854775807; omega, fun h0 => (by
        rw [nextcap0 h0]
        show data.length * 1 ≤ _
        omega), rfl, fun h => (by cases h), fun _ _ _ h1 h2 => absurd (by
        have : data.length = 0 := by omega
        rw [List.length_eq_zero_iff.1 this]; rfl) h2, fun v A2 hA => ?_⟩
      · show (if data.length = 0 then some [] else A1.rd g7 o7 (data.length * 1)) = _
        by_cases h0 : data.length = 0
        · rw [if_pos h0, List.length_eq_zero_iff.1 h0]; rfl
        · rw [if_neg h0]; exact rd_sub hNw.sub (hz3 (by omega) _ rfl)
      obtain ⟨s2, hS2⟩ := clone_end hNw.sub hA hdl
      obtain ⟨ax, cx, hvx⟩ := hS2.form
      subst hvx
      have h2 := h.more s2
      have htop2 := rd_sub s2 htop
      have hroom : A2.Room gn (0 + k * 12 + 1) 1 := h2.room hkl (i := 1) (by omega) rfl
      have hBs : (B.plus (A2.minus A)).Sub A2 := fun j o hj => by
        rcases plus_cases hj with hh | hh
        · exact s2 j o (h.sub j o hh)
        · exact (minus_blk hh.2).2
      have hoff : ∀ j, O j → (B.plus (A2.minus A)).blk j = none := fun j hj => by
        cases hb : (B.plus (A2.minus A)).blk j with
        | none => rfl
        | some o =>
          rcases plus_cases hb with hh | hh
          · rw [h.off j hj] at hh; cases hh
          · obtain ⟨o', ho'⟩ := h.live j hj
            rw [minus_none _ ho'] at hh; cases hh.2
      conv => lhs; whnf
      repeat (first | refine go_D hD rfl ?_ | refine go_rd htop2 ?_ | refine go_in i0 ?_
              conv => lhs; whnf)
      refine (hD _).2 ⟨hroom, fun A3 hP3 => ?_⟩
      have hP3 : A2.Put A3 gn (0 + k * 12 + 1) [.slice ax data.length cx] := hP3
      obtain ⟨hT3, hK3⟩ := h2.turnG (B' := B.plus (A2.minus A)) (plus_l _ _) hBs hoff hkl (i := 1) (by omega) (w := .slice ax data.length cx) (x' := (⟨xp, data, ⟨q1, q2, q3, q4, q5, q6, q7, q8, q9, q10⟩⟩, .slice ax data.length cx)) (by rw [← hx]; rfl) ⟨hS2.sub (plus_r (minus_apart h.sub)), hdn⟩ hP3
      have htop3 : A3.rd r 0 1 = some [.slice (some ⟨gn, 0, none⟩) l.length c] := hT3.top.rd (o := 0) (n := 1) (by show 0 + 1 ≤ 2; omega)
      have hk3 : k < (l.set k ((⟨xp, data, ⟨q1, q2, q3, q4, q5, q6, q7, q8, q9, q10⟩⟩ : ToldD), Value.slice ax data.length cx)).length := by rw [List.length_set]; exact hkl
      have hroom3 : A3.Room gn (0 + k * 12 + 2 + 1) 1 := hT3.room hk3 (i := 3) (by omega) rfl
      conv => lhs; whnf
      repeat (first | refine go_D hD rfl ?_ | refine go_rd htop3 ?_ | refine go_in i0 ?_
              conv => lhs; whnf)
      refine (hD _).2 ⟨hroom3, fun A4 hP4 => ?_⟩
      have hP4 : A3.Put A4 gn (0 + k * 12 + 3) [.int .i64 z] := hP4
      obtain ⟨hT4, hK4⟩ := hT3.turn hk3 (i := 3) (by omega) (w := .int .i64 z) (x' := (⟨xp, data, ⟨q1, z, q3, q4, q5, q6, q7, q8, q9, q10⟩⟩, .slice ax data.length cx)) (by rw [List.getElem_set_self]; rfl) (by rw [List.getElem_set_self]) (by rw [List.getElem_set_self]) hP4
      have htop4 : A4.rd r 0 1 = some [.slice (some ⟨gn, 0, none⟩) l.length c] := hT4.top.rd (o := 0) (n := 1) (by show 0 + 1 ≤ 2; omega)
      rw [List.set_set] at hT4
      have hk4 : k < (l.set k ((⟨xp, data, ⟨q1, z, q3, q4, q5, q6, q7, q8, q9, q10⟩⟩ : ToldD), Value.slice ax data.length cx)).length := by rw [List.length_set]; exact hkl
      have hroom4 : A4.Room gn (0 + k * 12 + 2 + 4) 1 := hT4.room hk4 (i := 6) (by omega) rfl
      conv => lhs; whnf
      repeat (first | refine go_D hD rfl ?_ | refine go_rd htop4 ?_ | refine go_in i0 ?_
              conv => lhs; whnf)
      refine (hD _).2 ⟨hroom4, fun A5 hP5 => ?_⟩
      have hP5 : A4.Put A5 gn (0 + k * 12 + 6) [.int .i64 time] := hP5
      obtain ⟨hT5, hK5⟩ := hT4.turn hk4 (i := 6) (by omega) (w := .int .i64 time) (x' := (⟨xp, data, ⟨q1, z, q3, q4, time, q6, q7, q8, q9, q10⟩⟩, .slice ax data.length cx)) (by rw [List.getElem_set_self]; rfl) (by rw [List.getElem_set_self]) (by rw [List.getElem_set_self]) hP5
      have htop5 : A5.rd r 0 1 = some [.slice (some ⟨gn, 0, none⟩) l.length c] := hT5.top.rd (o := 0) (n := 1) (by show 0 + 1 ≤ 2; omega)
      rw [List.set_set] at hT5
      have hk5 : k < (l.set k ((⟨xp, data, ⟨q1, z, q3, q4, time, q6, q7, q8, q9, q10⟩⟩ : ToldD), Value.slice ax data.length cx)).length := by rw [List.length_set]; exact hkl
      have hroom5 : A5.Room gn (0 + k * 12 + 2 + 5) 1 := hT5.room hk5 (i := 7) (by omega) rfl
      conv => lhs; whnf
      repeat (first | refine go_D hD rfl ?_ | refine go_rd htop5 ?_ | refine go_in i0 ?_
              conv => lhs; whnf)
      refine (hD _).2 ⟨hroom5, fun A6 hP6 => ?_⟩
      have hP6 : A5.Put A6 gn (0 + k * 12 + 7) [.int .i64 ver] := hP6
      obtain ⟨hT6, hK6⟩ := hT5.turn hk5 (i := 7) (by omega) (w := .int .i64 ver) (x' := (⟨xp, data, ⟨q1, z, q3, q4, time, ver, q7, q8, q9, q10⟩⟩, .slice ax data.length cx)) (by rw [List.getElem_set_self]; rfl) (by rw [List.getElem_set_self]) (by rw [List.getElem_set_self]) hP6
      rw [List.set_set] at hT6
      have hend : rchangeS.post (⟨N, S, B, O, r⟩, .mk ⟨zxid, kind, ses, turn, xid, dtime, path, data, owner, ver, cver, tmo, err, cfg, mem⟩ parts, C, z, time) [] A (.tuple #[]) A6 := by
        show RefTo A B O r (rchangeL N ⟨zxid, kind, ses, turn, xid, dtime, path, data, owner, ver, cver, tmo, err, cfg, mem⟩ z time) S A6
        rw [rchange3 k3]
        refine RefTo.of (O' := O) ⟨_, _, _, _, _, ?_, hT6⟩ ((Kept.more s2).trans (hK3.trans (hK4.trans (hK5.trans hK6)))) (plus_l _ _) fun j o hj => (plus_cases hj).imp id fun h => (minus_blk h.2).1
        rw [rsetL, if_neg hf, hfk, Int.toNat_natCast, List.map_set, hl]
        have e2 : N[k]? = some ⟨xp, xd, ⟨q1, q2, q3, q4, q5, q6, q7, q8, q9, q10⟩⟩ := by
          rw [← hl, List.getElem?_map, List.getElem?_eq_getElem hkl, ← hx]; rfl
        rw [e2]
        rfl
      conv => lhs; whnf
      exact (hD _).2 hend
  · have hend : rchangeS.post (⟨N, S, B, O, r⟩, .mk ⟨zxid, kind, ses, turn, xid, dtime, path, data, owner, ver, cver, tmo, err, cfg, mem⟩ parts, C, z, time) [] A (.tuple #[]) A := by
      show RefTo A B O r (rchangeL N ⟨zxid, kind, ses, turn, xid, dtime, path, data, owner, ver, cver, tmo, err, cfg, mem⟩ z time) S A
      rw [rchange0 k1 k2 k3]
      exact RefTo.of hRef (Kept.refl _ _) (Arena.Sub.refl _) fun k o hk => .inl hk
    exact (hD _).2 hend

end
end Go.Proofs.YtbebacffaljckaaGreatDoor

namespace Go.Proofs.YtbebacffaljckaaGreatDoor
open Go.Sx Go.RowKit
noncomputable section
open Classical

/-- The tree gets another row of sittings. -/
theorem RefR.seats {A B A2 A3 : Arena} {O : Nat → Prop} {r : Nat} {l : List (ToldD × Value)} {S : List SitD} {vn vs : Value} {gn gs : Nat} (h : RefR A B O r l S vn vs gn gs) {S' : List SitD} {v : Value} (hA2 : A.Sub A2) (hG : GrowR A A2 3 59 S'.length v (S'.flatMap sitC)) (hP : A2.Put A3 r 1 [v]) :
    ∃ O', RefAt A3 B O' r (l.map (·.1)) S' ∧ Kept A O A3 O' := by
  obtain ⟨g, hR, hg, _⟩ := RowIn.grown hG 0
  obtain ⟨orr, hor⟩ := h.live r h.own.1
  have hBr : B.blk r = none := h.off r h.own.1
  have hgr : 0 < S'.length → g ≠ r := fun hn e => by
    have := hg hn
    rw [e, hor] at this; cases this
  have hgn : 0 < l.length → 0 < S'.length → gn ≠ g := fun hn hs e => by
    obtain ⟨o, ho⟩ := h.live gn (h.own.2.1 hn)
    have := hg hs
    rw [← e, ho] at this; cases this
  refine ⟨fun k => O k ∨ (0 < S'.length ∧ k = g), ⟨l, vn, v, gn, g, rfl, ?_⟩, fun k o hk hO => ?_, fun k hk => ?_, fun k hk => ?_⟩
  · refine ⟨?_, h.nrow.keep fun hn => ?_, hR.keep fun hn => hP.other g (hgr hn), h.data, fun k o hk => ?_, ⟨.inl h.own.1, fun hn => .inl (h.own.2.1 hn), fun hs => .inr ⟨hs, rfl⟩⟩, fun k hk => ?_, fun k hk => ?_, h.ne.1, hgr, hgn⟩
    · have := (h.top.sub fun o ho => hA2 _ _ ho).put hP (by show 1 + 1 ≤ 2; omega)
      exact this
    · obtain ⟨o, ho⟩ := h.live gn (h.own.2.1 hn)
      rw [hP.other gn (h.ne.1 hn), hA2 _ _ ho, ho]
    · rw [hP.other k fun e => by rw [e, hBr] at hk; cases hk]
      exact hA2 k o (h.sub k o hk)
    · rcases hk with hk | ⟨hn, rfl⟩
      · exact h.off k hk
      · cases hb : B.blk k with
        | none => rfl
        | some o =>
          have h1 := h.sub _ _ hb
          rw [hg hn] at h1; cases h1
    · by_cases e : k = r
      · obtain ⟨c0, t0, fz0, c1, k1, k2, _⟩ := hP.at_
        rw [e]
        exact ⟨_, k2⟩
      · rw [hP.other k e]
        rcases hk with hk | ⟨hn, rfl⟩
        · obtain ⟨o, ho⟩ := h.live k hk
          exact ⟨o, hA2 _ _ ho⟩
        · obtain ⟨_, ao, c, _, _, _, _, h6⟩ := hR
          obtain ⟨_, cc, h8, _⟩ := h6 hn
          exact ⟨_, h8⟩
  · rw [hP.other k fun e => hO (e ▸ h.own.1)]
    exact hA2 k o hk
  · have h2 := (hP.dom k).1 hk
    cases hb : A.blk k with
    | none => rfl
    | some o => rw [hA2 k o hb] at h2; cases h2
  · rcases hk with hk | ⟨hn, rfl⟩
    · exact .inl hk
    · exact .inr (hg hn)

def notS (s : Int) (x : SitD) : Bool := !decide (x.ses = s)
def riseL (S : List SitD) (s : Int) : List SitD := S.filter (notS s)

theorem filterN_snoc {α : Type} (f : α → Bool) (l : List α) (k : Nat) (hk : k < l.length) : (l.take (k + 1)).filter f = (l.take k).filter f ++ if f l[k] = true then [l[k]] else [] := by
  rw [List.take_succ_eq_append_getElem hk, List.filter_append]
  congr 1
  by_cases h : f l[k] = true
  · rw [if_pos h]; simp [h]
  · rw [if_neg h]; simp [h]

structure RiG where
  k : Nat
  A : Arena
  v : Value

def riseInv (A0 : Arena) (S : List SitD) (s : Int) : LInv :=
  { γ := RiG, G := fun g => g.k ≤ S.length ∧ A0.Sub g.A ∧ GrowR A0 g.A 3 59 ((S.take g.k).filter (notS s)).length g.v (((S.take g.k).filter (notS s)).flatMap sitC),
    keepS := [0, 1], keepB := [], sl := fun g => [(5, .v (.int .i64 g.k)), (4, .v g.v)], bl := fun _ => [], ar := fun g => g.A, mu := fun g => S.length - g.k }

def riseS : FSpec := ⟨RG × Int, fun g vs A => vs = [.pointer (some ⟨g.1.r, 0, none⟩), .int .i64 g.2] ∧ RefAt A g.1.B g.1.O g.1.r g.1.N g.1.S ∧ g.1.S.length ≤ 1000000,
  fun g _ A _ A' => ∃ O', RefAt A' g.1.B O' g.1.r g.1.N (riseL g.1.S g.2) ∧ Kept A g.1.O A' O'⟩

set_option maxRecDepth 100000 in
set_option maxHeartbeats 0 in
theorem rise_ok : FOk Tryz.prog 27 riseS := by
  refine fok_v mixed fun ⟨⟨N, S, B, O, r⟩, s⟩ vs A hp => ?_
  obtain ⟨rfl, ⟨l, vn, vs', gn, gs, rfl, h⟩, hN⟩ : vs = [.pointer (some ⟨r, 0, none⟩), .int .i64 s] ∧ RefAt A B O r N S ∧ S.length ≤ 1000000 := hp
  refine ⟨noC, tabO Tryz.prog noC noL 60 [(27, 0)], 60, noC_sound _, tabO_sound mixed (noC_sound _) (noL_sound _) _ _, fun blk os out tape D hD => ?_⟩
  obtain ⟨_, ao, c, hvn, hc, hz1, hz2, hz3⟩ := h.srow
  subst hvn
  have htop : A.rd r 1 1 = some [.slice ao S.length c] := h.top.rd (o := 1) (n := 1) (by show 1 + 1 ≤ 2; omega)
  conv => lhs; whnf
  refine (hD _).2 ⟨riseInv A S s, ⟨(⟨0, A, .slice none 0 0⟩ : RiG), ⟨Nat.zero_le _, Arena.Sub.refl _, GrowR.nil _ _ _ _⟩, ⟨rfl, rfl, trivial⟩, trivial, rfl⟩, fun (sg : RiG) hG => ⟨⟨trivial, trivial, trivial⟩, trivial, ?_⟩⟩
  obtain ⟨k, As, v0⟩ := sg
  obtain ⟨hk, hAs, hGs⟩ : k ≤ S.length ∧ A.Sub As ∧ GrowR A As 3 59 ((S.take k).filter (notS s)).length v0 (((S.take k).filter (notS s)).flatMap sitC) := hG
  have htop9 := rd_sub hAs htop
  conv => lhs; whnf
  repeat (refine go_rd htop9 ?_
          conv => lhs; whnf)
  refine split_dec (fun hlt => ?_) (fun hlt => ?_)
  · have hkl : k < S.length := by
      have hlt : (k : Int) < (S.length : Int) := hlt
      omega
    obtain ⟨e, cc, h8, h9, h10⟩ := hz3 (by omega)
    subst e
    have hra : A.rd gs 0 (S.length * 3) = some (S.flatMap sitC) := by rw [rd_mk h8 (by omega), List.drop_zero, h10]
    have hrow := rd_sub hAs (row_at (enc := sitC) (fun _ => rfl) hra k hkl rfl)
    have i0 : (0 : Int) ≤ (k : Int) ∧ (k : Int) < (S.length : Int) := by omega
    have hsn := filterN_snoc (notS s) S k hkl
    obtain ⟨⟨q1, q2, q3⟩, hx⟩ : ∃ x, x = S[k] := ⟨_, rfl⟩
    rw [← hx] at hrow hsn
    have hrow : As.rd gs (0 + k * 3) 3 = some [.int .i64 q1, .int .i64 q2, .int .i64 q3] := hrow
    have r1 : As.rd gs (0 + k * 3) 1 = some [.int .i64 q1] := rd_at hrow (i := 0) (m := 1) (by omega)
    conv => lhs; whnf
    repeat (first | refine go_in i0 ?_ | refine go_rd htop9 ?_ | refine go_rd r1 ?_
            conv => lhs; whnf)
    refine split_nd (fun he => ?_) (fun he => ?_)
    · have hno : notS s ⟨q1, q2, q3⟩ = false := by
        unfold notS
        rw [decide_eq_true he]; rfl
      have hnext : (riseInv A S s).G (⟨k + 1, As, v0⟩ : RiG) := ⟨by show k + 1 ≤ S.length; omega, hAs, by
        show GrowR A As 3 59 ((S.take (k + 1)).filter (notS s)).length v0 (((S.take (k + 1)).filter (notS s)).flatMap sitC)
        rw [hsn, if_neg (by rw [hno]; simp), List.append_nil]; exact hGs⟩
      conv => lhs; whnf
      exact (hD _).2 ⟨(⟨k + 1, As, v0⟩ : RiG), ⟨hnext, ⟨inc_slot (k := k) (by omega), rfl, trivial⟩, trivial, rfl⟩, by show S.length - (k + 1) < S.length - k; omega, ⟨same1 rfl rfl, same1 rfl rfl, trivial⟩, trivial⟩
    have hyes : notS s ⟨q1, q2, q3⟩ = true := by
      unfold notS
      rw [decide_eq_false he]; rfl
    rw [if_pos hyes] at hsn
    have hlen3 : ((S.take k).filter (notS s)).length ≤ k := by
      have := List.length_filter_le (notS s) (S.take k)
      rw [List.length_take] at this
      omega
    conv => lhs; whnf
    repeat (first | refine go_in i0 ?_ | refine go_rd htop9 ?_ | refine go_rd hrow ?_ | refine go_D hD rfl ?_
            conv => lhs; whnf)
    refine (hD _).2 fun gb A7 hN => ?_
    have hN : As.New A7 gb #[.int .i64 q1, .int .i64 q2, .int .i64 q3] 59 := hN
    have hG7 := hGs.sub hN.sub
    have hAs7 := hAs.trans hN.sub
    have hd7 : ∀ j, A7.blk j = none → A.blk j = none := fun j hj => by
      cases h9 : A.blk j with
      | none => rfl
      | some o => rw [hAs7 _ _ h9] at hj; cases hj
    obtain ⟨base, cp9, hv0, hbase, hP, hA⟩ := hG7.form
    subst hv0
    have hP := hP 24 (by omega) (by omega)
    have hrow9 : A7.rd gb 0 (1 * 3) = some [.int .i64 q1, .int .i64 q2, .int .i64 q3] := hN.rd (o := 0) (n := 1 * 3) (by show 0 + 1 * 3 ≤ 3; omega)
    refine Or.elim hbase (fun hb => ?_) (fun hb => ?_)
    rotate_left
    obtain ⟨g0, hb⟩ := hb
    all_goals
      subst hb
      conv => lhs; whnf
      refine (hD _).2 ⟨((S.take k).filter (notS s)).flatMap sitC, [.int .i64 q1, .int .i64 q2, .int .i64 q3], hP.rd, ?_, rfl, ?_, ?_, hP.cap, rfl, hP.none_, fun g' o' he' hle' _ => hP.room 3 rfl g' o' he' hle', fun v A6 hAp => ?_⟩
      · show (if 1 * 3 = 0 then some [] else A7.rd gb 0 (1 * 3)) = _
        rw [if_neg (by omega)]; exact hrow9
      · intro v hv
        simp only [List.mem_cons, List.not_mem_nil, or_false] at hv
        rcases hv with rfl | rfl | rfl <;> rfl
      · show ((S.take k).filter (notS s)).length + 1 ≤ 9223372036854775807
        omega
      · obtain ⟨hG6, hk6⟩ := hA _ _ _ rfl hd7 hAp
        have hA6 : A.Sub A6 := fun j o hj => by rw [hk6 j o hj]; exact hAs7 _ _ hj
        have hg6 : (riseInv A S s).G (⟨k + 1, A6, v⟩ : RiG) := ⟨by show k + 1 ≤ S.length; omega, hA6, by
          show GrowR A A6 3 59 ((S.take (k + 1)).filter (notS s)).length v (((S.take (k + 1)).filter (notS s)).flatMap sitC)
          rw [hsn, List.length_append, List.flatMap_append]; exact hG6⟩
        conv => lhs; whnf
        exact (hD _).2 ⟨(⟨k + 1, A6, v⟩ : RiG), ⟨hg6, ⟨inc_slot (k := k) (by omega), rfl, trivial⟩, trivial, rfl⟩, by show S.length - (k + 1) < S.length - k; omega, ⟨same1 rfl rfl, same1 rfl rfl, trivial⟩, trivial⟩
  · have e : k = S.length := by
      have hlt : ¬ (k : Int) < (S.length : Int) := hlt
      omega
    rw [e, List.take_length] at hGs
    obtain ⟨b0, c0, hv0, -, -⟩ := hGs.formN
    subst hv0
    have hT9 : CellsAt As r [vn, .slice ao S.length c] := h.top.sub fun o ho => hAs _ _ ho
    conv => lhs; whnf
    refine (hD _).2 ⟨hT9.room (o := 1) (n := 1) (by show 1 + 1 ≤ 2; omega), fun A4 hP => ?_⟩
    have hP : As.Put A4 r 1 [.slice (addrA b0) (S.filter (notS s)).length c0] := hP
    have hend : riseS.post (⟨l.map (·.1), S, B, O, r⟩, s) [] A (.tuple #[]) A4 := by
      show ∃ O', RefAt A4 B O' r (l.map (·.1)) (riseL S s) ∧ Kept A O A4 O'
      exact h.seats hAs hGs hP
    conv => lhs; whnf
    exact (hD _).2 hend

end
end Go.Proofs.YtbebacffaljckaaGreatDoor

namespace Go.Proofs.YtbebacffaljckaaGreatDoor
open Go.Sx Go.RowKit
noncomputable section
open Classical

def lessS (s : Int) (x : SitD) : Bool := decide (x.ses < s)

def placeS (S : List SitD) (s : Int) : Nat := (S.takeWhile (lessS s)).length

def seatL (S : List SitD) (x : SitD) : List SitD := (riseL S x.ses).take (placeS (riseL S x.ses) x.ses) ++ x :: (riseL S x.ses).drop (placeS (riseL S x.ses) x.ses)

theorem tw_at {α : Type} {f : α → Bool} {N : List α} {k : Nat} (hk : k ≤ N.length) (h0 : ∀ i (h : i < N.length), i < k → f N[i] = true) (h1 : ∀ h : k < N.length, f N[k] = false) : (N.takeWhile f).length = k := by
  induction N generalizing k with
  | nil =>
    have : k = 0 := by simpa using hk
    rw [this]; rfl
  | cons x N ih =>
    cases k with
    | zero =>
      have := h1 (by simp)
      rw [List.takeWhile_cons, if_neg (by simpa using this)]
      rfl
    | succ k =>
      have hx := h0 0 (by simp) (by omega)
      have := ih (k := k) (by simpa using hk) (fun i hi hik => h0 (i + 1) (by simpa using hi) (by omega)) (fun h => h1 (by simpa using h))
      rw [List.takeWhile_cons, if_pos (by simpa using hx), List.length_cons, this]

theorem riseL_len (S : List SitD) (s : Int) : (riseL S s).length ≤ S.length := List.length_filter_le _ _

def rseatS : FSpec := ⟨RG × SitD, fun g vs A => vs = [.pointer (some ⟨g.1.r, 0, none⟩), .agg (sitC g.2).toArray] ∧ RefAt A g.1.B g.1.O g.1.r g.1.N g.1.S ∧ g.1.S.length ≤ 1000000,
  fun g _ A _ A' => ∃ O', RefAt A' g.1.B O' g.1.r g.1.N (seatL g.1.S g.2) ∧ Kept A g.1.O A' O'⟩

set_option maxRecDepth 100000 in
set_option maxHeartbeats 0 in
theorem rseat_ok : FOk Tryz.prog 26 rseatS := by
  refine fok_v mixed fun ⟨⟨N, S, B, O, r⟩, ⟨q1, q2, q3⟩⟩ vs A hp => ?_
  obtain ⟨rfl, hRef, hN⟩ : vs = [.pointer (some ⟨r, 0, none⟩), .agg #[.int .i64 q1, .int .i64 q2, .int .i64 q3]] ∧ RefAt A B O r N S ∧ S.length ≤ 1000000 := hp
  have hC : CTSound Tryz.prog (lookC [specE 27 riseS] noC) := lookC_sound (noC_sound _) (fun x hx => by
    simp only [List.mem_singleton] at hx
    subst hx; exact specE_ok rise_ok)
  refine ⟨_, tabO Tryz.prog _ noL 60 [(26, 0)], 60, hC, tabO_sound mixed hC (noL_sound _) _ _, fun blk os out tape D hD => ?_⟩
  conv => lhs; whnf
  refine (hD _).2 ⟨(⟨N, S, B, O, r⟩, q1), ⟨rfl, hRef, hN⟩, fun v A1 hq => ?_⟩
  have hq : ∃ O', RefAt A1 B O' r N (riseL S q1) ∧ Kept A O A1 O' := hq
  obtain ⟨O1, ⟨l0, vn', vs', gn, gs, hl, h⟩, hK⟩ := hq
  have hdl := riseL_len S q1
  obtain ⟨l, hle⟩ : ∃ l, l = riseL S q1 := ⟨_, rfl⟩
  rw [← hle] at h hdl
  obtain ⟨_, ao, c, hvn, hc, hz1, hz2, hz3⟩ := h.srow
  have hao : 0 < l.length → ao = some ⟨gs, 0, none⟩ := fun hn => (hz3 hn).1
  have hcs : ao = none ∨ ∃ g9 o9, ao = some ⟨g9, o9, none⟩ := by
    cases ao with
    | none => exact .inl rfl
    | some a =>
      obtain ⟨g9, o9, sp⟩ := a
      have := hz2 _ rfl
      dsimp only at this
      subst this
      exact .inr ⟨g9, o9, rfl⟩
  subst hvn
  have htop : A1.rd r 1 1 = some [.slice ao l.length c] := h.top.rd (o := 1) (n := 1) (by show 1 + 1 ≤ 2; omega)
  obtain ⟨xn, hxn⟩ : ∃ xn : SitD, xn = ⟨q1, q2, q3⟩ := ⟨_, rfl⟩
  have hxl : (sitC xn).length = 3 := rfl
  have he12 : ∀ x : SitD, (sitC x).length = 3 := fun _ => rfl
  have hone : ∀ v ∈ l.flatMap sitC, v.oneCell' = true := fun v hv => by
    obtain ⟨x, hx, hv⟩ := List.mem_flatMap.1 hv
    simp only [sitC, List.mem_cons, List.not_mem_nil, or_false] at hv
    rcases hv with rfl | rfl | rfl <;> rfl
  have honex : ∀ v ∈ sitC xn, v.oneCell' = true := fun v hv => by
    rw [hxn] at hv
    simp only [sitC, List.mem_cons, List.not_mem_nil, or_false] at hv
    rcases hv with rfl | rfl | rfl <;> rfl
  have hn0 : GrowR A1 A1 3 59 0 (.slice (addrA none) 0 0) [] := GrowR.nil _ _ _ _
  obtain ⟨hP0, hA0⟩ := hn0.formB
  have hfinq : ∀ q, q ≤ l.length → (∀ i (h : i < l.length), i < q → lessS q1 l[i] = true) → (∀ h : q < l.length, lessS q1 l[q] = false) → ∀ A5 A6 v, A1.Sub A5 → GrowR A1 A5 3 59 (l.take q ++ xn :: l.drop q).length v ((l.take q ++ xn :: l.drop q).flatMap sitC) → A5.Put A6 r 1 [v] →
      rseatS.post (⟨N, S, B, O, r⟩, ⟨q1, q2, q3⟩) [] A (.tuple #[]) A6 := fun q hq h0 h1 A5 A6 v s5 hG hP => by
    have hpl : placeS (riseL S q1) q1 = q := by
      rw [← hle]
      exact tw_at hq h0 h1
    obtain ⟨O2, hR2, hK2⟩ := h.seats s5 hG hP
    refine ⟨O2, ?_, hK.trans hK2⟩
    show RefAt A6 B O2 r N (seatL S ⟨q1, q2, q3⟩)
    unfold seatL
    dsimp only
    rw [hpl, ← hle, ← hxn, ← hl]
    exact hR2
  conv => lhs; whnf
  refine (hD _).2 ⟨⟨Nat, fun q => q ≤ l.length ∧ ∀ i (h : i < l.length), i < q → lessS q1 l[i] = true, [0, 3], [0], fun q => [(4, .v (.int .i64 q))], fun _ => [], fun _ => A1, fun q => l.length - q⟩, ⟨(0 : Nat), ⟨Nat.zero_le _, fun i _ h => absurd h (Nat.not_lt_zero i)⟩, ⟨rfl, trivial⟩, trivial, rfl⟩, fun (q : Nat) hq => ⟨⟨trivial, trivial⟩, trivial, ?_⟩⟩
  obtain ⟨hql, hqlt⟩ := hq
  have hfl1 : ((l.take q).flatMap sitC).length = q * 3 := by rw [flatN_len (enc := sitC) he12, List.length_take, Nat.min_eq_left hql]
  have hfl2 : ((l.drop q).flatMap sitC).length = (l.length - q) * 3 := by rw [flatN_len (enc := sitC) he12, List.length_drop]
  have hfinq := hfinq q hql hqlt
  conv => lhs; whnf
  repeat (refine go_rd htop ?_
          conv => lhs; whnf)
  refine split_dec (fun hlt3 => ?_) (fun hlt3 => ?_)
  · have hqo : q < l.length := by
      have hlt3 : (q : Int) < (l.length : Int) := hlt3
      omega
    have q0 : (0 : Int) ≤ (q : Int) ∧ (q : Int) < (l.length : Int) := by omega
    have e := hao (by omega)
    subst e
    have hra : A1.rd gs 0 (l.length * 3) = some (l.flatMap sitC) := by
      obtain ⟨_, cc, h8, h9, h10⟩ := hz3 (by omega)
      rw [rd_mk h8 (by omega), List.drop_zero, h10]
    have r1 := rd_at (row_at (enc := sitC) (fun _ => rfl) hra q hqo rfl) (i := 0) (m := 1) (by omega)
    have r1 : A1.rd gs (0 + q * 3) 1 = some [.int .i64 l[q].ses] := r1
    conv => lhs; whnf
    repeat (first | refine go_in q0 ?_ | refine go_rd htop ?_ | refine go_rd r1 ?_
            conv => lhs; whnf)
    refine split_dec (fun hb => ?_) (fun hb => ?_) <;> (conv => lhs; whnf)
    · have hb : lessS q1 l[q] = true := decide_eq_true hb
      refine (hD _).2 ⟨(q + 1 : Nat), ⟨⟨hqo, fun i hi hik => ?_⟩, ⟨inc_slot (by omega), trivial⟩, trivial, rfl⟩, by show l.length - (q + 1) < l.length - q; omega, ⟨same1 rfl rfl, same1 rfl rfl, trivial⟩, ⟨same1 rfl rfl, trivial⟩⟩
      by_cases e2 : i = q
      · subst e2; exact hb
      · exact hqlt i hi (by omega)
    have hb : lessS q1 l[q] = false := decide_eq_false hb
    have hfin := hfinq (fun _ => hb)
    clear hfinq
    have hs1 : (if q = 0 then some [] else A1.rd gs (0 + bif Nat.beq c 0 then 0 else 0 * 3) (q * 3)) = some ((l.take q).flatMap sitC) := srcN_take (enc := sitC) he12 hra (by omega) (by cases Nat.beq c 0 <;> rfl)
    have hs2 : ∀ A4, A1.Sub A4 → (if l.length - q = 0 then some [] else A4.rd gs (0 + bif Nat.beq c q then 0 else q * 3) ((l.length - q) * 3)) = some ((l.drop q).flatMap sitC) := fun A4 h4 => srcN_drop (enc := sitC) he12 (rd_sub h4 hra) rfl fun hlt => by
      rw [beq_noN (by omega)]
      show 0 + q * 3 = _
      omega
    repeat (refine go_rd htop ?_
            conv => lhs; whnf)
    refine go_b (bnd_to (k := q) rfl (show q ≤ c by omega)) ?_
    conv => lhs; whnf
    refine (hD _).2 ⟨[], (l.take q).flatMap sitC, rfl, hs1, hfl1, fun v hv => hone v (flat_sub (List.take_sublist q l) hv), by show 0 + q ≤ 9223372036854775807; omega, (hP0 q 24 (by omega) (by omega)).cap, rfl, fun _ => ⟨rfl, rfl⟩, fun _ _ h => (by cases h), fun v A2 hAp => ?_⟩
    obtain ⟨hG2, hk2⟩ := hA0 q _ v A2 hfl1 (fun _ h => h) hAp
    rw [Nat.zero_add, List.nil_append] at hG2
    have s2 : A1.Sub A2 := fun j o hj => by rw [hk2 j o hj]; exact hj
    obtain ⟨b2, c2, hv2, hb2, -⟩ := hG2.formN
    subst hv2
    conv => lhs; whnf
    refine (hD _).2 fun gb A3 hNw => ?_
    have hNx : A2.New A3 gb (sitC xn).toArray 59 := by rw [hxn]; exact hNw
    have s3 : A1.Sub A3 := s2.trans hNx.sub
    obtain ⟨hP3, hA3⟩ := (hG2.sub hNx.sub).formB
    have hP3 := hP3 1 24 (by omega) (by omega)
    have hrow3 : A3.rd gb 0 (1 * 3) = some (sitC xn) := hNx.rd (o := 0) (n := 1 * 3) (by rw [List.size_toArray, hxl]; omega)
    have hd3 : ∀ j, A3.blk j = none → A1.blk j = none := fun j hj => by
      cases h9 : A1.blk j with
      | none => rfl
      | some o => rw [s3 _ _ h9] at hj; cases hj
    refine Or.elim hb2 (fun hb2 => ?_) (fun hb2 => ?_)
    rotate_left
    obtain ⟨g2, hb2⟩ := hb2
    all_goals
      subst hb2
      conv => lhs; whnf
      refine (hD _).2 ⟨(l.take q).flatMap sitC, sitC xn, hP3.rd, ?_, rfl, honex, ?_, hP3.cap, rfl, hP3.none_, fun g' o' he' hle' _ => hP3.room 3 rfl g' o' he' hle', fun v A4 hAp => ?_⟩
      · show (if 1 * 3 = 0 then some [] else A3.rd gb 0 (1 * 3)) = _
        rw [if_neg (by omega)]; exact hrow3
      · show q + 1 ≤ 9223372036854775807
        omega
      obtain ⟨hG4, hk4⟩ := hA3 1 _ v A4 rfl hd3 hAp
      have s4 : A1.Sub A4 := fun j o hj => by rw [hk4 j o hj]; exact s3 _ _ hj
      obtain ⟨b4, c4, hv4, hb4, -⟩ := hG4.formN
      subst hv4
      obtain ⟨hP4, hA4⟩ := hG4.formB
      have hP4 := hP4 (l.length - q) 24 (by omega) (by omega)
      have hd4 : ∀ j, A4.blk j = none → A1.blk j = none := fun j hj => by
        cases h9 : A1.blk j with
        | none => rfl
        | some o => rw [s4 _ _ h9] at hj; cases hj
      have htop4 := rd_sub s4 htop
      conv => lhs; whnf
      repeat (refine go_rd htop4 ?_
              conv => lhs; whnf)
      refine go_b (bnd_from (k := q) rfl (show q ≤ l.length by omega)) ?_
      refine Or.elim hb4 (fun hb4 => ?_) (fun hb4 => ?_)
      rotate_left
      obtain ⟨g4, hb4⟩ := hb4
      all_goals
        subst hb4
        conv => lhs; whnf
        refine (hD _).2 ⟨(l.take q).flatMap sitC ++ sitC xn, (l.drop q).flatMap sitC, hP4.rd, hs2 A4 s4, hfl2, fun v hv => hone v (flat_sub (List.drop_sublist q l) hv), by show (q + 1) + (l.length - q) ≤ 9223372036854775807; omega, hP4.cap, rfl, hP4.none_, fun g' o' he' hle' _ => hP4.room _ hfl2 g' o' he' hle', fun v A5 hAp => ?_⟩
        obtain ⟨hG5, hk5⟩ := hA4 (l.length - q) _ v A5 hfl2 hd4 hAp
        have s5 : A1.Sub A5 := fun j o hj => by rw [hk5 j o hj]; exact s4 _ _ hj
        have hG6 : GrowR A1 A5 3 59 (l.take q ++ xn :: l.drop q).length v ((l.take q ++ xn :: l.drop q).flatMap sitC) := by
          have e1 : (l.take q ++ xn :: l.drop q).length = (q + 1) + (l.length - q) := by
            rw [List.length_append, List.length_cons, List.length_take, List.length_drop]; omega
          rw [e1, List.flatMap_append, List.flatMap_cons, ← List.append_assoc]
          exact hG5
        obtain ⟨b5, c5, hv5, -, -⟩ := hG6.formN
        subst hv5
        have hT5 : CellsAt A5 r [vn', .slice (some ⟨gs, 0, none⟩) l.length c] := h.top.sub fun o ho => s5 _ _ ho
        conv => lhs; whnf
        refine (hD _).2 ⟨hT5.room (o := 1) (n := 1) (by show 1 + 1 ≤ 2; omega), fun A6 hP => ?_⟩
        have hP : A5.Put A6 r 1 [.slice (addrA b5) (l.take q ++ xn :: l.drop q).length c5] := hP
        have hend := hfin A5 A6 _ s5 hG6 hP
        conv => lhs; whnf
        exact (hD _).2 hend
  · have hqe : q = l.length := by
      have hlt3 : ¬ (q : Int) < (l.length : Int) := hlt3
      omega
    have hfin := hfinq (fun h => absurd h (Nat.not_lt.2 (Nat.le_of_eq hqe.symm)))
    clear hfinq
    refine Or.elim hcs (fun e => ?_) (fun e => ?_)
    · have hz9 : c = 0 := hz1 e
      have hl0 : l.length = 0 := by
        rcases Nat.eq_zero_or_pos l.length with h9 | h9
        · exact h9
        · rw [hao h9] at e; cases e
      have hzq : q = 0 := by omega
      clear hz3 hao hz1
      subst e
      subst hz9
      subst hzq
      have hs1 : (if 0 = 0 then some [] else none) = some ((l.take 0).flatMap sitC) := by
        rw [if_pos rfl, List.take_zero]; rfl
      have hs2 : ∀ A4, A1.Sub A4 → (if l.length - 0 = 0 then some [] else none) = some ((l.drop 0).flatMap sitC) := fun A4 h4 => by
        rw [if_pos (by omega), List.length_eq_zero_iff.1 hl0]; rfl
      conv => lhs; whnf
      repeat (refine go_rd htop ?_
              conv => lhs; whnf)
      clear hz2
      refine (hD _).2 ⟨[], (l.take 0).flatMap sitC, rfl, hs1, hfl1, fun v hv => hone v (flat_sub (List.take_sublist 0 l) hv), by show 0 + 0 ≤ 9223372036854775807; omega, (hP0 0 24 (by omega) (by omega)).cap, rfl, fun _ => ⟨rfl, rfl⟩, fun _ _ h => (by cases h), fun v A2 hAp => ?_⟩
      obtain ⟨hG2, hk2⟩ := hA0 0 _ v A2 hfl1 (fun _ h => h) hAp
      rw [Nat.zero_add, List.nil_append] at hG2
      have s2 : A1.Sub A2 := fun j o hj => by rw [hk2 j o hj]; exact hj
      obtain ⟨b2, c2, hv2, hb2, -⟩ := hG2.formN
      subst hv2
      conv => lhs; whnf
      refine (hD _).2 fun gb A3 hNw => ?_
      have hNx : A2.New A3 gb (sitC xn).toArray 59 := by rw [hxn]; exact hNw
      have s3 : A1.Sub A3 := s2.trans hNx.sub
      obtain ⟨hP3, hA3⟩ := (hG2.sub hNx.sub).formB
      have hP3 := hP3 1 24 (by omega) (by omega)
      have hrow3 : A3.rd gb 0 (1 * 3) = some (sitC xn) := hNx.rd (o := 0) (n := 1 * 3) (by rw [List.size_toArray, hxl]; omega)
      have hd3 : ∀ j, A3.blk j = none → A1.blk j = none := fun j hj => by
        cases h9 : A1.blk j with
        | none => rfl
        | some o => rw [s3 _ _ h9] at hj; cases hj
      refine Or.elim hb2 (fun hb2 => ?_) (fun hb2 => ?_)
      rotate_left
      obtain ⟨g2, hb2⟩ := hb2
      all_goals
        subst hb2
        conv => lhs; whnf
        refine (hD _).2 ⟨(l.take 0).flatMap sitC, sitC xn, hP3.rd, ?_, rfl, honex, ?_, hP3.cap, rfl, hP3.none_, fun g' o' he' hle' _ => hP3.room 3 rfl g' o' he' hle', fun v A4 hAp => ?_⟩
        · show (if 1 * 3 = 0 then some [] else A3.rd gb 0 (1 * 3)) = _
          rw [if_neg (by omega)]; exact hrow3
        · show 0 + 1 ≤ 9223372036854775807
          omega
        obtain ⟨hG4, hk4⟩ := hA3 1 _ v A4 rfl hd3 hAp
        have s4 : A1.Sub A4 := fun j o hj => by rw [hk4 j o hj]; exact s3 _ _ hj
        obtain ⟨b4, c4, hv4, hb4, -⟩ := hG4.formN
        subst hv4
        obtain ⟨hP4, hA4⟩ := hG4.formB
        have hP4 := hP4 (l.length - 0) 24 (by omega) (by omega)
        have hd4 : ∀ j, A4.blk j = none → A1.blk j = none := fun j hj => by
          cases h9 : A1.blk j with
          | none => rfl
          | some o => rw [s4 _ _ h9] at hj; cases hj
        have htop4 := rd_sub s4 htop
        conv => lhs; whnf
        repeat (refine go_rd htop4 ?_
                conv => lhs; whnf)
        refine Or.elim hb4 (fun hb4 => ?_) (fun hb4 => ?_)
        rotate_left
        obtain ⟨g4, hb4⟩ := hb4
        all_goals
          subst hb4
          conv => lhs; whnf
          refine (hD _).2 ⟨(l.take 0).flatMap sitC ++ sitC xn, (l.drop 0).flatMap sitC, hP4.rd, hs2 A4 s4, hfl2, fun v hv => hone v (flat_sub (List.drop_sublist 0 l) hv), by show (0 + 1) + (l.length - 0) ≤ 9223372036854775807; omega, hP4.cap, rfl, hP4.none_, fun g' o' he' hle' _ => hP4.room _ hfl2 g' o' he' hle', fun v A5 hAp => ?_⟩
          obtain ⟨hG5, hk5⟩ := hA4 (l.length - 0) _ v A5 hfl2 hd4 hAp
          have s5 : A1.Sub A5 := fun j o hj => by rw [hk5 j o hj]; exact s4 _ _ hj
          have hG6 : GrowR A1 A5 3 59 (l.take 0 ++ xn :: l.drop 0).length v ((l.take 0 ++ xn :: l.drop 0).flatMap sitC) := by
            have e1 : (l.take 0 ++ xn :: l.drop 0).length = (0 + 1) + (l.length - 0) := by
              rw [List.length_append, List.length_cons, List.length_take, List.length_drop]; omega
            rw [e1, List.flatMap_append, List.flatMap_cons, ← List.append_assoc]
            exact hG5
          obtain ⟨b5, c5, hv5, -, -⟩ := hG6.formN
          subst hv5
          have hT5 : CellsAt A5 r [vn', .slice none l.length 0] := h.top.sub fun o ho => s5 _ _ ho
          conv => lhs; whnf
          refine (hD _).2 ⟨hT5.room (o := 1) (n := 1) (by show 1 + 1 ≤ 2; omega), fun A6 hP => ?_⟩
          have hP : A5.Put A6 r 1 [.slice (addrA b5) (l.take 0 ++ xn :: l.drop 0).length c5] := hP
          have hend := hfin A5 A6 _ s5 hG6 hP
          conv => lhs; whnf
          exact (hD _).2 hend
    · obtain ⟨g9, o9, e⟩ := e
      have hra : 0 < l.length → g9 = gs ∧ o9 = 0 ∧ A1.rd gs 0 (l.length * 3) = some (l.flatMap sitC) := fun hn => by
        obtain ⟨e1, cc, h8, h9, h10⟩ := hz3 hn
        rw [e1] at e
        injection e with e
        injection e with e2 e3
        exact ⟨e2.symm, e3.symm, by rw [rd_mk h8 (by omega), List.drop_zero, h10]⟩
      have hs1 : (if q = 0 then some [] else A1.rd g9 (o9 + bif Nat.beq c 0 then 0 else 0 * 3) (q * 3)) = some ((l.take q).flatMap sitC) := by
        by_cases h0 : q = 0
        · rw [if_pos h0, h0, List.take_zero]; rfl
        · obtain ⟨e1, e2, e3⟩ := hra (by omega)
          rw [e1, e2]
          exact srcN_take (enc := sitC) he12 e3 (by omega) (by cases Nat.beq c 0 <;> rfl)
      have hs2 : ∀ A4, A1.Sub A4 → (if l.length - q = 0 then some [] else A4.rd g9 (o9 + bif Nat.beq c q then 0 else q * 3) ((l.length - q) * 3)) = some ((l.drop q).flatMap sitC) := fun A4 h4 => by
        rw [if_pos (by omega), List.drop_eq_nil_of_le (by omega)]; rfl
      subst e
      conv => lhs; whnf
      repeat (refine go_rd htop ?_
              conv => lhs; whnf)
      clear hz1 hz2 hz3 hao hra
      refine go_b (bnd_to (k := q) rfl (show q ≤ c by omega)) ?_
      conv => lhs; whnf
      refine (hD _).2 ⟨[], (l.take q).flatMap sitC, rfl, hs1, hfl1, fun v hv => hone v (flat_sub (List.take_sublist q l) hv), by show 0 + q ≤ 9223372036854775807; omega, (hP0 q 24 (by omega) (by omega)).cap, rfl, fun _ => ⟨rfl, rfl⟩, fun _ _ h => (by cases h), fun v A2 hAp => ?_⟩
      obtain ⟨hG2, hk2⟩ := hA0 q _ v A2 hfl1 (fun _ h => h) hAp
      rw [Nat.zero_add, List.nil_append] at hG2
      have s2 : A1.Sub A2 := fun j o hj => by rw [hk2 j o hj]; exact hj
      obtain ⟨b2, c2, hv2, hb2, -⟩ := hG2.formN
      subst hv2
      conv => lhs; whnf
      refine (hD _).2 fun gb A3 hNw => ?_
      have hNx : A2.New A3 gb (sitC xn).toArray 59 := by rw [hxn]; exact hNw
      have s3 : A1.Sub A3 := s2.trans hNx.sub
      obtain ⟨hP3, hA3⟩ := (hG2.sub hNx.sub).formB
      have hP3 := hP3 1 24 (by omega) (by omega)
      have hrow3 : A3.rd gb 0 (1 * 3) = some (sitC xn) := hNx.rd (o := 0) (n := 1 * 3) (by rw [List.size_toArray, hxl]; omega)
      have hd3 : ∀ j, A3.blk j = none → A1.blk j = none := fun j hj => by
        cases h9 : A1.blk j with
        | none => rfl
        | some o => rw [s3 _ _ h9] at hj; cases hj
      refine Or.elim hb2 (fun hb2 => ?_) (fun hb2 => ?_)
      rotate_left
      obtain ⟨g2, hb2⟩ := hb2
      all_goals
        subst hb2
        conv => lhs; whnf
        refine (hD _).2 ⟨(l.take q).flatMap sitC, sitC xn, hP3.rd, ?_, rfl, honex, ?_, hP3.cap, rfl, hP3.none_, fun g' o' he' hle' _ => hP3.room 3 rfl g' o' he' hle', fun v A4 hAp => ?_⟩
        · show (if 1 * 3 = 0 then some [] else A3.rd gb 0 (1 * 3)) = _
          rw [if_neg (by omega)]; exact hrow3
        · show q + 1 ≤ 9223372036854775807
          omega
        obtain ⟨hG4, hk4⟩ := hA3 1 _ v A4 rfl hd3 hAp
        have s4 : A1.Sub A4 := fun j o hj => by rw [hk4 j o hj]; exact s3 _ _ hj
        obtain ⟨b4, c4, hv4, hb4, -⟩ := hG4.formN
        subst hv4
        obtain ⟨hP4, hA4⟩ := hG4.formB
        have hP4 := hP4 (l.length - q) 24 (by omega) (by omega)
        have hd4 : ∀ j, A4.blk j = none → A1.blk j = none := fun j hj => by
          cases h9 : A1.blk j with
          | none => rfl
          | some o => rw [s4 _ _ h9] at hj; cases hj
        have htop4 := rd_sub s4 htop
        conv => lhs; whnf
        repeat (refine go_rd htop4 ?_
                conv => lhs; whnf)
        refine go_b (bnd_from (k := q) rfl (show q ≤ l.length by omega)) ?_
        refine Or.elim hb4 (fun hb4 => ?_) (fun hb4 => ?_)
        rotate_left
        obtain ⟨g4, hb4⟩ := hb4
        all_goals
          subst hb4
          conv => lhs; whnf
          refine (hD _).2 ⟨(l.take q).flatMap sitC ++ sitC xn, (l.drop q).flatMap sitC, hP4.rd, hs2 A4 s4, hfl2, fun v hv => hone v (flat_sub (List.drop_sublist q l) hv), by show (q + 1) + (l.length - q) ≤ 9223372036854775807; omega, hP4.cap, rfl, hP4.none_, fun g' o' he' hle' _ => hP4.room _ hfl2 g' o' he' hle', fun v A5 hAp => ?_⟩
          obtain ⟨hG5, hk5⟩ := hA4 (l.length - q) _ v A5 hfl2 hd4 hAp
          have s5 : A1.Sub A5 := fun j o hj => by rw [hk5 j o hj]; exact s4 _ _ hj
          have hG6 : GrowR A1 A5 3 59 (l.take q ++ xn :: l.drop q).length v ((l.take q ++ xn :: l.drop q).flatMap sitC) := by
            have e1 : (l.take q ++ xn :: l.drop q).length = (q + 1) + (l.length - q) := by
              rw [List.length_append, List.length_cons, List.length_take, List.length_drop]; omega
            rw [e1, List.flatMap_append, List.flatMap_cons, ← List.append_assoc]
            exact hG5
          obtain ⟨b5, c5, hv5, -, -⟩ := hG6.formN
          subst hv5
          have hT5 : CellsAt A5 r [vn', .slice (some ⟨g9, o9, none⟩) l.length c] := h.top.sub fun o ho => s5 _ _ ho
          conv => lhs; whnf
          refine (hD _).2 ⟨hT5.room (o := 1) (n := 1) (by show 1 + 1 ≤ 2; omega), fun A6 hP => ?_⟩
          have hP : A5.Put A6 r 1 [.slice (addrA b5) (l.take q ++ xn :: l.drop q).length c5] := hP
          have hend := hfin A5 A6 _ s5 hG6 hP
          conv => lhs; whnf
          exact (hD _).2 hend

end
end Go.Proofs.YtbebacffaljckaaGreatDoor

namespace Go.Proofs.YtbebacffaljckaaGreatDoor
open Go.Sx Go.RowKit
noncomputable section
open Classical

section
variable {κ α : Type} [BEq κ] [LawfulBEq κ]

theorem kGet_some {q : κ} {x : α} {l : List (κ × α)} (hn : (l.map (·.1)).Nodup) : kGet q l = some x ↔ (q, x) ∈ l :=
  ⟨fun h => kGet_mem (fun _ h => (eq_of_beq h).symm) h, fun h => kGet_of_mem (fun _ => BEq.rfl) (fun _ _ h => (eq_of_beq h).symm) hn h⟩

theorem kGet_perm {l l' : List (κ × α)} (h : l.Perm l') (hn : (l.map (·.1)).Nodup) (q : κ) : kGet q l = kGet q l' := by
  have hn' : (l'.map (·.1)).Nodup := (h.map (·.1)).nodup_iff.1 hn
  cases hk : kGet q l with
  | some x => exact ((kGet_some hn').2 (h.mem_iff.1 ((kGet_some hn).1 hk))).symm
  | none =>
    refine (kGet_not fun hm => ?_).symm
    exact kGet_none BEq.rfl hk ((h.map (·.1)).mem_iff.2 hm)

theorem kGet_fold [DecidableEq κ] (q : κ) : ∀ (l m : List (κ × α)), (l.map (·.1)).Nodup → kGet q (l.foldl (fun m e => kPut e.1 e.2 m) m) = match kGet q l with | some x => some x | none => kGet q m
  | [], m, _ => rfl
  | (r, y) :: l, m, hn => by
    rw [List.map_cons, List.nodup_cons] at hn
    rw [List.foldl_cons, kGet_fold q l _ hn.2, kGet_put]
    by_cases e : q = r
    · subst e
      simp only [kGet, BEq.rfl, cond_true, if_true]
      rw [kGet_not hn.1]
    · have hb : (q == r) = false := by simpa using e
      simp only [kGet, hb, cond_false, if_neg e]

theorem keys_perm {l l' : List (κ × α)} (h : ∀ q, kGet q l = kGet q l') (hn : (l.map (·.1)).Nodup) (hn' : (l'.map (·.1)).Nodup) : (l.map (·.1)).Perm (l'.map (·.1)) :=
  (List.perm_ext_iff_of_nodup hn hn').2 fun q => by rw [← kGet_iff, ← kGet_iff, h q]

end

/-! ### Alike: the same is told -/

theorem paths_same {T U : TreeD} (h : TEq T U) (hT : ND T) (hU : ND U) : treePaths T = treePaths U := by
  have hp := (keys_perm h.1 hT.1 hU.1).map pathL
  rw [List.map_map, List.map_map] at hp
  exact mergeSort_of_perm hp

theorem told_same {T U : TreeD} (h : TEq T U) (hT : ND T) (hU : ND U) (p : ByteArray) : toldOf T p = toldOf U p := by
  have hk : kidsN T p = kidsN U p := (keys_perm h.1 hT.1 hU.1).countP_eq _
  unfold toldOf
  rw [h.1 p, hk]

theorem TEq.same {T U : TreeD} (h : TEq T U) (hT : ND T) (hU : ND U) : TSame T U := by
  constructor
  · rw [treeAll, treeAll, paths_same h hT hU]
    exact List.map_congr_left fun x _ => told_same h hT hU _
  · have hs : sitOf T.seats = sitOf U.seats := by
      funext s
      unfold sitOf
      rw [h.2 s]
    rw [treeSits, treeSits, hs, sortI_of_perm (keys_perm h.2 hT.2 hU.2)]

theorem TreeAt.nd {A B : Arena} {O : Nat → Prop} {t : Nat} {T : TreeD} (h : TreeAt A B O t T) : ND T := by
  obtain ⟨m, s, E, h⟩ := h
  exact ⟨by rw [h.nodes, kMap_keys]; exact h.keys, h.skeys⟩

/-! ### What deeds keep -/

structure TOk (T : TreeD) : Prop where
  nd : ND T
  ses : ∀ s x, kGet s T.seats = some x → x.ses = s ∧ 1 ≤ s
  root : kGet rootS T.nodes ≠ none

theorem TOk.seatsOk {T : TreeD} (h : TOk T) : SeatsOk T := fun e he => (h.ses e.1 e.2 ((kGet_some h.nd.2).2 he)).1

theorem tok_new : TOk treeNew := ⟨⟨by simp [treeNew], by simp [treeNew]⟩, fun s x h => by simp [treeNew, kGet] at h, by simp [treeNew, kGet]⟩

theorem chg_root {h : DeedH} (hf : h.kind = 1 ∨ h.kind = 2 → h.path.data.toList ≠ [47]) (z time : Int) {o : Option NodeD} (ho : o ≠ none) : chgF h z time rootS o ≠ none := by
  have hm : ∀ {o : Option NodeD}, o ≠ none → markF h z rootS o ≠ none := fun {o} ho => by
    unfold markF
    split
    · cases o with
      | none => exact absurd rfl ho
      | some x => simp
    · exact ho
  unfold chgF
  split
  · split
    · cases o with
      | none => exact absurd rfl ho
      | some x => simp
    · exact ho
  · split
    · refine hm ?_
      split
      · simp
      · exact ho
    · split
      · rename_i h2
        refine hm ?_
        rw [if_neg fun e => hf (.inr h2) (by rw [← e]; rfl)]
        exact ho
      · exact hm ho

theorem fits_root {h : DeedH} {np : Nat} (hf : FitsD h np) : h.kind = 1 ∨ h.kind = 2 → h.path.data.toList ≠ [47] := by
  obtain ⟨_, _, _, _, _, _, _, _, _, _, _, _, _, _, _, h9, _⟩ := hf
  exact h9

theorem parts_root (z time : Int) : ∀ (ps : List DeedD), (∀ p ∈ ps, FitsD p.h p.parts.length) → ∀ {o : Option NodeD}, o ≠ none → partsF ps z time rootS o ≠ none
  | [], _, o, ho => ho
  | p :: ps, hp, o, ho => parts_root z time ps (fun q hq => hp q (List.mem_cons_of_mem _ hq)) (chg_root (fits_root (hp p (by simp))) z time ho)

theorem TOk.apply {T : TreeD} (h : TOk T) (d : DeedD) : TOk (treeApply T d) := by
  obtain ⟨k0, k1, k2⟩ := apply_all h.nd d
  refine ⟨k0, fun s x hx => ?_, ?_⟩
  · rw [k2] at hx
    by_cases hr : RightD d
    · rw [if_pos hr] at hx
      have hz : 1 ≤ d.h.zxid := hr.1
      have key : ∀ o : Option SitD, (∀ y, o = some y → y.ses = s ∧ 1 ≤ s) → touchF d s o = some x → x.ses = s ∧ 1 ≤ s := fun o ho hx => by
        unfold touchF at hx
        split at hx
        · cases o with
          | none => cases hx
          | some y =>
            injection hx with hx
            subst hx
            exact ho y rfl
        · exact ho x hx
      refine key _ (fun y hy => ?_) hx
      split at hy
      · split at hy
        · rename_i e
          injection hy with hy
          subst hy
          rw [e]; exact ⟨rfl, hz⟩
        · exact h.ses s y hy
      · split at hy
        · split at hy
          · cases hy
          · exact h.ses s y hy
        · exact h.ses s y hy
    · rw [if_neg hr] at hx
      exact h.ses s x hx
  · rw [k1]
    by_cases hr : RightD d
    · rw [if_pos hr]
      unfold doF
      split
      · exact chg_root (fits_root hr.2.2.2.2.2.2.1) _ _ h.root
      · split
        · rename_i h58
          refine parts_root _ _ _ (fun p hp => ?_) h.root
          rcases h58 with h5 | h8
          · exact ((hr.2.2.2.2.2.2.2.1 h5).2.2 p hp).2.2.2.2.2.1
          · exact ((hr.2.2.2.2.2.2.2.2.2 h8).2.2 p hp).2.2.2.2.2.1
        · exact h.root
    · rw [if_neg hr]; exact h.root

theorem kDel_len {κ α : Type} [BEq κ] [LawfulBEq κ] (p : κ) (l : List (κ × α)) : (kDel p l).length ≤ l.length := (kDel_sub p l).length_le

theorem parts_seats (z time : Int) : ∀ (ps : List DeedD) (T : TreeD), (treeParts T ps z time).seats = T.seats
  | [], _ => rfl
  | p :: ps, T => (parts_seats z time ps _).trans (change_seats T p.h z time)

theorem apply_slen (T : TreeD) (d : DeedD) : (treeApply T d).seats.length ≤ T.seats.length + 2 := by
  have h1 : (treeDo T d).seats.length ≤ T.seats.length + 1 := by
    unfold treeDo
    split
    · rw [change_seats]; omega
    · split
      · exact kPut_len _ _ _
      · split
        · rw [parts_seats]
          have := kDel_len d.h.owner T.seats
          show (kDel d.h.owner T.seats).length ≤ _
          omega
        · split
          · rw [parts_seats]; omega
          · omega
  unfold treeApply
  split
  · unfold treeTouch
    split
    · have := kPut_len d.h.ses ⟨‹SitD›.ses, ‹SitD›.tmo, max ‹SitD›.turn d.h.turn⟩ (treeDo T d).seats
      show (kPut _ _ (treeDo T d).seats).length ≤ _
      omega
    · omega
  · omega

/-! ### Copies -/

theorem copy_eq {T : TreeD} (h : TOk T) {E sk : List (ByteArray × Nat × NodeD)} (hE : T.nodes = kMap (·.2) E) (hp : sk.Perm E) : TEq T ⟨copyNodes sk, seatsOf (treeSits T)⟩ := by
  constructor
  · intro q
    have h1 : copyNodes sk = (kMap (·.2) sk).foldl (fun m e => kPut e.1 e.2 m) treeNew.nodes := by
      unfold copyNodes kMap
      rw [List.foldl_map]
    have hpm : T.nodes.Perm (kMap (·.2) sk) := by
      rw [hE]
      exact (hp.map _).symm
    have hn : ((kMap (·.2) sk).map (·.1)).Nodup := (hpm.map (·.1)).nodup_iff.1 h.nd.1
    show kGet q T.nodes = kGet q (copyNodes sk)
    rw [h1, kGet_fold q _ _ hn, ← kGet_perm hpm h.nd.1 q]
    cases hk : kGet q T.nodes with
    | some x => rfl
    | none =>
      by_cases e : q = rootS
      · subst e; exact absurd hk h.root
      · have hb : (q == rootS) = false := by simpa using e
        simp [treeNew, kGet, hb]
  · intro s
    have hpos : ∀ x ∈ treeSits T, 1 ≤ x.ses ∧ kGet x.ses T.seats = some x := fun x hx => by
      obtain ⟨k, hk, rfl⟩ := List.mem_map.1 hx
      have hk := (sortI_perm _).mem_iff.1 hk
      obtain ⟨e, he, rfl⟩ := List.mem_map.1 hk
      have hg := (kGet_some h.nd.2).2 (show (e.1, e.2) ∈ T.seats from he)
      have hs := h.ses _ _ hg
      have hso : sitOf T.seats e.1 = e.2 := sitOf_mem h.nd.2 h.seatsOk he
      rw [hso, hs.1]
      exact ⟨hs.2, hg⟩
    have h1 : ∀ (l : List SitD) (m : List (Int × SitD)), (∀ x ∈ l, 1 ≤ x.ses) → l.foldl seatOne m = (l.map fun x => (x.ses, x)).foldl (fun m e => kPut e.1 e.2 m) m := fun l => by
      induction l with
      | nil => exact fun m _ => rfl
      | cons x l ih =>
        intro m hl
        rw [List.foldl_cons, List.map_cons, List.foldl_cons, ih _ fun y hy => hl y (List.mem_cons_of_mem _ hy)]
        have := hl x (by simp)
        rw [seatOne, if_neg (by omega)]
    have hkeys : ((treeSits T).map fun x => (x.ses, x)).map (·.1) = sortI (T.seats.map (·.1)) := by
      rw [List.map_map, treeSits, List.map_map]
      refine (List.map_congr_left fun k _ => ?_).trans (List.map_id _)
      exact sitOf_ses _ _
    have hn : (((treeSits T).map fun x => (x.ses, x)).map (·.1)).Nodup := by
      rw [hkeys]
      exact (sortI_perm _).nodup_iff.2 h.nd.2
    show kGet s T.seats = kGet s (seatsOf (treeSits T))
    unfold seatsOf
    rw [h1 _ _ fun x hx => (hpos x hx).1, kGet_fold s _ _ hn]
    cases hk : kGet s T.seats with
    | some x =>
      have hx : (s, x) ∈ (treeSits T).map fun x => (x.ses, x) := by
        have hm := (kGet_some h.nd.2).1 hk
        refine List.mem_map.2 ⟨x, List.mem_map.2 ⟨s, (sortI_perm _).mem_iff.2 (List.mem_map.2 ⟨_, hm, rfl⟩), sitOf_mem h.nd.2 h.seatsOk hm⟩, ?_⟩
        rw [(h.ses s x hk).1]
      rw [(kGet_some hn).2 hx]
    | none =>
      rw [kGet_not (l := (treeSits T).map fun x => (x.ses, x)) fun hm => ?_]
      · rfl
      · rw [hkeys] at hm
        exact kGet_none (by simp) hk ((sortI_perm _).mem_iff.1 hm)

end
end Go.Proofs.YtbebacffaljckaaGreatDoor

namespace Go.Proofs.YtbebacffaljckaaGreatDoor
open Go.Sx Go.RowKit
noncomputable section
open Classical

/-! ### The order of paths -/

theorem ltL_iff : ∀ (l m : List UInt8), ltL l m = true ↔ l < m
  | [], [] => by simp [ltL]
  | _ :: _, [] => by simp [ltL]
  | [], _ :: _ => by simp [ltL]
  | a :: l, b :: m => by
    rw [List.cons_lt_cons_iff, ← ltL_iff l m]
    simp only [ltL]
    by_cases h : a < b
    · have h' : a.toNat < b.toNat := UInt8.lt_iff_toNat_lt.1 h
      have hb : Nat.blt a.toNat b.toNat = true := Nat.ble_eq.mpr h'
      simp [hb, h]
    · have h' : ¬ a.toNat < b.toNat := fun x => h (UInt8.lt_iff_toNat_lt.2 x)
      have hb : Nat.blt a.toNat b.toNat = false := by
        cases hx : Nat.blt a.toNat b.toNat with
        | false => rfl
        | true => exact absurd (Nat.le_of_ble_eq_true hx) h'
      by_cases e : a = b
      · subst e
        simp [hb, h]
      · have he : Nat.beq a.toNat b.toNat = false := by
          cases hx : Nat.beq a.toNat b.toNat with
          | false => rfl
          | true => exact absurd (UInt8.toNat_inj.1 (Nat.eq_of_beq_eq_true hx)) e
        simp [hb, he, h, e]

theorem ltL_tri : ∀ {l m : List UInt8}, ltL l m = false → ltL m l = false → l = m
  | [], [], _, _ => rfl
  | _ :: _, [], _, h => by simp [ltL] at h
  | [], _ :: _, h, _ => by simp [ltL] at h
  | a :: l, b :: m, h1, h2 => by
    simp only [ltL] at h1 h2
    cases hab : Nat.blt a.toNat b.toNat with
    | true => rw [hab] at h1; cases h1
    | false =>
      cases hba : Nat.blt b.toNat a.toNat with
      | true => rw [hba] at h2; cases h2
      | false =>
        have h3 : ¬ a.toNat < b.toNat := fun h => by
          have : Nat.blt a.toNat b.toNat = true := Nat.ble_eq.mpr h
          rw [hab] at this; cases this
        have h4 : ¬ b.toNat < a.toNat := fun h => by
          have : Nat.blt b.toNat a.toNat = true := Nat.ble_eq.mpr h
          rw [hba] at this; cases this
        have e : a.toNat = b.toNat := by omega
        have hb1 : Nat.beq a.toNat b.toNat = true := by rw [e]; exact Nat.beq_refl _
        have hb2 : Nat.beq b.toNat a.toNat = true := by rw [e]; exact Nat.beq_refl _
        rw [hab, hb1] at h1
        rw [hba, hb2] at h2
        rw [UInt8.toNat_inj.1 e, ltL_tri h1 h2]

theorem pathL_inj {p q : ByteArray} (h : pathL p = pathL q) : p = q := bytes_ext h

theorem paths_nodup {T : TreeD} (h : ND T) : (treePaths T).Nodup := by
  refine (sortL_perm _).nodup_iff.2 ?_
  have h1 := h.1
  exact List.pairwise_map.2 ((List.pairwise_map.1 h1).imp fun hab e => hab (pathL_inj e))

theorem paths_sorted {T : TreeD} (h : ND T) : (treePaths T).Pairwise fun a b => ltL a b = true := by
  have hs : (treePaths T).Pairwise fun a b => a ≤ b := by
    have tr : ∀ a b c : List UInt8, decide (a ≤ b) = true → decide (b ≤ c) = true → decide (a ≤ c) = true := fun a b c h1 h2 => by
      simp only [decide_eq_true_eq] at *; exact List.le_trans h1 h2
    have to : ∀ a b : List UInt8, (decide (a ≤ b) || decide (b ≤ a)) = true := fun a b => by
      simp only [Bool.or_eq_true, decide_eq_true_eq]; exact List.le_total a b
    exact (List.pairwise_mergeSort tr to _).imp fun h => of_decide_eq_true h
  refine (hs.and (paths_nodup h)).imp fun {a b} hab => ?_
  cases h : ltL a b with
  | true => rfl
  | false =>
    refine absurd (ltL_tri h ?_) hab.2
    cases h2 : ltL b a with
    | false => rfl
    | true => exact absurd ((ltL_iff b a).1 h2) (List.not_lt.2 hab.1)

/-! ### Children -/

theorem kids_len (T : TreeD) (p : ByteArray) : (treeKids T p).length = kidsN T p := by
  rw [treeKids, sortL_length, kidsOf, List.length_map, kidsN, List.countP_eq_length_filter]

theorem count_cons {p : ByteArray} {ps : List ByteArray} (hp : p ∉ ps) : ∀ keys : List ByteArray, (keys.countP fun q => decide (parentP q = p)) + (keys.countP fun q => decide (parentP q ∈ ps)) = keys.countP fun q => decide (parentP q ∈ p :: ps)
  | [] => rfl
  | q :: keys => by
    have ih := count_cons hp keys
    rw [List.countP_cons, List.countP_cons, List.countP_cons, ← ih]
    by_cases h1 : parentP q = p
    · have h3 : p ∈ p :: ps := by simp
      simp only [h1, h3, hp, decide_true, decide_false, Bool.false_eq_true, if_true, if_false]
      omega
    · by_cases h2 : parentP q ∈ ps
      · have h3 : parentP q ∈ p :: ps := List.mem_cons_of_mem _ h2
        simp only [h1, h2, h3, decide_true, decide_false, Bool.false_eq_true, if_true, if_false]
        omega
      · have h3 : ¬ parentP q ∈ p :: ps := fun h => by
          rcases List.mem_cons.1 h with h | h
          · exact h1 h
          · exact h2 h
        simp only [h1, h2, h3, decide_false, Bool.false_eq_true, if_false]
        omega

theorem sum_kids (keys : List ByteArray) : ∀ ps : List ByteArray, ps.Nodup → (ps.map fun p => keys.countP fun q => decide (parentP q = p)).sum = keys.countP fun q => decide (parentP q ∈ ps)
  | [], _ => by simp
  | p :: ps, hn => by
    rw [List.nodup_cons] at hn
    rw [List.map_cons, List.sum_cons, sum_kids keys ps hn.2, count_cons hn.1]

theorem parent_root : parentP rootS = ⟨#[]⟩ := by
  unfold parentP cutP
  rw [if_neg fun h => h.2 rfl]

/-- All nodes but the root have one parent at most. -/
theorem kids_sum {T : TreeD} (h : TOk T) (hk : KeysOk T) : ((treePaths T).map fun x => kidsN T (bytesOf x)).sum + 1 ≤ T.nodes.length := by
  have h1 : ((treePaths T).map fun x => kidsN T (bytesOf x)) = (((treePaths T).map bytesOf).map fun p => (T.nodes.map (·.1)).countP fun q => decide (parentP q = p)) := by
    rw [List.map_map]; rfl
  have hn : ((treePaths T).map bytesOf).Nodup := by
    refine List.pairwise_map.2 ((paths_nodup h.nd).imp fun {a b} hab e => hab ?_)
    have := congrArg pathL e
    simpa [pathL, bytesOf] using this
  rw [h1, sum_kids _ _ hn]
  have hr : rootS ∈ T.nodes.map (·.1) := kGet_iff.1 h.root
  obtain ⟨a, b, e⟩ := List.append_of_mem hr
  have hl : T.nodes.length = a.length + (b.length + 1) := by
    have := congrArg List.length e
    simpa using this
  have hnr : ¬ parentP rootS ∈ (treePaths T).map bytesOf := fun hm => by
    rw [parent_root] at hm
    obtain ⟨x, hx, e⟩ := List.mem_map.1 hm
    have hm := paths_mem hx
    obtain ⟨y, hy, e2⟩ := List.mem_map.1 hm
    have := hk y hy
    rw [e2, e] at this
    cases this
  rw [e, List.countP_append, List.countP_cons, if_neg (by simpa using hnr), hl]
  have h2 := List.countP_le_length (p := fun q => decide (parentP q ∈ (treePaths T).map bytesOf)) (l := a)
  have h3 := List.countP_le_length (p := fun q => decide (parentP q ∈ (treePaths T).map bytesOf)) (l := b)
  omega

end
end Go.Proofs.YtbebacffaljckaaGreatDoor
