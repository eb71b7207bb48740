/-
  Contracts: the document's paths: a part.
  Contracts: the document's paths: parts, check, what stands over one, its last part.
  Contracts: the document's tower: New, may, less, Count, drop, Drop.
  Rows of rows: what lies at the front of one, and behind.
  Contracts: the document's tower: Add.
  Contracts: the document's tower: rings, change.
-/
import Derived.Test.YtienbbhelhhfjaaGreatDoorG12
import Derived.Test.YtienbbhelhhfjaaGreatDoorG07
import Derived.Test.YtienbbhelhhfjaaGreatDoorG08
namespace Go.Proofs.YtienbbhelhhfjaaGreatDoor
open Go.Sx Go.RowKit
noncomputable section
open Classical

theorem part_badL {l : List UInt8} {k : Nat} (hk : k < l.length) (h : okByte l[k] = false) : partOk l = false := by
  have : l.all okByte = false := by
    rw [List.all_eq_false]
    exact ⟨l[k], List.getElem_mem hk, by simp [h]⟩
  unfold partOk
  rw [this]; rfl

def refPartS : FSpec := ⟨ByteArray, fun s vs _ => vs = [.string s] ∧ s.data.toList.length ≤ 140737488351232, fun s _ A v A' => A' = A ∧ v = .bool (partOk s.data.toList)⟩

set_option maxRecDepth 100000 in
set_option maxHeartbeats 0 in
theorem refPart_ok : FOk Tryz.prog 79 refPartS := by
  refine fok_v mixed fun (s : ByteArray) vs A hp => ?_
  obtain ⟨rfl, hsz⟩ : vs = [.string s] ∧ s.data.toList.length ≤ 140737488351232 := hp
  refine ⟨noC, tabO Tryz.prog noC noL 60 [(79, 0)], 60, noC_sound _, tabO_sound mixed (noC_sound _) (noL_sound _) _ _, fun blk os out tape D hD => ?_⟩
  conv => lhs; whnf
  refine (hD _).2 ⟨cnt A 3 [0] [] s.data.toList.length fun k => (s.data.toList.take k).all okByte = true, ⟨(0 : Nat), ⟨Nat.zero_le _, by simp⟩, ⟨rfl, trivial⟩, trivial, rfl⟩, fun (k : Nat) hk => ⟨⟨trivial, trivial⟩, trivial, ?_⟩⟩
  simp only [cnt] at hk
  obtain ⟨hkl, hall⟩ := hk
  conv => lhs; whnf
  refine split_dec (fun hlt => ?_) (fun hlt => ?_) <;> (conv => lhs; whnf)
  · have hkl2 : k < s.data.toList.length := by
      have hlt : (k : Int) < (s.data.toList.length : Int) := hlt
      omega
    have i0 : (0 : Int) ≤ (k : Int) ∧ (k : Int) < (s.data.toList.length : Int) := by omega
    refine go_in i0 ?_
    conv => lhs; whnf
    have hg : s.data.toList.getD ((k : Nat) : Int).toNat 0 = s.data.toList[k] := by
      rw [Int.toNat_natCast, List.getD_eq_getElem?_getD, List.getElem?_eq_getElem hkl2]; rfl
    have hbad : okByte s.data.toList[k] = false → refPartS.post s [.string s] A (.bool false) A := fun hb => ⟨rfl, by rw [part_badL hkl2 hb]⟩
    refine split_dec (fun h1 => ?_) (fun h1 => ?_) <;> (conv => lhs; whnf)
    · rw [hg] at h1
      exact (hD _).2 (hbad (by unfold okByte; rw [decide_eq_false (by omega)]; rfl))
    repeat (refine go_in i0 ?_
            conv => lhs; whnf)
    refine split_dec (fun h2 => ?_) (fun h2 => ?_) <;> (conv => lhs; whnf)
    · rw [hg] at h2
      exact (hD _).2 (hbad (by unfold okByte; rw [decide_eq_false (p := (s.data.toList[k]).toNat ≤ 126) (by omega), Bool.and_false]; rfl))
    repeat (refine go_in i0 ?_
            conv => lhs; whnf)
    refine split_dec (fun h3 => ?_) (fun h3 => ?_) <;> (conv => lhs; whnf)
    · rw [hg] at h3
      have e : s.data.toList[k] = 47 := UInt8.toNat_inj.1 (Int.ofNat.inj h3)
      exact (hD _).2 (hbad (by rw [e]; rfl))
    rw [hg] at h1 h2 h3
    have hok : okByte s.data.toList[k] = true := by
      have e : s.data.toList[k] ≠ 47 := fun e => h3 (by rw [e]; rfl)
      unfold okByte
      rw [decide_eq_true (by omega), decide_eq_true (by omega)]
      simpa using e
    refine (hD _).2 ⟨(k + 1 : Nat), ⟨⟨by omega, ?_⟩, ⟨inc_slot (by omega), trivial⟩, trivial, rfl⟩, by show s.data.toList.length - (k + 1) < s.data.toList.length - k; omega, ⟨same1 rfl rfl, trivial⟩, trivial⟩
    show (s.data.toList.take (k + 1)).all okByte = true
    rw [List.take_succ_eq_append_getElem hkl2, List.all_append, hall]
    simpa using hok
  · have e : k = s.data.toList.length := by
      have hlt : ¬ (k : Int) < (s.data.toList.length : Int) := hlt
      omega
    rw [e, List.take_length] at hall
    have hend : ∀ b, b = (!s.data.toList.isEmpty && !(s.data.toList == [46]) && !(s.data.toList == [46, 46])) → refPartS.post s [.string s] A (.bool b) A := fun b hb => ⟨rfl, by rw [hb, partOk, hall, Bool.true_and]⟩
    refine split_b (fun h1 => ?_) (fun h1 => ?_) <;> (conv => lhs; whnf)
    rotate_left
    · have h1 : (!beqL s.data.toList []) = false := h1
      have e : s.data.toList = [] := beqL_iff.1 (by simpa using h1)
      exact (hD _).2 (hend false (by rw [e]; rfl))
    have h1 : (!beqL s.data.toList []) = true := h1
    have e1 : s.data.toList.isEmpty = false := by
      cases h : s.data.toList with
      | nil => rw [h] at h1; exact absurd h1 (by decide)
      | cons x xs => rfl
    refine split_b (fun h2 => ?_) (fun h2 => ?_) <;> (conv => lhs; whnf)
    rotate_left
    · have h2 : (!beqL s.data.toList [46]) = false := h2
      have e : s.data.toList = [46] := beqL_iff.1 (by simpa using h2)
      exact (hD _).2 (hend false (by rw [e]; rfl))
    have h2 : (!beqL s.data.toList [46]) = true := h2
    rw [beqL_eq] at h2
    have hfin := hend (!beqL s.data.toList [46, 46]) (by rw [beqL_eq, e1, h2]; rfl)
    exact (hD _).2 hfin

end
end Go.Proofs.YtienbbhelhhfjaaGreatDoor

namespace Go.Proofs.YtienbbhelhhfjaaGreatDoor
open Go.Sx Go.RowKit
noncomputable section
open Classical

/-- The parts of a right path. -/
def partsL (l : List UInt8) : List (List UInt8) := if pathOk l = true ∧ l ≠ [47] then splitL (l.drop 1) else []

theorem splitL_mem_len : ∀ (l y : List UInt8), y ∈ splitL l → y.length ≤ l.length
  | [], y, h => by
    simp only [splitL, List.mem_singleton] at h
    subst h; simp
  | b :: l, y, h => by
    have ih := splitL_mem_len l
    simp only [splitL] at h
    cases hb : b == 47 with
    | true =>
      rw [hb] at h
      simp only [cond_true] at h
      rcases List.mem_cons.1 h with e | h
      · subst e; simp
      · have := ih y h; simp; omega
    | false =>
      rw [hb] at h
      simp only [cond_false] at h
      cases hs : splitL l with
      | nil => exact absurd hs (splitL_ne l)
      | cons x xs =>
        rw [hs] at h
        simp only at h
        rcases List.mem_cons.1 h with e | h
        · subst e
          have := ih x (by rw [hs]; simp)
          simp; omega
        · have := ih y (by rw [hs]; simp [h])
          simp; omega

def refPartsS : FSpec := ⟨ByteArray, fun s vs _ => vs = [.string s] ∧ s.data.toList.length ≤ 140737488351232,
  fun s _ A v A' => A.Sub A' ∧ ∃ x, v = .tuple #[x, .bool (pathOk s.data.toList)] ∧ Sl (A'.minus A) 1 (partsL s.data.toList).length x ((partsL s.data.toList).map strV)⟩

set_option maxRecDepth 100000 in
set_option maxHeartbeats 0 in
theorem refParts_ok : FOk Tryz.prog 57 refPartsS := by
  refine fok_v mixed fun (s : ByteArray) vs A hp => ?_
  obtain ⟨rfl, hsz⟩ : vs = [.string s] ∧ s.data.toList.length ≤ 140737488351232 := hp
  have hC : CTSound Tryz.prog (lookC [specE 78 splitS, specE 79 refPartS] noC) := lookC_sound (noC_sound _) (fun x hx => by
    simp only [List.mem_cons, List.not_mem_nil, or_false] at hx
    rcases hx with rfl | rfl
    · exact specE_ok split_ok
    · exact specE_ok refPart_ok)
  refine ⟨_, tabO Tryz.prog _ noL 60 [(57, 0)], 60, hC, tabO_sound mixed hC (noL_sound _) _ _, fun blk os out tape D hD => ?_⟩
  obtain ⟨l, hl⟩ : ∃ l, l = s.data.toList := ⟨_, rfl⟩
  have hbad2 : ∀ A2, A.Sub A2 → pathOk l = false → refPartsS.post s [.string s] A (.tuple #[.slice none 0 0, .bool false]) A2 := fun A2 h2 hb => by
    refine ⟨h2, .slice none 0 0, by rw [← hl, hb], ?_⟩
    have e : partsL s.data.toList = [] := by rw [← hl, partsL, if_neg (by rw [hb]; simp)]
    rw [e]
    exact Sl.nil _ _
  have hbad := hbad2 A (Arena.Sub.refl _)
  conv => lhs; whnf
  refine split_dec (fun h1 => ?_) (fun h1 => ?_) <;> (conv => lhs; whnf)
  · have h1 : (200 : Int) < (s.data.toList.length : Int) := h1
    exact (hD _).2 (hbad (pathOk_no fun q e => by
      have := congrArg List.length e
      rw [List.length_cons, hl] at this
      omega))
  refine split_dec (fun h2 => ?_) (fun h2 => ?_) <;> (conv => lhs; whnf)
  · have h2 : (s.data.toList.length : Int) = 0 := h2
    exact (hD _).2 (hbad (pathOk_no fun q e => by
      have := congrArg List.length e
      rw [List.length_cons, hl] at this
      omega))
  have hlen : s.data.toList.length ≤ 200 := by
    have h1 : ¬ (200 : Int) < (s.data.toList.length : Int) := h1
    omega
  have hpos : 0 < s.data.toList.length := by
    have h2 : ¬ (s.data.toList.length : Int) = 0 := h2
    omega
  have i00 : (0 : Int) ≤ (0 : Int) ∧ (0 : Int) < (s.data.toList.length : Int) := by omega
  refine go_in i00 ?_
  conv => lhs; whnf
  obtain ⟨b, q, hbq⟩ : ∃ b q, s.data.toList = b :: q := by
    cases h : s.data.toList with
    | nil => rw [h] at hpos; exact absurd hpos (Nat.lt_irrefl _)
    | cons b q => exact ⟨b, q, rfl⟩
  have hg0 : s.data.toList.getD (Int.toNat 0) 0 = b := by rw [hbq]; rfl
  refine split_b (fun h3 => ?_) (fun h3 => ?_) <;> (conv => lhs; whnf)
  · have h3 : (!decide (((s.data.toList.getD (Int.toNat 0) 0).toNat : Int) = 47)) = true := h3
    rw [hg0] at h3
    refine (hD _).2 (hbad (pathOk_no fun q' e => ?_))
    rw [hl, hbq] at e
    injection e with e
    rw [e] at h3
    exact absurd h3 (by decide)
  have hb : b = 47 := by
    have h3 : (!decide (((s.data.toList.getD (Int.toNat 0) 0).toNat : Int) = 47)) = false := h3
    rw [hg0] at h3
    have h4 : ((b.toNat : Nat) : Int) = 47 := by simpa using h3
    exact UInt8.toNat_inj.1 (Int.ofNat.inj h4)
  rw [hb] at hbq
  refine split_b (fun h4 => ?_) (fun h4 => ?_) <;> (conv => lhs; whnf)
  · have h4 : s.data.toList = [47] := beqL_iff.1 h4
    have hend : refPartsS.post s [.string s] A (.tuple #[.slice none 0 0, .bool true]) A := by
      refine ⟨Arena.Sub.refl _, .slice none 0 0, by rw [h4]; rfl, ?_⟩
      have e : partsL s.data.toList = [] := by rw [partsL, if_neg (by simp [h4])]
      rw [e]
      exact Sl.nil _ _
    exact (hD _).2 hend
  have hq0 : q ≠ [] := fun e => by
    have h4 : ¬ s.data.toList = [47] := beqL_ff.1 h4
    exact h4 (by rw [hbq, e])
  have hqe : (s.data.toList.drop 1).take (s.data.toList.length - 1) = q := by
    rw [hbq]
    simp
  have hql : q.length ≤ 199 := by
    rw [hbq, List.length_cons] at hlen
    omega
  refine go_b (bnd_from (x := 1) (k := 1) rfl (show 1 ≤ s.data.toList.length by omega)) ?_
  conv => lhs; whnf
  refine (hD _).2 ⟨(s.data.toList.drop 1).take (s.data.toList.length - 1), ⟨rfl, by rw [hqe]; omega⟩, fun v A1 hq => ?_⟩
  have hq : A.Sub A1 ∧ Sl (A1.minus A) 1 (splitL ((s.data.toList.drop 1).take (s.data.toList.length - 1))).length v ((splitL ((s.data.toList.drop 1).take (s.data.toList.length - 1))).map strV) := hq
  rw [hqe] at hq
  obtain ⟨ps, hps⟩ : ∃ ps, ps = splitL q := ⟨_, rfl⟩
  have hpl : ps.length ≤ 200 := by
    rw [hps, splitL_len]
    have := List.count_le_length (a := (47 : UInt8)) (l := q)
    omega
  rw [← hps] at hq
  obtain ⟨s1, hS⟩ := hq
  have hS0 := hS
  obtain ⟨ao, c, rfl, hc, hsl, ha1, ha2, ha3⟩ := hS
  conv => lhs; whnf
  have hpk : pathOk l = ps.all partOk := by
    have e : q.isEmpty = false := by
      cases q with
      | nil => exact absurd rfl hq0
      | cons x xs => rfl
    rw [hl, hbq]
    show (decide (q.length < 200) && restOk q) = _
    rw [decide_eq_true (by omega), restOk, e, hps]
    rfl
  refine (hD _).2 ⟨cnt A1 5 [0, 4] [] ps.length fun k => (ps.take k).all partOk = true, ⟨(0 : Nat), ⟨Nat.zero_le _, by simp⟩, ⟨rfl, trivial⟩, trivial, rfl⟩, fun (k : Nat) hk => ⟨⟨trivial, trivial⟩, trivial, ?_⟩⟩
  simp only [cnt] at hk
  obtain ⟨hkl, hall⟩ := hk
  conv => lhs; whnf
  refine split_dec (fun hlt => ?_) (fun hlt => ?_) <;> (conv => lhs; whnf)
  · have hkl2 : k < ps.length := by
      have hlt : (k : Int) < (ps.length : Int) := hlt
      omega
    obtain ⟨g, o, rfl, hra⟩ := Sl.at_ hc ha1 ha2 ha3 (by omega)
    have r1 := rd_sub (minus_sub A A1) (text_at hra k hkl2 rfl)
    have i0 : (0 : Int) ≤ (k : Int) ∧ (k : Int) < (ps.length : Int) := by omega
    repeat (first | refine go_in i0 ?_ | refine go_rd r1 ?_
            conv => lhs; whnf)
    have hpkl : ps[k].length ≤ 1000 := by
      have h1 : ∀ (l : List UInt8) (y : List UInt8), y ∈ splitL l → y.length ≤ l.length := splitL_mem_len
      have := h1 q ps[k] (by rw [← hps]; exact List.getElem_mem _)
      omega
    refine (hD _).2 ⟨(⟨ps[k].toArray⟩ : ByteArray), ⟨rfl, by show ps[k].length ≤ _; omega⟩, fun v A9 hq => ?_⟩
    have hq : A9 = A1 ∧ v = .bool (partOk ps[k]) := hq
    have h9 := hq.1.symm
    have hv := hq.2
    subst h9
    by_cases hok : partOk ps[k] = true
    rotate_left
    · have hok : partOk ps[k] = false := by simpa using hok
      rw [hok] at hv
      subst hv
      have hend := hbad2 A1 s1 (by
        rw [hpk, List.all_eq_false]
        exact ⟨ps[k], List.getElem_mem _, by simp [hok]⟩)
      conv => lhs; whnf
      exact (hD _).2 hend
    rw [hok] at hv
    subst hv
    conv => lhs; whnf
    refine (hD _).2 ⟨(k + 1 : Nat), ⟨⟨by omega, ?_⟩, ⟨inc_slot (by omega), trivial⟩, trivial, rfl⟩, by show ps.length - (k + 1) < ps.length - k; omega, ⟨same1 rfl rfl, same1 rfl rfl, trivial⟩, trivial⟩
    show (ps.take (k + 1)).all partOk = true
    rw [List.take_succ_eq_append_getElem hkl2, List.all_append, hall]
    simpa using hok
  · have e : k = ps.length := by
      have hlt : ¬ (k : Int) < (ps.length : Int) := hlt
      omega
    rw [e, List.take_length] at hall
    have hend : refPartsS.post s [.string s] A (.tuple #[.slice ao ps.length c, .bool true]) A1 := by
      have hk1 : pathOk s.data.toList = true := by rw [← hl, hpk]; exact hall
      have e2 : partsL s.data.toList = ps := by
        rw [partsL, if_pos ⟨hk1, by rw [hbq]; intro e; injection e with _ e; exact hq0 e⟩, hbq, hps]; rfl
      refine ⟨s1, .slice ao ps.length c, by rw [hk1], ?_⟩
      rw [e2]
      exact hS0
    exact (hD _).2 hend

/-! ### Check, Parent, Base -/

theorem refPartsC : CTSound Tryz.prog (lookC [specE 57 refPartsS, specE 107 joinS] noC) := lookC_sound (noC_sound _) (fun x hx => by
  simp only [List.mem_cons, List.not_mem_nil, or_false] at hx
  rcases hx with rfl | rfl
  · exact specE_ok refParts_ok
  · exact specE_ok join_ok)

def refCheckS : FSpec := ⟨ByteArray, fun s vs _ => vs = [.string s] ∧ s.data.toList.length ≤ 140737488351232, fun s _ A v A' => A.Sub A' ∧ v = .bool (pathOk s.data.toList)⟩
def refParentS : FSpec := ⟨ByteArray, fun s vs _ => vs = [.string s] ∧ s.data.toList.length ≤ 140737488351232, fun s _ A v A' => A.Sub A' ∧ v = .string (parentP s)⟩
def refBaseS : FSpec := ⟨ByteArray, fun s vs _ => vs = [.string s] ∧ s.data.toList.length ≤ 140737488351232, fun s _ A v A' => A.Sub A' ∧ v = .string (baseP s)⟩

set_option maxRecDepth 100000 in
set_option maxHeartbeats 0 in
theorem refCheck_ok : FOk Tryz.prog 29 refCheckS := by
  refine fok_v mixed fun (s : ByteArray) vs A hp => ?_
  obtain ⟨rfl, hsz⟩ : vs = [.string s] ∧ s.data.toList.length ≤ 140737488351232 := hp
  refine ⟨_, noL, 60, refPartsC, noL_sound _, fun blk os out tape D hD => ?_⟩
  conv => lhs; whnf
  refine (hD _).2 ⟨s, ⟨rfl, hsz⟩, fun v A' hq => ?_⟩
  have hq : A.Sub A' ∧ ∃ x, v = .tuple #[x, .bool (pathOk s.data.toList)] ∧ Sl (A'.minus A) 1 (partsL s.data.toList).length x ((partsL s.data.toList).map strV) := hq
  obtain ⟨s1, x, hv, hS⟩ := hq
  subst hv
  have hend : refCheckS.post s [.string s] A (.bool (pathOk s.data.toList)) A' := ⟨s1, rfl⟩
  conv => lhs; whnf
  exact (hD _).2 hend

theorem parts_facts (s : ByteArray) : (partsL s.data.toList = [] → parentP s = ⟨#[]⟩ ∧ baseP s = ⟨#[]⟩) ∧ (∀ h : partsL s.data.toList ≠ [], parentP s = ⟨(47 :: Lib.join ((partsL s.data.toList).take ((partsL s.data.toList).length - 1)) [47]).toArray⟩ ∧ baseP s = ⟨((partsL s.data.toList).getLast h).toArray⟩) ∧ (partsL s.data.toList).length ≤ 200 ∧ (Lib.join ((partsL s.data.toList).take ((partsL s.data.toList).length - 1)) [47]).length ≤ 200 := by
  by_cases hk : pathOk s.data.toList = true ∧ s.data.toList ≠ [47]
  · obtain ⟨q, hq, hl, _⟩ := pathOk_head hk.1
    have hq0 : q ≠ [] := fun e => hk.2 (by rw [hq, e])
    have e : partsL s.data.toList = splitL q := by rw [partsL, if_pos hk, hq]; rfl
    have hpp := parent_parts (by rw [← hq]; exact hk.1) hq0
    rw [← hq] at hpp
    have hlen : (splitL q).length ≤ 200 := by
      rw [splitL_len]
      have := List.count_le_length (a := (47 : UInt8)) (l := q)
      omega
    rw [e]
    have hdl : (splitL q).take ((splitL q).length - 1) = (splitL q).dropLast := by rw [List.dropLast_eq_take]
    rw [hdl]
    refine ⟨fun h => absurd h (splitL_ne q), fun h => ⟨?_, ?_⟩, hlen, ?_⟩
    · unfold parentP
      rw [hpp.1]
    · unfold baseP
      have h2 := hpp.2
      rw [List.getLast?_eq_some_getLast h] at h2
      injection h2 with h2
      rw [h2]
    · have h1 := hpp.1
      have h3 : (cutP s.data.toList).1.length ≤ s.data.toList.length := by
        rw [cutP, if_pos hk]
        exact List.length_take_le' _ _
      rw [h1, List.length_cons, hq, List.length_cons] at h3
      omega
  · have e : partsL s.data.toList = [] := by rw [partsL, if_neg hk]
    rw [e]
    refine ⟨fun _ => ?_, fun h => absurd rfl h, by simp, by simp [Lib.join_nil]⟩
    unfold parentP baseP
    rw [cutP, if_neg hk]
    exact ⟨rfl, rfl⟩

set_option maxRecDepth 100000 in
set_option maxHeartbeats 0 in
theorem refParent_ok : FOk Tryz.prog 67 refParentS := by
  refine fok_v mixed fun (s : ByteArray) vs A hp => ?_
  obtain ⟨rfl, hsz⟩ : vs = [.string s] ∧ s.data.toList.length ≤ 140737488351232 := hp
  refine ⟨_, noL, 60, refPartsC, noL_sound _, fun blk os out tape D hD => ?_⟩
  conv => lhs; whnf
  refine (hD _).2 ⟨s, ⟨rfl, hsz⟩, fun v A' hq => ?_⟩
  have hq : A.Sub A' ∧ ∃ x, v = .tuple #[x, .bool (pathOk s.data.toList)] ∧ Sl (A'.minus A) 1 (partsL s.data.toList).length x ((partsL s.data.toList).map strV) := hq
  obtain ⟨hf1, hf2, hf3, hf4⟩ := parts_facts s
  obtain ⟨ps, hps⟩ : ∃ ps, ps = partsL s.data.toList := ⟨_, rfl⟩
  rw [← hps] at hq hf1 hf2 hf3 hf4
  obtain ⟨s1, x, hv, ao, c, rfl, hc, hsl, ha1, ha2, ha3⟩ := hq
  subst hv
  conv => lhs; whnf
  refine split_dec (fun h0 => ?_) (fun h0 => ?_) <;> (conv => lhs; whnf)
  · have h0 : (ps.length : Int) = 0 := h0
    have e : ps = [] := List.length_eq_zero_iff.1 (by omega)
    have hend : refParentS.post s [.string s] A (.string ⟨#[]⟩) A' := ⟨s1, by rw [(hf1 e).1]⟩
    exact (hD _).2 hend
  have hpos : 0 < ps.length := by
    have h0 : ¬ (ps.length : Int) = 0 := h0
    omega
  have hne : ps ≠ [] := fun e => by rw [e] at hpos; exact absurd hpos (Nat.lt_irrefl _)
  obtain ⟨g, o, rfl, hra⟩ := Sl.at_ hc ha1 ha2 ha3 hpos
  have hx : IntKind.i64.wrap ((ps.length : Int) - 1) = ((ps.length - 1 : Nat) : Int) := by
    rw [Sx.wrap_i64 (by omega) (by omega)]; omega
  conv => lhs; whnf
  refine go_b (bnd_to hx (show ps.length - 1 ≤ c by omega)) ?_
  have hJ : Sl A' 1 (ps.take (ps.length - 1)).length (.slice (some ⟨g, o + bif Nat.beq c 0 then 0 else 0 * 1, none⟩) ((IntKind.i64.wrap ((ps.length : Int) - 1)).toNat - 0) (c - 0)) ((ps.take (ps.length - 1)).map strV) := by
    have e0 : (o + bif Nat.beq c 0 then 0 else 0 * 1) = o := by cases Nat.beq c 0 <;> rfl
    have e1 : (ps.take (ps.length - 1)).length = ps.length - 1 := by rw [List.length_take]; omega
    rw [hx, Int.toNat_natCast, Nat.sub_zero, e0, e1, Nat.sub_zero]
    refine Sl.row (by omega) ?_
    have := rd_at (rd_sub (minus_sub A A') hra) (i := 0) (m := (ps.length - 1) * 1) (by omega)
    rw [Nat.add_zero, List.drop_zero, ← List.map_take] at this
    rw [Nat.mul_one] at this ⊢
    exact this
  have hJl : (ps.take (ps.length - 1)).length ≤ 1000 := by rw [List.length_take]; omega
  conv => lhs; whnf
  refine (hD _).2 ⟨ps.take (ps.length - 1), ⟨_, rfl, hJ, hJl, by omega⟩, fun v A9 hq => ?_⟩
  have hq : A9 = A' ∧ v = .string ⟨(Lib.join (ps.take (ps.length - 1)) [47]).toArray⟩ := hq
  have h9 := hq.1.symm
  have hv := hq.2
  subst h9
  subst hv
  have hend : refParentS.post s [.string s] A (.string ⟨(47 :: Lib.join (ps.take (ps.length - 1)) [47]).toArray⟩) A' := ⟨s1, by rw [(hf2 hne).1]⟩
  conv => lhs; whnf
  refine go_b (Nat.ble_eq_true_of_le (show 1 + (Lib.join (ps.take (ps.length - 1)) [47]).length ≤ 9223372036854775807 by omega)) ?_
  conv => lhs; whnf
  exact (hD _).2 hend

end
end Go.Proofs.YtienbbhelhhfjaaGreatDoor

namespace Go.Proofs.YtienbbhelhhfjaaGreatDoor
open Go.Sx Go.RowKit
noncomputable section
open Classical

def rNewS : FSpec := ⟨Unit, fun _ vs _ => vs = [], fun _ _ A v A' => A.Sub A' ∧ ∃ r, v = .pointer (some ⟨r, 0, none⟩) ∧ RtAt A' Arena.void r [] ∧ A.blk r = none⟩

def alRef : TypeId → Bool := fun t => Nat.beq t 67

set_option maxRecDepth 100000 in
set_option maxHeartbeats 0 in
theorem rNew_ok : FOk Tryz.prog 6 rNewS := by
  refine fok_a mixed alRef fun _ vs A hp => ?_
  obtain rfl : vs = [] := hp
  refine ⟨noC, noL, 60, noC_sound _, noL_sound _, fun blk os out tape D hD => ?_⟩
  conv => lhs; whnf
  refine (hD _).2 fun r A1 hN => ?_
  have hN : A.New A1 r #[.slice none 0 0] 67 := hN
  have hend : rNewS.post () [] A (.pointer (some ⟨r, 0, none⟩)) A1 := ⟨hN.sub, r, rfl, ⟨⟨_, Arena.void, CellsAt.new hN, GrowR.nil _ _ _ _⟩, fun _ _ h => (by cases h), rfl, by simp⟩, hN.none_⟩
  conv => lhs; whnf
  exact (hD _).2 hend

def rMayS : FSpec := ⟨Int × ByteArray, fun g vs _ => vs = [.int .u8 g.1, .string g.2] ∧ g.2.data.toList.length ≤ 140737488351232, fun g _ A v A' => A.Sub A' ∧ v = .bool (mayD g.1 g.2)⟩

set_option maxRecDepth 100000 in
set_option maxHeartbeats 0 in
theorem rMay_ok : FOk Tryz.prog 19 rMayS := by
  refine fok_v mixed fun ⟨sort, p⟩ vs A hp => ?_
  obtain ⟨rfl, hpl⟩ : vs = [.int .u8 sort, .string p] ∧ p.data.toList.length ≤ 140737488351232 := hp
  have hC : CTSound Tryz.prog (lookC [specE 29 refCheckS] noC) := lookC_sound (noC_sound _) (fun x hx => by
    simp only [List.mem_singleton] at hx
    subst hx; exact specE_ok refCheck_ok)
  refine ⟨_, noL, 60, hC, noL_sound _, fun blk os out tape D hD => ?_⟩
  by_cases h1 : (1 : Int) ≤ sort
  · by_cases h3 : sort ≤ 3
    · conv => lhs; whnf
      repeat (first | refine go_dec h1 ?_ | refine go_dec h3 ?_
              conv => lhs; whnf)
      refine (hD _).2 ⟨p, ⟨rfl, hpl⟩, fun v A1 hq => ?_⟩
      obtain ⟨h9, hv⟩ : A.Sub A1 ∧ v = .bool (pathOk p.data.toList) := hq
      subst hv
      have hend : rMayS.post (sort, p) [] A (.bool (pathOk p.data.toList)) A1 := ⟨h9, by
        unfold mayD
        rw [decide_eq_true h1, decide_eq_true h3]
        rfl⟩
      conv => lhs; whnf
      exact (hD _).2 hend
    · conv => lhs; whnf
      repeat (first | refine go_dec h1 ?_ | refine no_dec h3 ?_
              conv => lhs; whnf)
      refine (hD _).2 ⟨Arena.Sub.refl _, ?_⟩
      unfold mayD
      rw [decide_eq_false h3, Bool.and_false, Bool.false_and]
  · conv => lhs; whnf
    repeat (first | refine no_dec h1 ?_
            conv => lhs; whnf)
    refine (hD _).2 ⟨Arena.Sub.refl _, ?_⟩
    unfold mayD
    rw [decide_eq_false h1, Bool.false_and, Bool.false_and]

def rLessS : FSpec := ⟨WatchD × WatchD, fun g vs _ => vs = [.agg g.1.cells.toArray, .agg g.2.cells.toArray], fun g _ A v A' => A' = A ∧ v = .bool (decide (wLt g.1 g.2))⟩

set_option maxRecDepth 100000 in
set_option maxHeartbeats 0 in
theorem rLess_ok : FOk Tryz.prog 21 rLessS := by
  refine fok_v mixed fun ⟨⟨c, s, p⟩, ⟨c', s', p'⟩⟩ vs A hp => ?_
  obtain rfl : vs = [.agg (WatchD.cells ⟨c, s, p⟩).toArray, .agg (WatchD.cells ⟨c', s', p'⟩).toArray] := hp
  refine ⟨noC, noL, 60, noC_sound _, noL_sound _, fun blk os out tape D hD => ?_⟩
  have fin : ∀ b : Bool, (b = true ↔ wLt ⟨c, s, p⟩ ⟨c', s', p'⟩) → rLessS.post (⟨c, s, p⟩, ⟨c', s', p'⟩) [] A (.bool b) A := fun b h => ⟨rfl, by
    show Value.bool b = .bool (decide (wLt _ _))
    by_cases hb : b = true
    · rw [decide_eq_true (h.1 hb), hb]
    · rw [decide_eq_false fun k => hb (h.2 k)]
      simpa using hb⟩
  by_cases hc : c = c'
  · subst hc
    by_cases hs : s = s'
    · subst hs
      have hend := fin (ltL p.data.toList p'.data.toList) (by simp [wLt])
      conv => lhs; whnf
      repeat (refine split_nd (fun _ => ?_) (fun h => absurd rfl h)
              conv => lhs; whnf)
      exact (hD _).2 hend
    · have hend := fin (decide (s < s')) (by simp [wLt, hs])
      conv => lhs; whnf
      repeat (first | refine split_nd (fun _ => ?_) (fun h => absurd rfl h) | refine split_nd (fun h => absurd h hs) (fun _ => ?_)
              conv => lhs; whnf)
      exact (hD _).2 hend
  · have hend := fin (decide (c < c')) (by simp [wLt, hc])
    conv => lhs; whnf
    repeat (first | refine split_nd (fun h => absurd h hc) (fun _ => ?_)
            conv => lhs; whnf)
    exact (hD _).2 hend

def rCountS : FSpec := ⟨Arena × Nat × List WatchD, fun g vs A => vs = [.pointer (some ⟨g.2.1, 0, none⟩)] ∧ RtAt A g.1 g.2.1 g.2.2, fun g _ A v A' => A' = A ∧ v = .int .i64 g.2.2.length⟩

set_option maxRecDepth 100000 in
set_option maxHeartbeats 0 in
theorem rCount_ok : FOk Tryz.prog 13 rCountS := by
  refine fok_v mixed fun ⟨S, r, l⟩ vs A hp => ?_
  obtain ⟨rfl, hR⟩ : vs = [.pointer (some ⟨r, 0, none⟩)] ∧ RtAt A S r l := hp
  obtain ⟨v, htop, hsl⟩ := hR.old
  obtain ⟨ao, c, rfl⟩ := hsl.form
  have htop : A.rd r 0 1 = some [.slice ao l.length c] := htop.rd (o := 0) (n := 1) (by show 0 + 1 ≤ 1; omega)
  refine ⟨noC, noL, 60, noC_sound _, noL_sound _, fun blk os out tape D hD => ?_⟩
  conv => lhs; whnf
  repeat (first | refine go_rd htop ?_ | refine go_D hD rfl ?_
          conv => lhs; whnf)
  exact (hD _).2 ⟨rfl, rfl⟩

/-- Watches that are left: they go to a new row. -/
structure RdL where
  k : Nat
  A : Arena
  v : Value

def leftInv (A0 : Arena) (s1 s2 : Nat) (keep kb : List Nat) (l : List WatchD) (f : WatchD → Bool) : LInv :=
  { γ := RdL, G := fun g => g.k ≤ l.length ∧ A0.Sub g.A ∧ GrowR A0 g.A 3 72 ((l.take g.k).filter f).length g.v (((l.take g.k).filter f).flatMap WatchD.cells),
    keepS := keep, keepB := kb, sl := fun g => [(s1, .v g.v), (s2, .v (.int .i64 g.k))], bl := fun _ => [], ar := fun g => g.A, mu := fun g => l.length - g.k }

def rDropS : FSpec := ⟨Arena × Nat × List WatchD × WatchD, fun g vs A => vs = [.pointer (some ⟨g.2.1, 0, none⟩), .agg g.2.2.2.cells.toArray] ∧ RtAt A g.1 g.2.1 g.2.2.1, fun g _ A _ A' => RtTo A g.1 g.2.1 (g.2.2.1.filter fun w => !decide (w = g.2.2.2)) A'⟩

set_option maxRecDepth 100000 in
set_option maxHeartbeats 0 in
theorem rDrop_ok : FOk Tryz.prog 20 rDropS := by
  refine fok_v mixed fun ⟨S, r, l, ⟨c, so, p⟩⟩ vs A hp => ?_
  obtain ⟨rfl, hR⟩ : vs = [.pointer (some ⟨r, 0, none⟩), .agg (WatchD.cells ⟨c, so, p⟩).toArray] ∧ RtAt A S r l := hp
  obtain ⟨v, htopC, hsl⟩ := hR.old
  obtain ⟨ao, cp, rfl, hc, _, ha1, ha2, ha3⟩ := hsl.sub hR.sub
  have htop : A.rd r 0 1 = some [.slice ao l.length cp] := htopC.rd (o := 0) (n := 1) (by show 0 + 1 ≤ 1; omega)
  refine ⟨noC, tabO Tryz.prog noC noL 60 [(20, 0)], 60, noC_sound _, tabO_sound mixed (noC_sound _) (noL_sound _) _ _, fun blk os out tape D hD => ?_⟩
  have htk : ∀ A1 : Arena, A.Sub A1 → A1.rd r 0 1 = some [.slice ao l.length cp] := fun A1 h1 => rd_sub h1 htop
  conv => lhs; whnf
  refine (hD _).2 ⟨leftInv A 4 5 [0, 3] [0] l fun w => !decide (w = (⟨c, so, p⟩ : WatchD)), ⟨(⟨0, A, .slice none 0 0⟩ : RdL), ⟨⟨Nat.zero_le _, Arena.Sub.refl _, GrowR.nil _ _ _ _⟩, ⟨rfl, rfl, trivial⟩, trivial, rfl⟩⟩, fun (g : RdL) hG => ⟨⟨trivial, trivial, trivial⟩, trivial, ?_⟩⟩
  obtain ⟨k, As, v1⟩ := g
  obtain ⟨hk, hs, hGr⟩ : k ≤ l.length ∧ A.Sub As ∧ GrowR A As 3 72 ((l.take k).filter fun w => !decide (w = (⟨c, so, p⟩ : WatchD))).length v1 (((l.take k).filter fun w => !decide (w = (⟨c, so, p⟩ : WatchD))).flatMap WatchD.cells) := hG
  have hts := htk As hs
  conv => lhs; whnf
  repeat (first | refine go_rd hts ?_ | refine go_D hD rfl ?_
          conv => lhs; whnf)
  refine split_dec (fun hlt => ?_) (fun hlt => ?_)
  rotate_left
  · have hkl : k = l.length := by
      have hlt : ¬ ((k : Int) < (l.length : Int)) := hlt
      omega
    rw [hkl, List.take_length] at hGr
    obtain ⟨b9, c9, rfl, hb9, -⟩ := hGr.formN
    conv => lhs; whnf
    refine (hD _).2 ⟨(htopC.sub fun o ho => hs _ _ ho).room (by show 0 + 1 ≤ 1; omega), fun A2 hP => ?_⟩
    have hend : ∀ u, rDropS.post (S, r, l, ⟨c, so, p⟩) [] A u A2 := fun u => RtTo.store hR hs hGr hP (Nat.le_trans (List.length_filter_le _ _) hR.le)
    conv => lhs; whnf
    exact (hD _).2 (hend (.bool false))
  have hlt : (k : Int) < (l.length : Int) := hlt
  have hkl : k < l.length := by omega
  have i0 : (0 : Int) ≤ (k : Int) ∧ (k : Int) < (l.length : Int) := by omega
  have hle := hR.le
  obtain ⟨g, o, rfl, hra⟩ := Sl.at_ hc ha1 ha2 ha3 (by omega)
  have hw := rd_sub hs (watch_at hra k hkl rfl)
  have htake := List.take_succ_eq_append_getElem hkl
  obtain ⟨w, hww⟩ : ∃ w, w = l[k] := ⟨_, rfl⟩
  rw [← hww] at hw htake
  obtain ⟨c', so', p'⟩ := w
  conv => lhs; whnf
  repeat (first | refine go_in i0 ?_ | refine go_rd hts ?_ | refine go_rd hw ?_ | refine go_D hD rfl ?_
          conv => lhs; whnf)
  refine go_D hD (by kernel_rfl) ?_
  conv => lhs; whnf
  have hmu : l.length - (k + 1) < l.length - k := by omega
  refine split_b (fun hb => ?_) (fun hb => ?_)
  rotate_left
  · have he : (⟨c', so', p'⟩ : WatchD) = ⟨c, so, p⟩ := by
      simp only [Bool.not_eq_false', Bool.and_eq_true, decide_eq_true_eq, Bool.and_true] at hb
      obtain ⟨h1, h2, h3⟩ := hb
      have h3 := toList_inj (beqL_iff.1 h3)
      subst h1; subst h2; subst h3; rfl
    have hn : (leftInv A 4 5 [0, 3] [0] l fun w => !decide (w = (⟨c, so, p⟩ : WatchD))).G (⟨k + 1, As, v1⟩ : RdL) := by
      refine ⟨hkl, hs, ?_⟩
      show GrowR A As 3 _ ((l.take (k + 1)).filter _).length v1 (((l.take (k + 1)).filter _).flatMap WatchD.cells)
      rw [htake, List.filter_append, List.filter_cons_of_neg (by rw [decide_eq_true he]; simp), List.filter_nil, List.append_nil]
      exact hGr
    conv => lhs; whnf
    exact (hD _).2 ⟨(⟨k + 1, As, v1⟩ : RdL), ⟨hn, ⟨rfl, inc_slot (by omega), trivial⟩, trivial, rfl⟩, hmu, ⟨same1 rfl rfl, same1 rfl rfl, trivial⟩, ⟨same1 rfl rfl, trivial⟩⟩
  have hne : ¬ (⟨c', so', p'⟩ : WatchD) = ⟨c, so, p⟩ := fun e => by
    injection e with e1 e2 e3
    subst e1; subst e2; subst e3
    rw [show beqL p'.data.toList p'.data.toList = true from beqL_iff.2 rfl] at hb
    simp at hb
  obtain ⟨n1, hn1⟩ : ∃ n, n = ((l.take k).filter fun w => !decide (w = (⟨c, so, p⟩ : WatchD))).length := ⟨_, rfl⟩
  have hn1l : n1 ≤ 1000000 := by
    have h1 := List.length_filter_le (fun w => !decide (w = (⟨c, so, p⟩ : WatchD))) (l.take k)
    have h2 := List.length_take_le k l
    omega
  rw [← hn1] at hGr
  obtain ⟨base, cp1, rfl, hbase, -⟩ := hGr.formN
  have hdn : ∀ k, As.blk k = none → A.blk k = none := fun k hk => by
    cases hA : A.blk k with
    | none => rfl
    | some o => rw [hs k o hA] at hk; cases hk
  have hfin : ∀ u A3 A4, As.Sub A3 → Appended A3 base n1 cp1 3 72 (((l.take k).filter fun w => !decide (w = (⟨c, so, p⟩ : WatchD))).flatMap WatchD.cells) (WatchD.cells ⟨c', so', p'⟩) 1 u A4 → (leftInv A 4 5 [0, 3] [0] l fun w => !decide (w = (⟨c, so, p⟩ : WatchD))).G ⟨k + 1, A4, u⟩ := fun u A3 A4 s3 hAp => by
    have h3 := hGr.sub s3
    obtain ⟨_, hA⟩ := h3.formB
    have hd3 : ∀ k, A3.blk k = none → A.blk k = none := fun k hk => hdn k (by
      cases hA : As.blk k with
      | none => rfl
      | some o => rw [s3 k o hA] at hk; cases hk)
    obtain ⟨k1, k2⟩ := hA 1 _ _ _ rfl hd3 hAp
    refine ⟨hkl, fun b o hb => by rw [k2 b o hb]; exact s3 _ _ (hs b o hb), ?_⟩
    show GrowR A A4 3 _ ((l.take (k + 1)).filter _).length u (((l.take (k + 1)).filter _).flatMap WatchD.cells)
    rw [htake, List.filter_append, List.filter_cons_of_pos (by rw [decide_eq_false hne]; rfl), List.filter_nil, List.length_append, List.flatMap_append, ← hn1]
    exact k1
  rcases hbase with rfl | ⟨g1, rfl⟩ <;> (conv => lhs; whnf)
  all_goals
    repeat (first | refine go_in i0 ?_ | refine go_rd hts ?_ | refine go_rd hw ?_ | refine go_D hD rfl ?_
            conv => lhs; whnf)
    refine (hD _).2 fun gb A3 hN => ?_
    have hN : As.New A3 gb #[.int .i64 c', .int .u8 so', .string p'] 72 := hN
    have hrow3 : A3.rd gb 0 (1 * 3) = some [.int .i64 c', .int .u8 so', .string p'] := hN.rd (o := 0) (n := 1 * 3) (by show 0 + 1 * 3 ≤ 3; omega)
    obtain ⟨hP, _⟩ := (hGr.sub hN.sub).formB
    have hP := hP 1 32 (by omega) (by omega)
    conv => lhs; whnf
    refine (hD _).2 ⟨_, WatchD.cells ⟨c', so', p'⟩, hP.rd, ?_, rfl, ?_, by show n1 + 1 ≤ 9223372036854775807; omega, hP.cap, rfl, hP.none_, fun g' o' he' hle' _ => hP.room 3 rfl g' o' he' hle', fun u A4 hAp => ?_⟩
    · show (if 1 * 3 = 0 then some [] else A3.rd gb 0 (1 * 3)) = _
      rw [if_neg (by omega)]; exact hrow3
    · intro v hv
      simp only [WatchD.cells, List.mem_cons, List.not_mem_nil, or_false] at hv
      rcases hv with rfl | rfl | rfl <;> rfl
    · have hn := hfin u A3 A4 hN.sub hAp
      conv => lhs; whnf
      exact (hD _).2 ⟨(⟨k + 1, A4, u⟩ : RdL), ⟨hn, ⟨rfl, inc_slot (by omega), trivial⟩, trivial, rfl⟩, hmu, ⟨same1 rfl rfl, same1 rfl rfl, trivial⟩, ⟨same1 rfl rfl, trivial⟩⟩

def rDropCS : FSpec := ⟨Arena × Nat × List WatchD × Int, fun g vs A => vs = [.pointer (some ⟨g.2.1, 0, none⟩), .int .i64 g.2.2.2] ∧ RtAt A g.1 g.2.1 g.2.2.1, fun g _ A _ A' => RtTo A g.1 g.2.1 (g.2.2.1.filter fun w => !decide (w.conn = g.2.2.2)) A'⟩

set_option maxRecDepth 100000 in
set_option maxHeartbeats 0 in
theorem rDropC_ok : FOk Tryz.prog 54 rDropCS := by
  refine fok_v mixed fun ⟨S, r, l, c⟩ vs A hp => ?_
  obtain ⟨rfl, hR⟩ : vs = [.pointer (some ⟨r, 0, none⟩), .int .i64 c] ∧ RtAt A S r l := hp
  obtain ⟨v, htopC, hsl⟩ := hR.old
  obtain ⟨ao, cp, rfl, hc, _, ha1, ha2, ha3⟩ := hsl.sub hR.sub
  have htop : A.rd r 0 1 = some [.slice ao l.length cp] := htopC.rd (o := 0) (n := 1) (by show 0 + 1 ≤ 1; omega)
  refine ⟨noC, tabO Tryz.prog noC noL 60 [(54, 0)], 60, noC_sound _, tabO_sound mixed (noC_sound _) (noL_sound _) _ _, fun blk os out tape D hD => ?_⟩
  have htk : ∀ A1 : Arena, A.Sub A1 → A1.rd r 0 1 = some [.slice ao l.length cp] := fun A1 h1 => rd_sub h1 htop
  conv => lhs; whnf
  refine (hD _).2 ⟨leftInv A 4 5 [0, 1] [] l fun w : WatchD => !decide (w.conn = c), ⟨(⟨0, A, .slice none 0 0⟩ : RdL), ⟨⟨Nat.zero_le _, Arena.Sub.refl _, GrowR.nil _ _ _ _⟩, ⟨rfl, rfl, trivial⟩, trivial, rfl⟩⟩, fun (g : RdL) hG => ⟨⟨trivial, trivial, trivial⟩, trivial, ?_⟩⟩
  obtain ⟨k, As, v1⟩ := g
  obtain ⟨hk, hs, hGr⟩ : k ≤ l.length ∧ A.Sub As ∧ GrowR A As 3 72 ((l.take k).filter fun w : WatchD => !decide (w.conn = c)).length v1 (((l.take k).filter fun w : WatchD => !decide (w.conn = c)).flatMap WatchD.cells) := hG
  have hts := htk As hs
  conv => lhs; whnf
  repeat (first | refine go_rd hts ?_ | refine go_D hD rfl ?_
          conv => lhs; whnf)
  refine split_dec (fun hlt => ?_) (fun hlt => ?_)
  rotate_left
  · have hkl : k = l.length := by
      have hlt : ¬ ((k : Int) < (l.length : Int)) := hlt
      omega
    rw [hkl, List.take_length] at hGr
    obtain ⟨b9, c9, rfl, hb9, -⟩ := hGr.formN
    conv => lhs; whnf
    refine (hD _).2 ⟨(htopC.sub fun o ho => hs _ _ ho).room (by show 0 + 1 ≤ 1; omega), fun A2 hP => ?_⟩
    have hend : ∀ u, rDropCS.post (S, r, l, c) [] A u A2 := fun u => RtTo.store hR hs hGr hP (Nat.le_trans (List.length_filter_le _ _) hR.le)
    conv => lhs; whnf
    exact (hD _).2 (hend (.bool false))
  have hlt : (k : Int) < (l.length : Int) := hlt
  have hkl : k < l.length := by omega
  have i0 : (0 : Int) ≤ (k : Int) ∧ (k : Int) < (l.length : Int) := by omega
  have hle := hR.le
  obtain ⟨g, o, rfl, hra⟩ := Sl.at_ hc ha1 ha2 ha3 (by omega)
  have hw := rd_sub hs (watch_at hra k hkl rfl)
  have htake := List.take_succ_eq_append_getElem hkl
  obtain ⟨w, hww⟩ : ∃ w, w = l[k] := ⟨_, rfl⟩
  rw [← hww] at hw htake
  obtain ⟨c', so', p'⟩ := w
  have hw0 : As.rd g (o + k * 3 + 0) 1 = some [.int .i64 c'] := rd_at (N := 3) (i := 0) (m := 1) hw (by omega)
  conv => lhs; whnf
  repeat (first | refine go_in i0 ?_ | refine go_rd hts ?_ | refine go_rd hw0 ?_ | refine go_rd hw ?_ | refine go_D hD rfl ?_
          conv => lhs; whnf)
  have hmu : l.length - (k + 1) < l.length - k := by omega
  refine split_nd (fun he => ?_) (fun hne => ?_)
  · have he : c' = c := he
    have hn : (leftInv A 4 5 [0, 1] [] l fun w : WatchD => !decide (w.conn = c)).G (⟨k + 1, As, v1⟩ : RdL) := by
      refine ⟨hkl, hs, ?_⟩
      show GrowR A As 3 _ ((l.take (k + 1)).filter _).length v1 (((l.take (k + 1)).filter _).flatMap WatchD.cells)
      rw [htake, List.filter_append, List.filter_cons_of_neg (by rw [decide_eq_true he]; simp), List.filter_nil, List.append_nil]
      exact hGr
    conv => lhs; whnf
    exact (hD _).2 ⟨(⟨k + 1, As, v1⟩ : RdL), ⟨hn, ⟨rfl, inc_slot (by omega), trivial⟩, trivial, rfl⟩, hmu, ⟨same1 rfl rfl, same1 rfl rfl, trivial⟩, trivial⟩
  have hne : ¬ c' = c := hne
  obtain ⟨n1, hn1⟩ : ∃ n, n = ((l.take k).filter fun w : WatchD => !decide (w.conn = c)).length := ⟨_, rfl⟩
  have hn1l : n1 ≤ 1000000 := by
    have h1 := List.length_filter_le (fun w : WatchD => !decide (w.conn = c)) (l.take k)
    have h2 := List.length_take_le k l
    omega
  rw [← hn1] at hGr
  obtain ⟨base, cp1, rfl, hbase, -⟩ := hGr.formN
  have hdn : ∀ k, As.blk k = none → A.blk k = none := fun k hk => by
    cases hA : A.blk k with
    | none => rfl
    | some o => rw [hs k o hA] at hk; cases hk
  have hfin : ∀ u A3 A4, As.Sub A3 → Appended A3 base n1 cp1 3 72 (((l.take k).filter fun w : WatchD => !decide (w.conn = c)).flatMap WatchD.cells) (WatchD.cells ⟨c', so', p'⟩) 1 u A4 → (leftInv A 4 5 [0, 1] [] l fun w : WatchD => !decide (w.conn = c)).G ⟨k + 1, A4, u⟩ := fun u A3 A4 s3 hAp => by
    have h3 := hGr.sub s3
    obtain ⟨_, hA⟩ := h3.formB
    have hd3 : ∀ k, A3.blk k = none → A.blk k = none := fun k hk => hdn k (by
      cases hA : As.blk k with
      | none => rfl
      | some o => rw [s3 k o hA] at hk; cases hk)
    obtain ⟨k1, k2⟩ := hA 1 _ _ _ rfl hd3 hAp
    refine ⟨hkl, fun b o hb => by rw [k2 b o hb]; exact s3 _ _ (hs b o hb), ?_⟩
    show GrowR A A4 3 _ ((l.take (k + 1)).filter _).length u (((l.take (k + 1)).filter _).flatMap WatchD.cells)
    rw [htake, List.filter_append, List.filter_cons_of_pos (by rw [decide_eq_false hne]; rfl), List.filter_nil, List.length_append, List.flatMap_append, ← hn1]
    exact k1
  rcases hbase with rfl | ⟨g1, rfl⟩ <;> (conv => lhs; whnf)
  all_goals
    repeat (first | refine go_in i0 ?_ | refine go_rd hts ?_ | refine go_rd hw ?_ | refine go_D hD rfl ?_
            conv => lhs; whnf)
    refine (hD _).2 fun gb A3 hN => ?_
    have hN : As.New A3 gb #[.int .i64 c', .int .u8 so', .string p'] 72 := hN
    have hrow3 : A3.rd gb 0 (1 * 3) = some [.int .i64 c', .int .u8 so', .string p'] := hN.rd (o := 0) (n := 1 * 3) (by show 0 + 1 * 3 ≤ 3; omega)
    obtain ⟨hP, _⟩ := (hGr.sub hN.sub).formB
    have hP := hP 1 32 (by omega) (by omega)
    conv => lhs; whnf
    refine (hD _).2 ⟨_, WatchD.cells ⟨c', so', p'⟩, hP.rd, ?_, rfl, ?_, by show n1 + 1 ≤ 9223372036854775807; omega, hP.cap, rfl, hP.none_, fun g' o' he' hle' _ => hP.room 3 rfl g' o' he' hle', fun u A4 hAp => ?_⟩
    · show (if 1 * 3 = 0 then some [] else A3.rd gb 0 (1 * 3)) = _
      rw [if_neg (by omega)]; exact hrow3
    · intro v hv
      simp only [WatchD.cells, List.mem_cons, List.not_mem_nil, or_false] at hv
      rcases hv with rfl | rfl | rfl <;> rfl
    · have hn := hfin u A3 A4 hN.sub hAp
      conv => lhs; whnf
      exact (hD _).2 ⟨(⟨k + 1, A4, u⟩ : RdL), ⟨hn, ⟨rfl, inc_slot (by omega), trivial⟩, trivial, rfl⟩, hmu, ⟨same1 rfl rfl, same1 rfl rfl, trivial⟩, trivial⟩

end
end Go.Proofs.YtienbbhelhhfjaaGreatDoor

namespace Go.Sx
noncomputable section

theorem flatN_len {α : Type} {enc : α → List Value} {es : Nat} (he : ∀ x, (enc x).length = es) : ∀ l : List α, (l.flatMap enc).length = l.length * es
  | [] => by simp
  | x :: l => by rw [List.flatMap_cons, List.length_append, he, flatN_len he l, List.length_cons, Nat.succ_mul]; omega

theorem flat_takeN {α : Type} {enc : α → List Value} {es : Nat} (he : ∀ x, (enc x).length = es) : ∀ (q : Nat) (l : List α), (l.flatMap enc).take (q * es) = (l.take q).flatMap enc
  | 0, _ => by simp
  | q + 1, [] => by simp
  | q + 1, x :: l => by
    have e1 : (q + 1) * es - (enc x).length = q * es := by rw [he, Nat.succ_mul]; omega
    have e2 : (enc x).take ((q + 1) * es) = enc x := List.take_of_length_le (by rw [he, Nat.succ_mul]; omega)
    rw [List.flatMap_cons, List.take_append, e1, e2, flat_takeN he q l, List.take_succ_cons, List.flatMap_cons]

theorem flat_dropN {α : Type} {enc : α → List Value} {es : Nat} (he : ∀ x, (enc x).length = es) : ∀ (q : Nat) (l : List α), (l.flatMap enc).drop (q * es) = (l.drop q).flatMap enc
  | 0, _ => by simp
  | q + 1, [] => by simp
  | q + 1, x :: l => by
    have e1 : (q + 1) * es - (enc x).length = q * es := by rw [he, Nat.succ_mul]; omega
    have e2 : (enc x).drop ((q + 1) * es) = [] := List.drop_eq_nil_of_le (by rw [he, Nat.succ_mul]; omega)
    rw [List.flatMap_cons, List.drop_append, e1, e2, flat_dropN he q l, List.drop_succ_cons, List.nil_append]

theorem srcN_take {A : Arena} {g o n q es : Nat} {α : Type} {enc : α → List Value} (he : ∀ x, (enc x).length = es) {l : List α} (h : A.rd g 0 (n * es) = some (l.flatMap enc)) (hq : q ≤ n) (ho : o = 0) : (if q = 0 then some [] else A.rd g o (q * es)) = some ((l.take q).flatMap enc) := by
  subst ho
  by_cases h0 : q = 0
  · rw [if_pos h0, h0, List.take_zero]; rfl
  · rw [if_neg h0]
    have := rd_at h (i := 0) (m := q * es) (by rw [Nat.zero_add]; exact Nat.mul_le_mul_right _ hq)
    rw [Nat.add_zero, List.drop_zero, flat_takeN he] at this
    exact this

theorem srcN_drop {A : Arena} {g o n q es : Nat} {α : Type} {enc : α → List Value} (he : ∀ x, (enc x).length = es) {l : List α} (h : A.rd g 0 (n * es) = some (l.flatMap enc)) (hn : n = l.length) (ho : q < n → o = q * es) : (if n - q = 0 then some [] else A.rd g o ((n - q) * es)) = some ((l.drop q).flatMap enc) := by
  by_cases h0 : n - q = 0
  · rw [if_pos h0, List.drop_eq_nil_of_le (by omega)]; rfl
  · rw [if_neg h0, ho (by omega)]
    have hle : q * es + (n - q) * es ≤ n * es := by rw [← Nat.add_mul]; exact Nat.mul_le_mul_right _ (by omega)
    have := rd_at h (i := q * es) (m := (n - q) * es) hle
    rw [Nat.zero_add, flat_dropN he] at this
    rw [this, List.take_of_length_le]
    rw [flatN_len he, List.length_drop]
    exact Nat.mul_le_mul_right _ (by omega)

end
end Go.Sx

namespace Go.Proofs.YtienbbhelhhfjaaGreatDoor
open Go.Sx Go.RowKit
noncomputable section
open Classical

theorem flat_subW {α : Type} {enc : α → List Value} {l l' : List α} (h : l'.Sublist l) {v : Value} (hv : v ∈ l'.flatMap enc) : v ∈ l.flatMap enc := by
  obtain ⟨x, hx, hv⟩ := List.mem_flatMap.1 hv
  exact List.mem_flatMap.2 ⟨x, h.subset hx, hv⟩

theorem beq_noW {m n : Nat} (h : n < m) : Nat.beq m n = false := by
  cases hb : Nat.beq m n with
  | false => rfl
  | true => have := Nat.eq_of_beq_eq_true hb; omega

/-- Where a watch stands. -/
def placeW (l : List WatchD) (w : WatchD) : Nat := (l.takeWhile fun x => decide (wLt x w)).length

def insW (w : WatchD) (l : List WatchD) : List WatchD := l.take (placeW l w) ++ w :: l.drop (placeW l w)

/-- A watch is set, in the document's row. -/
def addW (w : WatchD) (l : List WatchD) : List WatchD := insW w (l.filter fun x => !decide (x = w))

theorem placeW_at {N : List WatchD} {w : WatchD} {k : Nat} (hk : k ≤ N.length) (h0 : ∀ i (h : i < N.length), i < k → wLt N[i] w) (h1 : ∀ h : k < N.length, ¬ wLt N[k] w) : placeW N w = k := by
  induction N generalizing k with
  | nil =>
    have : k = 0 := by simpa using hk
    rw [this]; rfl
  | cons x N ih =>
    cases k with
    | zero =>
      have := h1 (by simp)
      unfold placeW
      rw [List.takeWhile_cons, if_neg (by simpa using this)]
      rfl
    | succ k =>
      have hx := h0 0 (by simp) (by omega)
      have := ih (k := k) (by simpa using hk) (fun i hi hik => h0 (i + 1) (by simpa using hi) (by omega)) (fun h => h1 (by simpa using h))
      unfold placeW at this ⊢
      rw [List.takeWhile_cons, if_pos (by simpa using hx), List.length_cons, this]

def rAddS : FSpec := ⟨Arena × Nat × List WatchD × WatchD, fun g vs A => vs = [.pointer (some ⟨g.2.1, 0, none⟩), .int .i64 g.2.2.2.conn, .int .u8 g.2.2.2.sort, .string g.2.2.2.path] ∧ RtAt A g.1 g.2.1 g.2.2.1 ∧ g.2.2.2.path.data.toList.length ≤ 140737488351232 ∧ g.2.2.1.length < 1000000,
  fun g _ A _ A' => RtTo A g.1 g.2.1 (if mayD g.2.2.2.sort g.2.2.2.path = true then addW g.2.2.2 g.2.2.1 else g.2.2.1) A'⟩

theorem RtAt.up {A A' S : Arena} {r : Nat} {l : List WatchD} (h : RtAt A S r l) (s : A.Sub A') : RtAt A' S r l := by
  obtain ⟨v, E, h1, h2⟩ := h.row
  exact ⟨⟨v, E, h1.sub fun o ho => s _ _ ho, h2⟩, h.sub.trans s, h.off, h.le⟩

theorem RtTo.early {A A1 A2 S : Arena} {r : Nat} {l : List WatchD} (s : A.Sub A1) (h : RtTo A1 S r l A2) : RtTo A S r l A2 := by
  obtain ⟨S', h1, h2⟩ := h.at_
  refine ⟨⟨S', h1, fun k o hk => (h2 k o hk).imp id fun h3 => ?_⟩, fun k o hk ho => h.keep k o hk (s k o ho), fun k hk => ?_⟩
  · cases hA : A.blk k with
    | none => rfl
    | some o' => rw [s k o' hA] at h3; cases h3
  · have h3 := h.dom k hk
    cases hA : A.blk k with
    | none => rfl
    | some o' => rw [s k o' hA] at h3; cases h3

set_option maxRecDepth 100000 in
set_option maxHeartbeats 0 in
theorem rAdd_ok : FOk Tryz.prog 8 rAddS := by
  refine fok_v mixed fun ⟨S, r, l0, ⟨cn, so, p⟩⟩ vs A hp => ?_
  obtain ⟨rfl, hR0, hpl, hlt0⟩ : vs = [.pointer (some ⟨r, 0, none⟩), .int .i64 cn, .int .u8 so, .string p] ∧ RtAt A S r l0 ∧ p.data.toList.length ≤ 140737488351232 ∧ l0.length < 1000000 := hp
  have hC : CTSound Tryz.prog (lookC [specE 19 rMayS, specE 20 rDropS, specE 21 rLessS] noC) := lookC_sound (noC_sound _) (fun x hx => by
    simp only [List.mem_cons, List.not_mem_nil, or_false] at hx
    rcases hx with rfl | rfl | rfl
    · exact specE_ok rMay_ok
    · exact specE_ok rDrop_ok
    · exact specE_ok rLess_ok)
  refine ⟨_, tabO Tryz.prog _ noL 60 [(8, 0)], 60, hC, tabO_sound mixed hC (noL_sound _) _ _, fun blk os out tape D hD => ?_⟩
  conv => lhs; whnf
  refine (hD _).2 ⟨(so, p), ⟨rfl, hpl⟩, fun v Aa hq => ?_⟩
  obtain ⟨sa, hv⟩ : A.Sub Aa ∧ v = .bool (mayD so p) := hq
  have hRa := hR0.up sa
  cases hm : mayD so p with
  | false =>
    rw [hm] at hv
    subst hv
    have hend : ∀ u, rAddS.post (S, r, l0, ⟨cn, so, p⟩) [] A u Aa := fun _ => by
      show RtTo A S r (if mayD so p = true then _ else _) Aa
      rw [hm, if_neg Bool.false_ne_true]
      exact RtTo.early sa (.same hRa)
    conv => lhs; whnf
    exact (hD _).2 (hend (.bool false))
  | true =>
  rw [hm] at hv
  subst hv
  conv => lhs; whnf
  refine (hD _).2 ⟨(S, r, l0, (⟨cn, so, p⟩ : WatchD)), ⟨rfl, hRa⟩, fun v A1 hq => ?_⟩
  have hq' : RtTo Aa S r (l0.filter fun w => !decide (w = (⟨cn, so, p⟩ : WatchD))) A1 := hq
  obtain ⟨S1, hR, hSn⟩ := hq'.at_
  obtain ⟨l, hl⟩ : ∃ l, l = l0.filter fun w => !decide (w = (⟨cn, so, p⟩ : WatchD)) := ⟨_, rfl⟩
  have hll : l.length < 1000000 := by
    rw [hl]
    exact Nat.lt_of_le_of_lt (List.length_filter_le _ _) hlt0
  rw [← hl] at hR
  -- LOOP
  obtain ⟨v0, E0, htopC, hG0⟩ := hR.row
  obtain ⟨base0, c, rfl, hb0, -⟩ := hG0.formN
  have hG1 := hG0.sub hR.sub
  have hcle := hG1.cap_le
  have htop : A1.rd r 0 1 = some [.slice (addrA base0) l.length c] := htopC.rd (o := 0) (n := 1) (by show 0 + 1 ≤ 1; omega)
  have he3 : ∀ x : WatchD, (WatchD.cells x).length = 3 := fun _ => rfl
  have hone : ∀ v ∈ l.flatMap WatchD.cells, v.oneCell' = true := watches_one l
  have honex : ∀ v ∈ WatchD.cells ⟨cn, so, p⟩, v.oneCell' = true := fun v hv => by
    simp only [WatchD.cells, List.mem_cons, List.not_mem_nil, or_false] at hv
    rcases hv with rfl | rfl | rfl <;> rfl
  have hn0 : GrowR A1 A1 3 72 0 (.slice (addrA none) 0 0) [] := GrowR.nil _ _ _ _
  obtain ⟨hP0, hA0⟩ := hn0.formB
  have hfinq : ∀ q, q ≤ l.length → (∀ i (h : i < l.length), i < q → wLt l[i] ⟨cn, so, p⟩) → (∀ h : q < l.length, ¬ wLt l[q] ⟨cn, so, p⟩) → ∀ A5 A6 v, A1.Sub A5 → GrowR A1 A5 3 72 (l.take q ++ (⟨cn, so, p⟩ : WatchD) :: l.drop q).length v ((l.take q ++ (⟨cn, so, p⟩ : WatchD) :: l.drop q).flatMap WatchD.cells) → A5.Put A6 r 0 [v] →
      rAddS.post (S, r, l0, ⟨cn, so, p⟩) [] A (.tuple #[]) A6 := fun q hq h0 h1 A5 A6 v s5 hG hP => by
    have hst := RtTo.store hR s5 hG hP (by rw [List.length_append, List.length_cons, List.length_take, List.length_drop]; omega)
    show RtTo A S r (if mayD so p = true then addW ⟨cn, so, p⟩ l0 else l0) A6
    rw [if_pos hm, addW, ← hl, insW, placeW_at hq h0 h1]
    exact RtTo.early sa (RtTo.trans hq' hSn hst)
  conv => lhs; whnf
  refine (hD _).2 ⟨⟨Nat, fun q => q ≤ l.length ∧ ∀ i (h : i < l.length), i < q → wLt l[i] ⟨cn, so, p⟩, [0, 8], [0], fun q => [(9, .v (.int .i64 q))], fun _ => [], fun _ => A1, fun q => l.length - q⟩, ⟨(0 : Nat), ⟨Nat.zero_le _, fun i _ h => absurd h (Nat.not_lt_zero i)⟩, ⟨rfl, trivial⟩, trivial, rfl⟩, fun (q : Nat) hq => ⟨⟨trivial, trivial⟩, trivial, ?_⟩⟩
  obtain ⟨hql, hqlt⟩ := hq
  have hfl1 : ((l.take q).flatMap WatchD.cells).length = q * 3 := by rw [flatN_len (enc := WatchD.cells) he3, List.length_take, Nat.min_eq_left hql]
  have hfl2 : ((l.drop q).flatMap WatchD.cells).length = (l.length - q) * 3 := by rw [flatN_len (enc := WatchD.cells) he3, List.length_drop]
  have hfinq := hfinq q hql hqlt
  rcases hb0 with rfl | ⟨gn, rfl⟩
  · obtain ⟨hl0, hc0⟩ : l.length = 0 ∧ c = 0 := by
      obtain ⟨_, ⟨h1, h2⟩ | ⟨g, nc, c', h3, _⟩⟩ := hG1
      · injection h2 with _ _ h2
        exact ⟨h1, h2⟩
      · cases h3
    have hfin := hfinq (fun h => absurd (hl0 ▸ h) (Nat.not_lt_zero q))
    clear hfinq hqlt
    obtain rfl : q = 0 := by omega
    subst hc0
    have hs1 : (if 0 = 0 then some [] else none) = some ((l.take 0).flatMap WatchD.cells) := by
      rw [if_pos rfl, List.take_zero]; rfl
    have hs2 : ∀ A4, A1.Sub A4 → (if l.length - 0 = 0 then some [] else none) = some ((l.drop 0).flatMap WatchD.cells) := fun A4 h4 => by
      rw [if_pos (by omega), List.length_eq_zero_iff.1 hl0]; rfl
    conv => lhs; whnf
    repeat (refine go_rd htop ?_
            conv => lhs; whnf)
    refine no_dec (by show ¬ ((0 : Nat) : Int) < (l.length : Int); omega) ?_
    conv => lhs; whnf
    repeat (refine go_rd htop ?_
            conv => lhs; whnf)
    refine (hD _).2 ⟨[], (l.take 0).flatMap WatchD.cells, rfl, hs1, hfl1, fun v hv => hone v (flat_subW (List.take_sublist 0 l) hv), by show 0 + 0 ≤ 9223372036854775807; omega, (hP0 0 32 (by omega) (by omega)).cap, rfl, fun _ => ⟨rfl, rfl⟩, fun _ _ h => (by cases h), fun v A2 hAp => ?_⟩
    obtain ⟨hG2, hk2⟩ := hA0 0 _ v A2 hfl1 (fun _ h => h) hAp
    rw [Nat.zero_add, List.nil_append] at hG2
    have s2 : A1.Sub A2 := fun j o hj => by rw [hk2 j o hj]; exact hj
    obtain ⟨b2, c2, hv2, hb2, -⟩ := hG2.formN
    subst hv2
    conv => lhs; whnf
    refine (hD _).2 fun gb A3 hNw => ?_
    have hNx : A2.New A3 gb (WatchD.cells ⟨cn, so, p⟩).toArray 72 := hNw
    have s3 : A1.Sub A3 := s2.trans hNx.sub
    obtain ⟨hP3, hA3⟩ := (hG2.sub hNx.sub).formB
    have hP3 := hP3 1 32 (by omega) (by omega)
    have hrow3 : A3.rd gb 0 (1 * 3) = some (WatchD.cells ⟨cn, so, p⟩) := hNx.rd (o := 0) (n := 1 * 3) (by show 0 + 1 * 3 ≤ 3; omega)
    have hd3 : ∀ j, A3.blk j = none → A1.blk j = none := fun j hj => by
      cases h9 : A1.blk j with
      | none => rfl
      | some o => rw [s3 _ _ h9] at hj; cases hj
    refine Or.elim hb2 (fun hb2 => ?_) (fun hb2 => ?_)
    rotate_left
    obtain ⟨g2, hb2⟩ := hb2
    all_goals
      subst hb2
      conv => lhs; whnf
      refine (hD _).2 ⟨(l.take 0).flatMap WatchD.cells, WatchD.cells ⟨cn, so, p⟩, hP3.rd, ?_, rfl, honex, ?_, hP3.cap, rfl, hP3.none_, fun g' o' he' hle' _ => hP3.room 3 rfl g' o' he' hle', fun v A4 hAp => ?_⟩
      · show (if 1 * 3 = 0 then some [] else A3.rd gb 0 (1 * 3)) = _
        rw [if_neg (by omega)]; exact hrow3
      · show 0 + 1 ≤ 9223372036854775807
        omega
      obtain ⟨hG4, hk4⟩ := hA3 1 _ v A4 rfl hd3 hAp
      have s4 : A1.Sub A4 := fun j o hj => by rw [hk4 j o hj]; exact s3 _ _ hj
      obtain ⟨b4, c4, hv4, hb4, -⟩ := hG4.formN
      subst hv4
      obtain ⟨hP4, hA4⟩ := hG4.formB
      have hP4 := hP4 (l.length - 0) 32 (by omega) (by omega)
      have hd4 : ∀ j, A4.blk j = none → A1.blk j = none := fun j hj => by
        cases h9 : A1.blk j with
        | none => rfl
        | some o => rw [s4 _ _ h9] at hj; cases hj
      have htop4 := rd_sub s4 htop
      conv => lhs; whnf
      repeat (refine go_rd htop4 ?_
              conv => lhs; whnf)
      refine Or.elim hb4 (fun hb4 => ?_) (fun hb4 => ?_)
      rotate_left
      obtain ⟨g4, hb4⟩ := hb4
      all_goals
        subst hb4
        conv => lhs; whnf
        refine (hD _).2 ⟨(l.take 0).flatMap WatchD.cells ++ WatchD.cells ⟨cn, so, p⟩, (l.drop 0).flatMap WatchD.cells, hP4.rd, hs2 A4 s4, hfl2, fun v hv => hone v (flat_subW (List.drop_sublist 0 l) hv), by show (0 + 1) + (l.length - 0) ≤ 9223372036854775807; omega, hP4.cap, rfl, hP4.none_, fun g' o' he' hle' _ => hP4.room _ hfl2 g' o' he' hle', fun v A5 hAp => ?_⟩
        obtain ⟨hG5, hk5⟩ := hA4 (l.length - 0) _ v A5 hfl2 hd4 hAp
        have s5 : A1.Sub A5 := fun j o hj => by rw [hk5 j o hj]; exact s4 _ _ hj
        have hG6 : GrowR A1 A5 3 72 (l.take 0 ++ (⟨cn, so, p⟩ : WatchD) :: l.drop 0).length v ((l.take 0 ++ (⟨cn, so, p⟩ : WatchD) :: l.drop 0).flatMap WatchD.cells) := by
          have e1 : (l.take 0 ++ (⟨cn, so, p⟩ : WatchD) :: l.drop 0).length = (0 + 1) + (l.length - 0) := by
            rw [List.length_append, List.length_cons, List.length_take, List.length_drop]; omega
          rw [e1, List.flatMap_append, List.flatMap_cons, ← List.append_assoc]
          exact hG5
        obtain ⟨b5, c5, hv5, -, -⟩ := hG6.formN
        subst hv5
        have hT5 := htopC.sub (A' := A5) fun o ho => s5 _ _ ho
        conv => lhs; whnf
        refine (hD _).2 ⟨hT5.room (o := 0) (n := 1) (by show 0 + 1 ≤ 1; omega), fun A6 hP => ?_⟩
        have hP : A5.Put A6 r 0 [.slice (addrA b5) (l.take 0 ++ (⟨cn, so, p⟩ : WatchD) :: l.drop 0).length c5] := hP
        have hend := hfin A5 A6 _ s5 hG6 hP
        conv => lhs; whnf
        exact (hD _).2 hend
  · have hra : A1.rd gn 0 (l.length * 3) = some (l.flatMap WatchD.cells) := by
      obtain ⟨_, ⟨_, h3⟩ | ⟨g, nc, c', h3, h4, _, _, h6, h7, h8⟩⟩ := hG1
      · cases h3
      · injection h3 with h3
        injection h3 with h3
        injection h3 with h3
        subst h3
        have := Nat.mul_le_mul_right 3 h4
        rw [rd_mk h6 (by omega), List.drop_zero, h8]
    have hs1 : (if q = 0 then some [] else A1.rd gn (0 + bif Nat.beq c 0 then 0 else 0 * 3) (q * 3)) = some ((l.take q).flatMap WatchD.cells) := srcN_take (enc := WatchD.cells) he3 hra (by omega) (by cases Nat.beq c 0 <;> rfl)
    have hs2 : ∀ A4, A1.Sub A4 → (if l.length - q = 0 then some [] else A4.rd gn (0 + bif Nat.beq c q then 0 else q * 3) ((l.length - q) * 3)) = some ((l.drop q).flatMap WatchD.cells) := fun A4 h4 => srcN_drop (enc := WatchD.cells) he3 (rd_sub h4 hra) rfl fun hlt => by
      rw [beq_noW (by omega)]
      show 0 + q * 3 = _
      omega
    conv => lhs; whnf
    repeat (refine go_rd htop ?_
            conv => lhs; whnf)
    refine split_dec (fun hlt3 => ?_) (fun hlt3 => ?_)
    · have hqo : q < l.length := by
        have hlt3 : (q : Int) < (l.length : Int) := hlt3
        omega
      have q0 : (0 : Int) ≤ (q : Int) ∧ (q : Int) < (l.length : Int) := by omega
      have hw := watch_at hra q hqo rfl
      obtain ⟨w9, hw9⟩ : ∃ w9, w9 = l[q] := ⟨_, rfl⟩
      have hfinq : ¬ wLt w9 ⟨cn, so, p⟩ → _ := fun h => hfinq (fun _ => hw9 ▸ h)
      have hqn : wLt w9 ⟨cn, so, p⟩ → ∀ i (h : i < l.length), i < q + 1 → wLt l[i] ⟨cn, so, p⟩ := fun h i hi hik => by
        by_cases e2 : i = q
        · subst e2; rw [← hw9]; exact h
        · exact hqlt i hi (by omega)
      rw [← hw9] at hw
      clear hqlt hw9
      obtain ⟨c9, s9, p9⟩ := w9
      conv => lhs; whnf
      repeat (first | refine go_in q0 ?_ | refine go_rd htop ?_ | refine go_rd hw ?_ | refine go_D hD rfl ?_
              conv => lhs; whnf)
      refine (hD _).2 ⟨((⟨c9, s9, p9⟩ : WatchD), (⟨cn, so, p⟩ : WatchD)), rfl, fun v A9 hq => ?_⟩
      obtain ⟨h9, hv⟩ : A9 = A1 ∧ v = .bool (decide (wLt ⟨c9, s9, p9⟩ ⟨cn, so, p⟩)) := hq
      have h9 := h9.symm
      subst h9; subst hv
      by_cases hlt : wLt ⟨c9, s9, p9⟩ ⟨cn, so, p⟩
      · rw [decide_eq_true hlt]
        have hqn := hqn hlt
        conv => lhs; whnf
        exact (hD _).2 ⟨(q + 1 : Nat), ⟨⟨hqo, hqn⟩, ⟨inc_slot (by omega), trivial⟩, trivial, rfl⟩, by show l.length - (q + 1) < l.length - q; omega, ⟨same1 rfl rfl, same1 rfl rfl, trivial⟩, ⟨same1 rfl rfl, trivial⟩⟩
      · rw [decide_eq_false hlt]
        have hfin := hfinq hlt
        clear hfinq hqn
        conv => lhs; whnf
        repeat (refine go_rd htop ?_
                conv => lhs; whnf)
        refine go_b (bnd_to (k := q) rfl (show q ≤ c by omega)) ?_
        conv => lhs; whnf
        refine (hD _).2 ⟨[], (l.take q).flatMap WatchD.cells, rfl, hs1, hfl1, fun v hv => hone v (flat_subW (List.take_sublist q l) hv), by show 0 + q ≤ 9223372036854775807; omega, (hP0 q 32 (by omega) (by omega)).cap, rfl, fun _ => ⟨rfl, rfl⟩, fun _ _ h => (by cases h), fun v A2 hAp => ?_⟩
        obtain ⟨hG2, hk2⟩ := hA0 q _ v A2 hfl1 (fun _ h => h) hAp
        rw [Nat.zero_add, List.nil_append] at hG2
        have s2 : A1.Sub A2 := fun j o hj => by rw [hk2 j o hj]; exact hj
        obtain ⟨b2, c2, hv2, hb2, -⟩ := hG2.formN
        subst hv2
        conv => lhs; whnf
        refine (hD _).2 fun gb A3 hNw => ?_
        have hNx : A2.New A3 gb (WatchD.cells ⟨cn, so, p⟩).toArray 72 := hNw
        have s3 : A1.Sub A3 := s2.trans hNx.sub
        obtain ⟨hP3, hA3⟩ := (hG2.sub hNx.sub).formB
        have hP3 := hP3 1 32 (by omega) (by omega)
        have hrow3 : A3.rd gb 0 (1 * 3) = some (WatchD.cells ⟨cn, so, p⟩) := hNx.rd (o := 0) (n := 1 * 3) (by show 0 + 1 * 3 ≤ 3; omega)
        have hd3 : ∀ j, A3.blk j = none → A1.blk j = none := fun j hj => by
          cases h9 : A1.blk j with
          | none => rfl
          | some o => rw [s3 _ _ h9] at hj; cases hj
        refine Or.elim hb2 (fun hb2 => ?_) (fun hb2 => ?_)
        rotate_left
        obtain ⟨g2, hb2⟩ := hb2
        all_goals
          subst hb2
          conv => lhs; whnf
          refine (hD _).2 ⟨(l.take q).flatMap WatchD.cells, WatchD.cells ⟨cn, so, p⟩, hP3.rd, ?_, rfl, honex, ?_, hP3.cap, rfl, hP3.none_, fun g' o' he' hle' _ => hP3.room 3 rfl g' o' he' hle', fun v A4 hAp => ?_⟩
          · show (if 1 * 3 = 0 then some [] else A3.rd gb 0 (1 * 3)) = _
            rw [if_neg (by omega)]; exact hrow3
          · show q + 1 ≤ 9223372036854775807
            omega
          obtain ⟨hG4, hk4⟩ := hA3 1 _ v A4 rfl hd3 hAp
          have s4 : A1.Sub A4 := fun j o hj => by rw [hk4 j o hj]; exact s3 _ _ hj
          obtain ⟨b4, c4, hv4, hb4, -⟩ := hG4.formN
          subst hv4
          obtain ⟨hP4, hA4⟩ := hG4.formB
          have hP4 := hP4 (l.length - q) 32 (by omega) (by omega)
          have hd4 : ∀ j, A4.blk j = none → A1.blk j = none := fun j hj => by
            cases h9 : A1.blk j with
            | none => rfl
            | some o => rw [s4 _ _ h9] at hj; cases hj
          have htop4 := rd_sub s4 htop
          conv => lhs; whnf
          repeat (refine go_rd htop4 ?_
                  conv => lhs; whnf)
          refine go_b (bnd_from (k := q) rfl (show q ≤ l.length by omega)) ?_
          refine Or.elim hb4 (fun hb4 => ?_) (fun hb4 => ?_)
          rotate_left
          obtain ⟨g4, hb4⟩ := hb4
          all_goals
            subst hb4
            conv => lhs; whnf
            refine (hD _).2 ⟨(l.take q).flatMap WatchD.cells ++ WatchD.cells ⟨cn, so, p⟩, (l.drop q).flatMap WatchD.cells, hP4.rd, hs2 A4 s4, hfl2, fun v hv => hone v (flat_subW (List.drop_sublist q l) hv), by show (q + 1) + (l.length - q) ≤ 9223372036854775807; omega, hP4.cap, rfl, hP4.none_, fun g' o' he' hle' _ => hP4.room _ hfl2 g' o' he' hle', fun v A5 hAp => ?_⟩
            obtain ⟨hG5, hk5⟩ := hA4 (l.length - q) _ v A5 hfl2 hd4 hAp
            have s5 : A1.Sub A5 := fun j o hj => by rw [hk5 j o hj]; exact s4 _ _ hj
            have hG6 : GrowR A1 A5 3 72 (l.take q ++ (⟨cn, so, p⟩ : WatchD) :: l.drop q).length v ((l.take q ++ (⟨cn, so, p⟩ : WatchD) :: l.drop q).flatMap WatchD.cells) := by
              have e1 : (l.take q ++ (⟨cn, so, p⟩ : WatchD) :: l.drop q).length = (q + 1) + (l.length - q) := by
                rw [List.length_append, List.length_cons, List.length_take, List.length_drop]; omega
              rw [e1, List.flatMap_append, List.flatMap_cons, ← List.append_assoc]
              exact hG5
            obtain ⟨b5, c5, hv5, -, -⟩ := hG6.formN
            subst hv5
            have hT5 := htopC.sub (A' := A5) fun o ho => s5 _ _ ho
            conv => lhs; whnf
            refine (hD _).2 ⟨hT5.room (o := 0) (n := 1) (by show 0 + 1 ≤ 1; omega), fun A6 hP => ?_⟩
            have hP : A5.Put A6 r 0 [.slice (addrA b5) (l.take q ++ (⟨cn, so, p⟩ : WatchD) :: l.drop q).length c5] := hP
            have hend := hfin A5 A6 _ s5 hG6 hP
            conv => lhs; whnf
            exact (hD _).2 hend
    · have hqe : q = l.length := by
        have hlt3 : ¬ (q : Int) < (l.length : Int) := hlt3
        omega
      have hfin := hfinq (fun h => absurd h (Nat.not_lt.2 (Nat.le_of_eq hqe.symm)))
      clear hfinq
      conv => lhs; whnf
      repeat (refine go_rd htop ?_
              conv => lhs; whnf)
      refine go_b (bnd_to (k := q) rfl (show q ≤ c by omega)) ?_
      conv => lhs; whnf
      refine (hD _).2 ⟨[], (l.take q).flatMap WatchD.cells, rfl, hs1, hfl1, fun v hv => hone v (flat_subW (List.take_sublist q l) hv), by show 0 + q ≤ 9223372036854775807; omega, (hP0 q 32 (by omega) (by omega)).cap, rfl, fun _ => ⟨rfl, rfl⟩, fun _ _ h => (by cases h), fun v A2 hAp => ?_⟩
      obtain ⟨hG2, hk2⟩ := hA0 q _ v A2 hfl1 (fun _ h => h) hAp
      rw [Nat.zero_add, List.nil_append] at hG2
      have s2 : A1.Sub A2 := fun j o hj => by rw [hk2 j o hj]; exact hj
      obtain ⟨b2, c2, hv2, hb2, -⟩ := hG2.formN
      subst hv2
      conv => lhs; whnf
      refine (hD _).2 fun gb A3 hNw => ?_
      have hNx : A2.New A3 gb (WatchD.cells ⟨cn, so, p⟩).toArray 72 := hNw
      have s3 : A1.Sub A3 := s2.trans hNx.sub
      obtain ⟨hP3, hA3⟩ := (hG2.sub hNx.sub).formB
      have hP3 := hP3 1 32 (by omega) (by omega)
      have hrow3 : A3.rd gb 0 (1 * 3) = some (WatchD.cells ⟨cn, so, p⟩) := hNx.rd (o := 0) (n := 1 * 3) (by show 0 + 1 * 3 ≤ 3; omega)
      have hd3 : ∀ j, A3.blk j = none → A1.blk j = none := fun j hj => by
        cases h9 : A1.blk j with
        | none => rfl
        | some o => rw [s3 _ _ h9] at hj; cases hj
      refine Or.elim hb2 (fun hb2 => ?_) (fun hb2 => ?_)
      rotate_left
      obtain ⟨g2, hb2⟩ := hb2
      all_goals
        subst hb2
        conv => lhs; whnf
        refine (hD _).2 ⟨(l.take q).flatMap WatchD.cells, WatchD.cells ⟨cn, so, p⟩, hP3.rd, ?_, rfl, honex, ?_, hP3.cap, rfl, hP3.none_, fun g' o' he' hle' _ => hP3.room 3 rfl g' o' he' hle', fun v A4 hAp => ?_⟩
        · show (if 1 * 3 = 0 then some [] else A3.rd gb 0 (1 * 3)) = _
          rw [if_neg (by omega)]; exact hrow3
        · show q + 1 ≤ 9223372036854775807
          omega
        obtain ⟨hG4, hk4⟩ := hA3 1 _ v A4 rfl hd3 hAp
        have s4 : A1.Sub A4 := fun j o hj => by rw [hk4 j o hj]; exact s3 _ _ hj
        obtain ⟨b4, c4, hv4, hb4, -⟩ := hG4.formN
        subst hv4
        obtain ⟨hP4, hA4⟩ := hG4.formB
        have hP4 := hP4 (l.length - q) 32 (by omega) (by omega)
        have hd4 : ∀ j, A4.blk j = none → A1.blk j = none := fun j hj => by
          cases h9 : A1.blk j with
          | none => rfl
          | some o => rw [s4 _ _ h9] at hj; cases hj
        have htop4 := rd_sub s4 htop
        conv => lhs; whnf
        repeat (refine go_rd htop4 ?_
                conv => lhs; whnf)
        refine go_b (bnd_from (k := q) rfl (show q ≤ l.length by omega)) ?_
        refine Or.elim hb4 (fun hb4 => ?_) (fun hb4 => ?_)
        rotate_left
        obtain ⟨g4, hb4⟩ := hb4
        all_goals
          subst hb4
          conv => lhs; whnf
          refine (hD _).2 ⟨(l.take q).flatMap WatchD.cells ++ WatchD.cells ⟨cn, so, p⟩, (l.drop q).flatMap WatchD.cells, hP4.rd, hs2 A4 s4, hfl2, fun v hv => hone v (flat_subW (List.drop_sublist q l) hv), by show (q + 1) + (l.length - q) ≤ 9223372036854775807; omega, hP4.cap, rfl, hP4.none_, fun g' o' he' hle' _ => hP4.room _ hfl2 g' o' he' hle', fun v A5 hAp => ?_⟩
          obtain ⟨hG5, hk5⟩ := hA4 (l.length - q) _ v A5 hfl2 hd4 hAp
          have s5 : A1.Sub A5 := fun j o hj => by rw [hk5 j o hj]; exact s4 _ _ hj
          have hG6 : GrowR A1 A5 3 72 (l.take q ++ (⟨cn, so, p⟩ : WatchD) :: l.drop q).length v ((l.take q ++ (⟨cn, so, p⟩ : WatchD) :: l.drop q).flatMap WatchD.cells) := by
            have e1 : (l.take q ++ (⟨cn, so, p⟩ : WatchD) :: l.drop q).length = (q + 1) + (l.length - q) := by
              rw [List.length_append, List.length_cons, List.length_take, List.length_drop]; omega
            rw [e1, List.flatMap_append, List.flatMap_cons, ← List.append_assoc]
            exact hG5
          obtain ⟨b5, c5, hv5, -, -⟩ := hG6.formN
          subst hv5
          have hT5 := htopC.sub (A' := A5) fun o ho => s5 _ _ ho
          conv => lhs; whnf
          refine (hD _).2 ⟨hT5.room (o := 0) (n := 1) (by show 0 + 1 ≤ 1; omega), fun A6 hP => ?_⟩
          have hP : A5.Put A6 r 0 [.slice (addrA b5) (l.take q ++ (⟨cn, so, p⟩ : WatchD) :: l.drop q).length c5] := hP
          have hend := hfin A5 A6 _ s5 hG6 hP
          conv => lhs; whnf
          exact (hD _).2 hend

end
end Go.Proofs.YtienbbhelhhfjaaGreatDoor

namespace Go.Proofs.YtienbbhelhhfjaaGreatDoor
open Go.Sx Go.RowKit
noncomputable section
open Classical

theorem no_b {t : Bool} {A B : Bool} (h : t = false) (h1 : B = true) : (bif t then A else B) = true := by rw [h]; exact h1

def rungB (kind so : Int) (b1 b2 : Bool) : Int :=
  if kind = 1 then (if b1 = true ∧ so = 2 then 1 else if so = 3 ∧ b2 = true then 4 else 0)
  else if kind = 2 then (if b1 = true then 2 else if so = 3 ∧ b2 = true then 4 else 0)
  else if kind = 3 then (if b1 = true ∧ so ≠ 3 then 3 else 0)
  else 0

theorem rungK_b (kind : Int) (p : ByteArray) (w : WatchD) : rungK kind p w = rungB kind w.sort (beqL w.path.data.toList p.data.toList) (beqL w.path.data.toList (parentP p).data.toList) := by
  have e : ∀ a b : ByteArray, (beqL a.data.toList b.data.toList = true) = (a = b) := fun a b => propext ⟨fun h => toList_inj (beqL_iff.1 h), fun h => beqL_iff.2 (by rw [h])⟩
  unfold rungK rungB
  simp only [e]

def rRingsS : FSpec := ⟨Int × ByteArray × WatchD, fun g vs _ => vs = [.int .u8 g.1, .string g.2.1, .agg g.2.2.cells.toArray] ∧ g.2.1.data.toList.length ≤ 140737488351232, fun g _ A v A' => A.Sub A' ∧ v = .int .u8 (rungK g.1 g.2.1 g.2.2)⟩

set_option maxRecDepth 100000 in
set_option maxHeartbeats 0 in
theorem rRings_ok : FOk Tryz.prog 48 rRingsS := by
  refine fok_v mixed fun ⟨kind, p, ⟨c, so, q⟩⟩ vs A hp => ?_
  obtain ⟨rfl, hpl⟩ : vs = [.int .u8 kind, .string p, .agg (WatchD.cells ⟨c, so, q⟩).toArray] ∧ p.data.toList.length ≤ 140737488351232 := hp
  have hC : CTSound Tryz.prog (lookC [specE 67 refParentS] noC) := lookC_sound (noC_sound _) (fun x hx => by
    simp only [List.mem_singleton] at hx
    subst hx; exact specE_ok refParent_ok)
  refine ⟨_, noL, 60, hC, noL_sound _, fun blk os out tape D hD => ?_⟩
  have fin : ∀ (k : Int) A', A.Sub A' → rungK kind p ⟨c, so, q⟩ = k → rRingsS.post (kind, p, ⟨c, so, q⟩) [] A (.int .u8 k) A' := fun k A' h e => ⟨h, by show Value.int .u8 k = .int .u8 (rungK kind p ⟨c, so, q⟩); rw [e]⟩
  have hb1 : (q = p ∧ beqL q.data.toList p.data.toList = true) ∨ (q ≠ p ∧ beqL q.data.toList p.data.toList = false) := by
    by_cases e : q = p
    · exact .inl ⟨e, beqL_iff.2 (by rw [e])⟩
    · exact .inr ⟨e, beqL_ff.2 fun h => e (toList_inj h)⟩
  have hb2 : (q = parentP p ∧ beqL q.data.toList (parentP p).data.toList = true) ∨ (q ≠ parentP p ∧ beqL q.data.toList (parentP p).data.toList = false) := by
    by_cases e : q = parentP p
    · exact .inl ⟨e, beqL_iff.2 (by rw [← e])⟩
    · exact .inr ⟨e, beqL_ff.2 fun h => e (toList_inj h)⟩
  have hk : kind = 1 ∨ kind = 2 ∨ kind = 3 ∨ (kind ≠ 1 ∧ kind ≠ 2 ∧ kind ≠ 3) := by omega
  by_cases n3 : so = 3
  · subst n3
    conv => lhs; whnf
    refine (hD _).2 ⟨p, ⟨rfl, hpl⟩, fun v A1 hq => ?_⟩
    obtain ⟨s1, hv⟩ : A.Sub A1 ∧ v = .string (parentP p) := hq
    subst hv
    rcases hk with rfl | rfl | rfl | ⟨k1, k2, k3⟩ <;> rcases hb1 with ⟨e1, b1⟩ | ⟨e1, b1⟩ <;> rcases hb2 with ⟨e2, b2⟩ | ⟨e2, b2⟩
    all_goals
      have hend := fun k h => fin k A1 s1 h
      conv => lhs; whnf
      repeat (first | refine go_D hD rfl ?_ | refine go_b b1 ?_ | refine no_b b1 ?_ | refine go_b b2 ?_ | refine no_b b2 ?_ | refine no_dec k1 ?_ | refine no_dec k2 ?_ | refine no_dec k3 ?_ | refine no_dec n3 ?_ | refine no_dec n2 ?_ | refine split_nd (fun h => absurd h n3) (fun _ => ?_)
              conv => lhs; whnf)
      refine (hD _).2 (hend _ ?_)
      rw [rungK_b]
      try clear e1
      try clear e2
      simp [rungB, *]
  · by_cases n2 : so = 2
    · subst n2
      rcases hk with rfl | rfl | rfl | ⟨k1, k2, k3⟩ <;> rcases hb1 with ⟨e1, b1⟩ | ⟨e1, b1⟩
      all_goals
        have hend := fun k h => fin k A (Arena.Sub.refl _) h
        conv => lhs; whnf
        repeat (first | refine go_D hD rfl ?_ | refine go_b b1 ?_ | refine no_b b1 ?_ | refine go_b b2 ?_ | refine no_b b2 ?_ | refine no_dec k1 ?_ | refine no_dec k2 ?_ | refine no_dec k3 ?_ | refine no_dec n3 ?_ | refine no_dec n2 ?_ | refine split_nd (fun h => absurd h n3) (fun _ => ?_)
                conv => lhs; whnf)
        refine (hD _).2 (hend _ ?_)
        rw [rungK_b]
        try clear e1
        try clear e2
        simp [rungB, *]
    · rcases hk with rfl | rfl | rfl | ⟨k1, k2, k3⟩ <;> rcases hb1 with ⟨e1, b1⟩ | ⟨e1, b1⟩
      all_goals
        have hend := fun k h => fin k A (Arena.Sub.refl _) h
        conv => lhs; whnf
        repeat (first | refine go_D hD rfl ?_ | refine go_b b1 ?_ | refine no_b b1 ?_ | refine go_b b2 ?_ | refine no_b b2 ?_ | refine no_dec k1 ?_ | refine no_dec k2 ?_ | refine no_dec k3 ?_ | refine no_dec n3 ?_ | refine no_dec n2 ?_ | refine split_nd (fun h => absurd h n3) (fun _ => ?_)
                conv => lhs; whnf)
        refine (hD _).2 (hend _ ?_)
        rw [rungK_b]
        try clear e1
        try clear e2
        simp [rungB, *]

structure RcL where
  k : Nat
  A : Arena
  vo : Value
  vl : Value

def rRingsL (kind : Int) (p : ByteArray) (z : Int) (l : List WatchD) : List RingD := (rung kind p l).map fun w => ringOf (rungK kind p w) z w

def rchInv (A0 : Arena) (l : List WatchD) (kind : Int) (p : ByteArray) (z : Int) : LInv :=
  { γ := RcL, G := fun g => g.k ≤ l.length ∧ A0.Sub g.A ∧ GrowR A0 g.A 5 75 (rRingsL kind p z (l.take g.k)).length g.vo ((rRingsL kind p z (l.take g.k)).flatMap RingD.cells) ∧
      GrowR A0 g.A 3 72 (unrung kind p (l.take g.k)).length g.vl ((unrung kind p (l.take g.k)).flatMap WatchD.cells) ∧ apartV g.vo g.vl,
    keepS := [0, 2, 4], keepB := [0], sl := fun g => [(7, .v g.vo), (8, .v g.vl), (9, .v (.int .i64 g.k))], bl := fun _ => [], ar := fun g => g.A, mu := fun g => l.length - g.k }

def rChangeS : FSpec := ⟨Arena × Nat × List WatchD × DeedH × Int, fun g vs A => ∃ a1 l1 k1 a2 l2 k2 a3 l3 k3, vs = [.pointer (some ⟨g.2.1, 0, none⟩), deedV (g.2.2.2.1.cells (.slice a1 l1 k1) (.slice a2 l2 k2) (.slice a3 l3 k3)), .int .i64 g.2.2.2.2] ∧ RtAt A g.1 g.2.1 g.2.2.1 ∧ g.2.2.2.1.path.data.toList.length ≤ 140737488351232,
  fun g _ A v A' => RtToV A g.1 g.2.1 (unrung g.2.2.2.1.kind g.2.2.2.1.path g.2.2.1) A' v ∧ GrowR A A' 5 75 (rRingsL g.2.2.2.1.kind g.2.2.2.1.path g.2.2.2.2 g.2.2.1).length v ((rRingsL g.2.2.2.1.kind g.2.2.2.1.path g.2.2.2.2 g.2.2.1).flatMap RingD.cells)⟩

set_option maxRecDepth 100000 in
set_option maxHeartbeats 0 in
theorem rChange_ok : FOk Tryz.prog 25 rChangeS := by
  refine fok_v mixed fun ⟨S, r, l, h, z⟩ vs A hp => ?_
  obtain ⟨a1, l1, k1, a2, l2, k2, a3, l3, k3, rfl, hR, hpl⟩ : ∃ a1 l1 k1 a2 l2 k2 a3 l3 k3, vs = [.pointer (some ⟨r, 0, none⟩), deedV (h.cells (.slice a1 l1 k1) (.slice a2 l2 k2) (.slice a3 l3 k3)), .int .i64 z] ∧ RtAt A S r l ∧ h.path.data.toList.length ≤ 140737488351232 := hp
  have hC : CTSound Tryz.prog (lookC [specE 48 rRingsS] noC) := lookC_sound (noC_sound _) (fun x hx => by
    simp only [List.mem_singleton] at hx
    subst hx; exact specE_ok rRings_ok)
  obtain ⟨zxid, kind, ses, turn, xid, time, path, data, owner, ver, cver, tmo, err, cfg, mem⟩ := h
  refine ⟨_, tabO Tryz.prog _ noL 60 [(25, 0)], 60, hC, tabO_sound mixed hC (noL_sound _) _ _, fun blk os out tape D hD => ?_⟩
  -- LOOP
  obtain ⟨v0, htopC, hsl⟩ := hR.old
  obtain ⟨ao, cp, rfl, hc, _, ha1, ha2, ha3⟩ := hsl.sub hR.sub
  have htop : A.rd r 0 1 = some [.slice ao l.length cp] := htopC.rd (o := 0) (n := 1) (by show 0 + 1 ≤ 1; omega)
  have hle := hR.le
  conv => lhs; whnf
  refine (hD _).2 ⟨rchInv A l kind path z, ⟨(⟨0, A, .slice none 0 0, .slice none 0 0⟩ : RcL), ⟨⟨Nat.zero_le _, Arena.Sub.refl _, GrowR.nil _ _ _ _, GrowR.nil _ _ _ _, apart_nil _⟩, ⟨rfl, rfl, rfl, trivial⟩, trivial, rfl⟩⟩, fun (g : RcL) hG => ⟨⟨trivial, trivial, trivial, trivial⟩, trivial, ?_⟩⟩
  obtain ⟨k, As, vo, vl⟩ := g
  obtain ⟨hk, hs, hGo, hGl, hap⟩ : k ≤ l.length ∧ A.Sub As ∧ GrowR A As 5 75 (rRingsL kind path z (l.take k)).length vo ((rRingsL kind path z (l.take k)).flatMap RingD.cells) ∧
      GrowR A As 3 72 (unrung kind path (l.take k)).length vl ((unrung kind path (l.take k)).flatMap WatchD.cells) ∧ apartV vo vl := hG
  have hts := rd_sub hs htop
  conv => lhs; whnf
  repeat (first | refine go_rd hts ?_ | refine go_D hD rfl ?_
          conv => lhs; whnf)
  refine split_dec (fun hlt => ?_) (fun hlt => ?_)
  rotate_left
  · have hkl : k = l.length := by
      have hlt : ¬ ((k : Int) < (l.length : Int)) := hlt
      omega
    rw [hkl, List.take_length] at hGo hGl
    obtain ⟨b9, c9, rfl, hb9, -⟩ := hGl.formN
    obtain ⟨b8, c8, rfl, hb8, -⟩ := hGo.formN
    conv => lhs; whnf
    refine (hD _).2 ⟨(htopC.sub fun o ho => hs _ _ ho).room (by show 0 + 1 ≤ 1; omega), fun A2 hP => ?_⟩
    have hP : As.Put A2 r 0 [.slice (addrA b9) (unrung kind path l).length c9] := hP
    have hst := RtTo.storeV hR hs hGl hP (Nat.le_trans (List.length_filter_le _ _) hle) hap.symm
    have hGo2 := grow_stay hGo (A' := A2) fun b o h1 h2 => by
      rw [hP.other b fun e => (by
        obtain ⟨o9, ho9⟩ := hR.live
        rw [e, ho9] at h1; cases h1)]
      exact h2
    have hend : rChangeS.post (S, r, l, ⟨zxid, kind, ses, turn, xid, time, path, data, owner, ver, cver, tmo, err, cfg, mem⟩, z) [] A (.slice (addrA b8) (rRingsL kind path z l).length c8) A2 := ⟨hst, hGo2⟩
    conv => lhs; whnf
    exact (hD _).2 hend
  have hlt : (k : Int) < (l.length : Int) := hlt
  have hkl : k < l.length := by omega
  have i0 : (0 : Int) ≤ (k : Int) ∧ (k : Int) < (l.length : Int) := by omega
  obtain ⟨g, o, rfl, hra⟩ := Sl.at_ hc ha1 ha2 ha3 (by omega)
  have hw := rd_sub hs (watch_at hra k hkl rfl)
  have htake := List.take_succ_eq_append_getElem hkl
  have hmu : l.length - (k + 1) < l.length - k := by omega
  have hlk : (l.take k).length ≤ 1000000 := by
    have := List.length_take_le k l
    omega
  have hl1 : (rRingsL kind path z (l.take k)).length ≤ 1000000 := by
    have := List.length_filter_le (fun w => !decide (rungK kind path w = 0)) (l.take k)
    rw [rRingsL, List.length_map, rung]
    omega
  have hl2 : (unrung kind path (l.take k)).length ≤ 1000000 := by
    have := List.length_filter_le (fun w => decide (rungK kind path w = 0)) (l.take k)
    rw [unrung]
    omega
  obtain ⟨w, hww⟩ : ∃ w, w = l[k] := ⟨_, rfl⟩
  rw [← hww] at hw htake
  obtain ⟨c, so, q⟩ := w
  have hro : rRingsL kind path z (l.take (k + 1)) = rRingsL kind path z (l.take k) ++ (if rungK kind path ⟨c, so, q⟩ = 0 then [] else [ringOf (rungK kind path ⟨c, so, q⟩) z ⟨c, so, q⟩]) := by
    rw [htake, rRingsL, rung, List.filter_append, List.map_append]
    congr 1
    by_cases e : rungK kind path ⟨c, so, q⟩ = 0
    · rw [if_pos e, List.filter_cons_of_neg (by simp [e])]; rfl
    · rw [if_neg e, List.filter_cons_of_pos (by simp [e])]; rfl
  have hun : unrung kind path (l.take (k + 1)) = unrung kind path (l.take k) ++ (if rungK kind path ⟨c, so, q⟩ = 0 then [(⟨c, so, q⟩ : WatchD)] else []) := by
    rw [htake, unrung, List.filter_append]
    congr 1
    by_cases e : rungK kind path ⟨c, so, q⟩ = 0
    · rw [if_pos e, List.filter_cons_of_pos (by simp [e])]; rfl
    · rw [if_neg e, List.filter_cons_of_neg (by simp [e])]; rfl
  conv => lhs; whnf
  repeat (first | refine go_in i0 ?_ | refine go_rd hts ?_ | refine go_rd hw ?_ | refine go_D hD rfl ?_
          conv => lhs; whnf)
  refine (hD _).2 ⟨(kind, path, (⟨c, so, q⟩ : WatchD)), ⟨rfl, hpl⟩, fun v A3 hq => ?_⟩
  obtain ⟨s3, hv⟩ : As.Sub A3 ∧ v = .int .u8 (rungK kind path ⟨c, so, q⟩) := hq
  subst hv
  have hGo3 := hGo.sub s3
  have hGl3 := hGl.sub s3
  have hgen : ∀ A5 u y, A.Sub A5 → GrowR A A5 5 75 (rRingsL kind path z (l.take (k + 1))).length u ((rRingsL kind path z (l.take (k + 1))).flatMap RingD.cells) → GrowR A A5 3 72 (unrung kind path (l.take (k + 1))).length y ((unrung kind path (l.take (k + 1))).flatMap WatchD.cells) → apartV u y → (rchInv A l kind path z).G ⟨k + 1, A5, u, y⟩ := fun A5 u y h1 h2 h3 h4 => ⟨hkl, h1, h2, h3, h4⟩
  have hd3 : ∀ A4, A3.Sub A4 → ∀ b, A4.blk b = none → A.blk b = none := fun A4 s4 b hb => by
    cases hA : A.blk b with
    | none => rfl
    | some o => rw [s4 _ _ (s3 _ _ (hs b o hA))] at hb; cases hb
  generalize hcso : (rRingsL kind path z (l.take k)).flatMap RingD.cells = cso at hGo3
  generalize hcsl : (unrung kind path (l.take k)).flatMap WatchD.cells = csl at hGl3
  generalize hn1 : (rRingsL kind path z (l.take k)).length = n1 at hGo3 hl1
  generalize hn2 : (unrung kind path (l.take k)).length = n2 at hGl3 hl2
  clear hGo hGl
  obtain ⟨baseo, cpo, rfl, hbo, -⟩ := hGo3.formN
  obtain ⟨basel, cpl, rfl, hbl, -⟩ := hGl3.formN
  obtain ⟨kk, hkk⟩ : ∃ kk, kk = rungK kind path ⟨c, so, q⟩ := ⟨_, rfl⟩
  rw [← hkk] at hro hun ⊢
  rw [hro, hun] at hgen
  rw [List.length_append, List.length_append, List.flatMap_append, List.flatMap_append, hn1, hn2, hcso, hcsl] at hgen
  conv => lhs; whnf
  refine split_dec (fun he => ?_) (fun he => ?_)
  · have he : kk = 0 := he
    have hfinl : ∀ A5 u, A.Sub A5 → GrowR A A5 3 72 (n2 + 1) u (csl ++ [.int .i64 c, .int .u8 so, .string q]) → GrowR A A5 5 75 n1 (.slice (addrA baseo) n1 cpo) cso → apartV (.slice (addrA baseo) n1 cpo) u → (rchInv A l kind path z).G ⟨k + 1, A5, .slice (addrA baseo) n1 cpo, u⟩ := fun A5 u h1 h2 h3 h4 => hgen A5 _ u h1 (by rw [if_pos he]; simpa using h3) (by rw [if_pos he]; exact h2) h4
    clear hgen
    rcases hbl with rfl | ⟨g1, rfl⟩ <;> (conv => lhs; whnf)
    all_goals
      repeat (first | refine go_D hD rfl ?_
              conv => lhs; whnf)
      refine (hD _).2 fun gb A4 hN => ?_
      have hN : A3.New A4 gb #[.int .i64 c, .int .u8 so, .string q] 72 := hN
      have hrow4 : A4.rd gb 0 (1 * 3) = some [.int .i64 c, .int .u8 so, .string q] := hN.rd (o := 0) (n := 1 * 3) (by show 0 + 1 * 3 ≤ 3; omega)
      obtain ⟨hP, _⟩ := (hGl3.sub hN.sub).formB
      have hP := hP 1 32 (by omega) (by omega)
      conv => lhs; whnf
      refine (hD _).2 ⟨_, [.int .i64 c, .int .u8 so, .string q], hP.rd, ?_, rfl, ?_, by show n2 + 1 ≤ 9223372036854775807; omega, hP.cap, rfl, hP.none_, fun g' o' he' hle' _ => hP.room 3 rfl g' o' he' hle', fun u A5 hAp => ?_⟩
      · show (if 1 * 3 = 0 then some [] else A4.rd gb 0 (1 * 3)) = _
        rw [if_neg (by omega)]; exact hrow4
      · intro v hv
        simp only [List.mem_cons, List.not_mem_nil, or_false] at hv
        rcases hv with rfl | rfl | rfl <;> rfl
      · obtain ⟨y1, y2, y3, y4⟩ := two_add (hGl3.sub hN.sub) (hGo3.sub hN.sub) (hap.symm) rfl (hd3 A4 hN.sub) hAp
        have hn := hfinl A5 u (fun b o hb => by rw [y4 b o hb]; exact hN.sub _ _ (s3 _ _ (hs b o hb))) y1 y2 y3.symm
        conv => lhs; whnf
        exact (hD _).2 ⟨(⟨k + 1, A5, .slice (addrA baseo) n1 cpo, u⟩ : RcL), ⟨hn, ⟨rfl, rfl, inc_slot (by omega), trivial⟩, trivial, rfl⟩, hmu, ⟨same1 rfl rfl, same1 rfl rfl, same1 rfl rfl, trivial⟩, ⟨same1 rfl rfl, trivial⟩⟩
  · have he : ¬ kk = 0 := he
    have hfino : ∀ A5 u, A.Sub A5 → GrowR A A5 5 75 (n1 + 1) u (cso ++ [.int .i64 c, .int .u8 kk, .int .u8 so, .string q, .int .i64 z]) → GrowR A A5 3 72 n2 (.slice (addrA basel) n2 cpl) csl → apartV u (.slice (addrA basel) n2 cpl) → (rchInv A l kind path z).G ⟨k + 1, A5, u, .slice (addrA basel) n2 cpl⟩ := fun A5 u h1 h2 h3 h4 => hgen A5 u _ h1 (by rw [if_neg he]; exact h2) (by rw [if_neg he]; simpa using h3) h4
    clear hgen
    rcases hbo with rfl | ⟨g1, rfl⟩ <;> (conv => lhs; whnf)
    all_goals
      repeat (first | refine go_D hD rfl ?_
              conv => lhs; whnf)
      refine (hD _).2 fun gb A4 hN => ?_
      have hN : A3.New A4 gb #[.int .i64 c, .int .u8 kk, .int .u8 so, .string q, .int .i64 z] 75 := hN
      have hrow4 : A4.rd gb 0 (1 * 5) = some [.int .i64 c, .int .u8 kk, .int .u8 so, .string q, .int .i64 z] := hN.rd (o := 0) (n := 1 * 5) (by show 0 + 1 * 5 ≤ 5; omega)
      obtain ⟨hP, _⟩ := (hGo3.sub hN.sub).formB
      have hP := hP 1 40 (by omega) (by omega)
      conv => lhs; whnf
      refine (hD _).2 ⟨_, [.int .i64 c, .int .u8 kk, .int .u8 so, .string q, .int .i64 z], hP.rd, ?_, rfl, ?_, by show n1 + 1 ≤ 9223372036854775807; omega, hP.cap, rfl, hP.none_, fun g' o' he' hle' _ => hP.room 5 rfl g' o' he' hle', fun u A5 hAp => ?_⟩
      · show (if 1 * 5 = 0 then some [] else A4.rd gb 0 (1 * 5)) = _
        rw [if_neg (by omega)]; exact hrow4
      · intro v hv
        simp only [List.mem_cons, List.not_mem_nil, or_false] at hv
        rcases hv with rfl | rfl | rfl | rfl | rfl <;> rfl
      · obtain ⟨y1, y2, y3, y4⟩ := two_add (hGo3.sub hN.sub) (hGl3.sub hN.sub) (hap) rfl (hd3 A4 hN.sub) hAp
        have hn := hfino A5 u (fun b o hb => by rw [y4 b o hb]; exact hN.sub _ _ (s3 _ _ (hs b o hb))) y1 y2 y3
        conv => lhs; whnf
        exact (hD _).2 ⟨(⟨k + 1, A5, u, .slice (addrA basel) n2 cpl⟩ : RcL), ⟨hn, ⟨rfl, rfl, inc_slot (by omega), trivial⟩, trivial, rfl⟩, hmu, ⟨same1 rfl rfl, same1 rfl rfl, same1 rfl rfl, trivial⟩, ⟨same1 rfl rfl, trivial⟩⟩

end
end Go.Proofs.YtienbbhelhhfjaaGreatDoor
