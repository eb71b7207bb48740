/-
  Contracts: members that are lent, kept, written over. (Turned out of LkB.)
  Contracts: two rows of bytes: are they the same?
  Contracts: two deeds that are the same are told the same.
  Contracts: deeds that are lent.
  Contracts: calls that are lent: are they kept?
  Contracts: beadlekit.Pick.
  Contracts: one step of the law.
  BellLives: the law's text over plain data.
  BellNumbers: the law's text over plain data.
-/
import Derived.Test.YtienbbhelhhfjaaGreatDoorG15
import Derived.Test.YtienbbhelhhfjaaGreatDoorG07
import Derived.Test.YtienbbhelhhfjaaGreatDoorG08
import Derived.Test.YtienbbhelhhfjaaGreatDoorG12
namespace Go.Proofs.YtienbbhelhhfjaaGreatDoor
open Go.Sx Go.RowKit
noncomputable section
open Classical

def markMemberS : FSpec := ⟨Int × Int, fun g vs _ => vs = [.int .i64 g.1, .int .i64 g.2], fun g _ A v A' => A' = A ∧ v = mbV [.int .i64 (mkI g.1 g.2), .int .u8 0, .int .i64 0, .int .i64 0]⟩

set_option maxRecDepth 100000 in
set_option maxHeartbeats 0 in
theorem markMember_ok : FOk Tryz.prog 109 markMemberS := by
  refine fok_v mixed fun ⟨k, i⟩ vs A hp => ?_
  obtain rfl : vs = [.int .i64 k, .int .i64 i] := hp
  refine ⟨noC, noL, 60, noC_sound _, noL_sound _, fun blk os out tape D hD => ?_⟩
  conv => lhs; whnf
  exact (hD _).2 ⟨rfl, rfl⟩

theorem marksM_succ (k : Nat) : marksM (k + 1) = marksM k ++ markM 1 k := by
  unfold marksM
  rw [List.range_succ, List.flatMap_append, List.flatMap_singleton]

theorem marksM_len (k : Nat) : (marksM k).length = k * 4 := by
  induction k with
  | zero => rfl
  | succ k ih =>
    rw [marksM_succ, List.length_append, ih]
    show k * 4 + 4 = _
    omega

theorem memL_one (l : List MemD) : ∀ v ∈ memCells l, v.oneCell' = true := fun v hv => by
  unfold memCells at hv
  obtain ⟨r, hr, hv⟩ := List.mem_flatten.1 hv
  obtain ⟨y, _, rfl⟩ := List.mem_map.1 hr
  simp only [MemD.cells, List.mem_cons, List.not_mem_nil, or_false] at hv
  rcases hv with rfl | rfl | rfl | rfl <;> rfl

/-- The marks behind the end, one by one. -/
theorem markM_at {xs : List Value} {n : Nat} (hx : xs.length = n * 4) (k : Nat) (hk : k < 12) : ((xs ++ marksM 12).drop ((n + k) * 4)).take 4 = markM 1 k := by
  rw [List.drop_append, List.drop_eq_nil_of_le (by rw [hx]; omega), List.nil_append, hx]
  have e : (n + k) * 4 - n * 4 = k * 4 := by omega
  rw [e]
  have h12 : k = 0 ∨ k = 1 ∨ k = 2 ∨ k = 3 ∨ k = 4 ∨ k = 5 ∨ k = 6 ∨ k = 7 ∨ k = 8 ∨ k = 9 ∨ k = 10 ∨ k = 11 := by omega
  rcases h12 with rfl | rfl | rfl | rfl | rfl | rfl | rfl | rfl | rfl | rfl | rfl | rfl <;> rfl

def lentMembersInv (A0 : Arena) (g c : Nat) (l : List MemD) : LInv :=
  { γ := LbG, G := fun s => s.k ≤ 12 ∧ A0.Sub s.A ∧ LRow s.A g 4 110 (l.length + s.k) c (memCells l ++ marksM s.k),
    keepS := [0], keepB := [], sl := fun s => [(4, .v (.int .i64 s.k)), (3, .v (.slice (some ⟨g, 0, none⟩) (l.length + s.k) c))], bl := fun _ => [], ar := fun s => s.A, mu := fun s => 12 - s.k }

def lentMembersS : FSpec := ⟨List MemD, fun l vs A => ∃ x, vs = [x] ∧ MemR A x l,
  fun l _ A v A' => A.Sub A' ∧ ∃ g c, v = .slice (some ⟨g, 0, none⟩) l.length c ∧ A.blk g = none ∧ LRow A' g 4 110 (l.length + 12) c (memCells l ++ marksM 12)⟩

set_option maxRecDepth 100000 in
set_option maxHeartbeats 0 in
theorem lentMembers_ok : FOk Tryz.prog 93 lentMembersS := by
  refine fok_v mixed fun (l : List MemD) vs A hp => ?_
  obtain ⟨x, rfl, ⟨⟨a7, k7, rfl, hd7, hdl, hz1, hz2, hz3⟩, hdn⟩⟩ : ∃ x, vs = [x] ∧ MemR A x l := hp
  have hC : CTSound Tryz.prog (lookC [specE 109 markMemberS] noC) := lookC_sound (noC_sound _) (fun x hx => by
    simp only [List.mem_singleton] at hx
    subst hx; exact specE_ok markMember_ok)
  refine ⟨_, tabO Tryz.prog _ noL 60 [(93, 0)], 60, hC, tabO_sound mixed hC (noL_sound _) _ _, fun blk os out tape D hD => ?_⟩
  have hw : IntKind.i64.wrap ((l.length : Int) + 12) = (l.length : Int) + 12 := Sx.wrap_i64 (by omega) (by omega)
  obtain ⟨c0, hc0⟩ : ∃ c0 : Nat, c0 = (IntKind.i64.wrap ((l.length : Int) + 12)).toNat := ⟨_, rfl⟩
  have hc0e : c0 = l.length + 12 := by rw [hc0]; exact wrap12 (by omega)
  have hcs : (a7 = none ∧ l.length = 0) ∨ (∃ g7 o7 t7, a7 = some ⟨g7, o7, some t7⟩ ∧ l.length = 0) ∨ ∃ g7 o7, a7 = some ⟨g7, o7, none⟩ := by
    cases a7 with
    | none => exact .inl ⟨rfl, by have := hz1 rfl; omega⟩
    | some a =>
      obtain ⟨g7, o7, sp⟩ := a
      cases sp with
      | none => exact .inr (.inr ⟨g7, o7, rfl⟩)
      | some t7 =>
        refine .inr (.inl ⟨g7, o7, t7, rfl, ?_⟩)
        rcases Nat.eq_zero_or_pos k7 with hh | hh
        · omega
        · have := hz2 _ rfl hh
          cases this
  refine Or.elim hcs (fun e => ?_) (fun e => Or.elim e (fun e => ?_) (fun e => ?_))
  obtain ⟨e, h0⟩ := e
  subst e
  have hsrc : ∀ A1, A.Sub A1 → (if l.length = 0 then some [] else none) = some (memCells l) := fun A1 _ => by
    rw [if_pos h0, List.length_eq_zero_iff.1 h0]; rfl
  rotate_left
  obtain ⟨g7, o7, t7, e, h0⟩ := e
  subst e
  have hsrc : ∀ A1, A.Sub A1 → (if l.length = 0 then some [] else none) = some (memCells l) := fun A1 _ => by
    rw [if_pos h0, List.length_eq_zero_iff.1 h0]; rfl
  rotate_left
  obtain ⟨g7, o7, e⟩ := e
  subst e
  have hsrc : ∀ A1, A.Sub A1 → (if l.length = 0 then some [] else A1.rd g7 o7 (l.length * 4)) = some (memCells l) := fun A1 hs => by
    by_cases h0 : l.length = 0
    · rw [if_pos h0, List.length_eq_zero_iff.1 h0]; rfl
    · rw [if_neg h0]; exact rd_sub hs (hz3 (by omega) _ rfl)
  rotate_left
  all_goals
    conv => lhs; whnf
    refine (hD _).2 ⟨by omega, by rw [hw]; omega, by rw [hw]; omega, by
      rw [← hc0, hc0e]
      show 32 * (l.length + 12) ≤ _
      omega, rfl, fun g A1 cc hcl hNw => ?_⟩
    have hNw : A.New A1 g cc 110 := hNw
    have hL0 : LRow A1 g 4 110 0 c0 [] := by
      refine ⟨⟨cc, hNw.at_, ?_, by simp⟩, Nat.zero_le _, rfl⟩
      rw [← Array.length_toList, hcl, ← hc0]
      simp [List.length_flatten]
      rfl
    conv => lhs; whnf
    refine (hD _).2 ⟨[], memCells l, hL0.base, hsrc A1 hNw.sub, hdl, memL_one l, by show 0 + l.length ≤ _; omega, fun h9 => (by
      have h9 : (IntKind.i64.wrap ((l.length : Int) + 12)).toNat < 0 + l.length := h9
      omega), rfl, fun h => (by cases h), fun g' o' hb _ _ => (by
      injection hb with hb
      injection hb with e1 e2
      subst e1; subst e2
      refine hL0.room ?_
      show 0 + 0 * 4 + _ ≤ _
      rw [memCells_len]
      omega), fun v A2 hA => ?_⟩
    obtain ⟨hv, hL1, ho1⟩ := hL0.add (m := l.length) (v := v) (A2 := A2) (by omega) hdl (by rw [hc0]; exact hA)
    rw [Nat.zero_add] at hv
    subst hv
    rw [Nat.zero_add, List.nil_append] at hL1
    have hs2 : A.Sub A2 := fun k o hk => by
      rw [ho1 k fun e => (by subst e; rw [hNw.none_] at hk; cases hk)]
      exact hNw.sub _ _ hk
    conv => lhs; whnf
    refine (hD _).2 ⟨lentMembersInv A g c0 l, ⟨(⟨0, A2⟩ : LbG), ⟨Nat.zero_le _, hs2, by
      show LRow A2 g 4 110 (l.length + 0) c0 (memCells l ++ [])
      rw [Nat.add_zero, List.append_nil]
      exact hL1⟩, ⟨rfl, rfl, trivial⟩, trivial, rfl⟩, fun (s : LbG) hG => ⟨⟨trivial, trivial, trivial⟩, trivial, ?_⟩⟩
    obtain ⟨k, As⟩ := s
    obtain ⟨hk, hsA, hLs⟩ : k ≤ 12 ∧ A.Sub As ∧ LRow As g 4 110 (l.length + k) c0 (memCells l ++ marksM k) := hG
    conv => lhs; whnf
    refine split_dec (fun hlt => ?_) (fun hlt => ?_)
    rotate_left
    · have hlt : ¬ (k : Int) < 12 := hlt
      have h12 : k = 12 := by omega
      subst h12
      have hle1 : (l.length : Int) ≤ (c0 : Int) := by omega
      have hend : lentMembersS.post l [] A (.slice (some ⟨g, 0, none⟩) l.length c0) As := ⟨hsA, g, c0, rfl, hNw.none_, hLs⟩
      conv => lhs; whnf
      refine go_dec hle1 ?_
      conv => lhs; whnf
      refine (hD _).2 ?_
      show lentMembersS.post l [] A (.slice (some ⟨g, 0 + (bif c0.beq (Int.toNat 0) then 0 else Int.toNat 0 * 4), none⟩) (Int.toNat (l.length : Int) - Int.toNat 0) (c0 - Int.toNat 0)) As
      rw [win0]
      exact hend
    have hlt : (k : Int) < 12 := hlt
    conv => lhs; whnf
    refine (hD _).2 ⟨((1 : Int), (k : Int)), rfl, fun v A9 hq => ?_⟩
    obtain ⟨h9, hv⟩ : A9 = As ∧ v = mbV [.int .i64 (mkI 1 k), .int .u8 0, .int .i64 0, .int .i64 0] := hq
    subst h9; subst hv
    conv => lhs; whnf
    refine (hD _).2 fun gb A5 hN5 => ?_
    have hN5 : A9.New A5 gb #[.int .i64 (mkI 1 k), .int .u8 0, .int .i64 0, .int .i64 0] 110 := hN5
    have hrow5 : A5.rd gb 0 (1 * 4) = some (markM 1 k) := hN5.rd (o := 0) (n := 1 * 4) (by show 0 + 1 * 4 ≤ 4; omega)
    have hL5 := hLs.sub hN5.sub
    conv => lhs; whnf
    refine (hD _).2 ⟨memCells l ++ marksM k, markM 1 k, hL5.base, by
      show (if 1 * 4 = 0 then some [] else A5.rd gb 0 (1 * 4)) = _
      rw [if_neg (by omega)]; exact hrow5, rfl, fun v hv => (by
      simp only [markM, List.mem_cons, List.not_mem_nil, or_false] at hv
      rcases hv with rfl | rfl | rfl | rfl <;> rfl), by
      show l.length + k + 1 ≤ _
      omega, fun h9 => (by
      have h9 : c0 < l.length + k + 1 := h9
      omega), rfl, fun h => (by cases h), fun g' o' hb _ _ => (by
      injection hb with hb
      injection hb with e1 e2
      subst e1; subst e2
      refine hL5.room ?_
      show 0 + (l.length + k) * 4 + 4 ≤ _
      omega), fun v A6 hA6 => ?_⟩
    obtain ⟨hv, hL6, hs6, -⟩ := lent_step hsA hNw.none_ hLs hN5 (by omega) rfl hA6
    subst hv
    rw [List.append_assoc, ← marksM_succ] at hL6
    conv => lhs; whnf
    exact (hD _).2 ⟨(⟨k + 1, A6⟩ : LbG), ⟨⟨by show k + 1 ≤ 12; omega, hs6, hL6⟩, ⟨inc_slot (by omega), rfl, trivial⟩, trivial, rfl⟩, by show 12 - (k + 1) < 12 - k; omega, ⟨same1 rfl rfl, trivial⟩, trivial⟩

/-! ### Kept -/

def keptMembersS : FSpec := ⟨List MemD × Nat × Nat, fun g vs A => ∃ x, vs = [.slice (some ⟨g.2.1, 0, none⟩) g.1.length g.2.2, x] ∧ MemR A x g.1 ∧ LRow A g.2.1 4 110 (g.1.length + 12) g.2.2 (memCells g.1 ++ marksM 12),
  fun _ _ A v A' => A' = A ∧ v = .bool true⟩

set_option maxRecDepth 100000 in
set_option maxHeartbeats 0 in
theorem keptMembers_ok : FOk Tryz.prog 98 keptMembersS := by
  refine fok_v mixed fun ⟨l, g, c⟩ vs A hp => ?_
  obtain ⟨x, rfl, ⟨⟨ao, k7, rfl, hd7, hdl, hz1, hz2, hz3⟩, hdn⟩, hL⟩ : ∃ x, vs = [.slice (some ⟨g, 0, none⟩) l.length c, x] ∧ MemR A x l ∧ LRow A g 4 110 (l.length + 12) c (memCells l ++ marksM 12) := hp
  have hC : CTSound Tryz.prog (lookC [specE 109 markMemberS] noC) := lookC_sound (noC_sound _) (fun x hx => by
    simp only [List.mem_singleton] at hx
    subst hx; exact specE_ok markMember_ok)
  refine ⟨_, tabO Tryz.prog _ noL 60 [(98, 0)], 60, hC, tabO_sound mixed hC (noL_sound _) _ _, fun blk os out tape D hD => ?_⟩
  have hw : IntKind.i64.wrap ((l.length : Int) + 12) = ((l.length + 12 : Nat) : Int) := by
    rw [Sx.wrap_i64 (by omega) (by omega)]; omega
  have hwn : (IntKind.i64.wrap ((l.length : Int) + 12)).toNat = l.length + 12 := by rw [hw, Int.toNat_natCast]
  have hrow := hL.rd
  have hend : keptMembersS.post (l, g, c) [] A (.bool true) A := ⟨rfl, rfl⟩
  conv => lhs; whnf
  refine split_nd (fun _ => ?_) (fun h => absurd rfl h)
  conv => lhs; whnf
  refine go_b (lbnd_to (k := l.length + 12) hw hL.le) ?_
  conv => lhs; whnf
  refine (hD _).2 ⟨cnt A 6 [0, 1, 5] [] (l.length + 12) fun _ => True, ⟨(0 : Nat), ⟨Nat.zero_le _, trivial⟩, ⟨rfl, trivial⟩, trivial, rfl⟩, fun (k : Nat) hk => ⟨⟨trivial, trivial⟩, trivial, ?_⟩⟩
  simp only [cnt] at hk
  conv => lhs; whnf
  refine split_dec (fun hlt => ?_) (fun hlt => ?_)
  rotate_left
  · conv => lhs; whnf
    exact (hD _).2 hend
  have hlt : (k : Int) < (((IntKind.i64.wrap ((l.length : Int) + 12)).toNat : Nat) : Int) := hlt
  have hk2 : k < l.length + 12 := by
    have h9 := hlt
    rw [hwn] at h9
    omega
  have i0 : (0 : Int) ≤ (k : Int) ∧ (k : Int) < (((IntKind.i64.wrap ((l.length : Int) + 12)).toNat : Nat) : Int) := ⟨by omega, hlt⟩
  have hmu : (l.length + 12) - (k + 1) < (l.length + 12) - k := by omega
  by_cases h1 : k < l.length
  · obtain ⟨g', o', e, hrb⟩ := Sl.at_ hd7 hz1 hz2 hz3 (by omega)
    subst e
    have h1i : (k : Int) < (l.length : Int) := by omega
    have h1n : ¬ (l.length : Int) ≤ (k : Int) := by omega
    have i1 : (0 : Int) ≤ (k : Int) ∧ (k : Int) < (l.length : Int) := by omega
    have r1 : A.rd g ((0 + bif c.beq (Int.toNat 0) then 0 else Int.toNat 0 * 4) + k * 4) 4 = some [.int .i64 l[k].id, .int .u8 l[k].role, .int .i64 l[k].weight, .int .i64 l[k].group] := by
      rw [off0]
      have h9 := rd_at hrow (i := 0) (m := l.length * 4) (by omega)
      rw [List.drop_zero, List.take_left' (memCells_len l)] at h9
      exact mem_at2 h9 k h1 rfl
    have r2 := mem_at2 hrb k h1 rfl
    obtain ⟨⟨u1, u2, u3, u4⟩, hx⟩ : ∃ x, x = l[k] := ⟨_, rfl⟩
    rw [← hx] at r1 r2
    have r1 : A.rd g ((0 + bif c.beq (Int.toNat 0) then 0 else Int.toNat 0 * 4) + k * 4) 4 = some [.int .i64 u1, .int .u8 u2, .int .i64 u3, .int .i64 u4] := r1
    have r2 : A.rd g' (o' + k * 4) 4 = some [.int .i64 u1, .int .u8 u2, .int .i64 u3, .int .i64 u4] := r2
    conv => lhs; whnf
    repeat (first | refine go_dec h1i ?_ | refine go_in i0 ?_ | refine go_in i1 ?_ | refine go_rd r1 ?_ | refine go_rd r2 ?_
            conv => lhs; whnf)
    refine go_D hD (by kernel_rfl) ?_
    conv => lhs; whnf
    refine split_b (fun hb => absurd hb (by simp)) (fun _ => ?_)
    conv => lhs; whnf
    repeat (first | refine no_dec h1n ?_ | refine go_dec h1n ?_
            conv => lhs; whnf)
    exact (hD _).2 ⟨(k + 1 : Nat), ⟨⟨hk2, trivial⟩, ⟨inc_slot (by omega), trivial⟩, trivial, rfl⟩, hmu, ⟨same1 rfl rfl, same1 rfl rfl, same1 rfl rfl, trivial⟩, trivial⟩
  · have h1i : ¬ (k : Int) < (l.length : Int) := by omega
    have h1n : (l.length : Int) ≤ (k : Int) := by omega
    have hwk : IntKind.i64.wrap ((k : Int) - (l.length : Int)) = ((k - l.length : Nat) : Int) := by
      rw [Sx.wrap_i64 (by omega) (by omega)]; omega
    have r1 : A.rd g ((0 + bif c.beq (Int.toNat 0) then 0 else Int.toNat 0 * 4) + k * 4) 4 = some [.int .i64 (mkI 1 ((k - l.length : Nat) : Int)), .int .u8 0, .int .i64 0, .int .i64 0] := by
      rw [off0]
      have h9 := rd_at hrow (i := k * 4) (m := 4) (by omega)
      have h8 := markM_at (memCells_len l) (k - l.length) (by omega)
      rw [show l.length + (k - l.length) = k by omega] at h8
      rw [h8] at h9
      exact h9
    conv => lhs; whnf
    repeat (first | refine no_dec h1i ?_ | refine go_dec h1n ?_ | refine go_in i0 ?_ | refine go_rd r1 ?_
            conv => lhs; whnf)
    refine (hD _).2 ⟨((1 : Int), IntKind.i64.wrap ((k : Int) - (l.length : Int))), rfl, fun v A9 hq => ?_⟩
    obtain ⟨h9, hv⟩ : A9 = A ∧ v = mbV [.int .i64 (mkI 1 (IntKind.i64.wrap ((k : Int) - (l.length : Int)))), .int .u8 0, .int .i64 0, .int .i64 0] := hq
    subst h9
    rw [hwk] at hv
    subst hv
    conv => lhs; whnf
    repeat (first | refine no_dec h1i ?_ | refine go_dec h1n ?_ | refine go_in i0 ?_ | refine go_rd r1 ?_ | refine go_D hD rfl ?_
            conv => lhs; whnf)
    refine go_D hD (by kernel_rfl) ?_
    conv => lhs; whnf
    repeat (refine go_D hD rfl ?_
            conv => lhs; whnf)
    refine split_b (fun hb => absurd hb (by simp)) (fun _ => ?_)
    conv => lhs; whnf
    exact (hD _).2 ⟨(k + 1 : Nat), ⟨⟨hk2, trivial⟩, ⟨inc_slot (by omega), trivial⟩, trivial, rfl⟩, hmu, ⟨same1 rfl rfl, same1 rfl rfl, same1 rfl rfl, trivial⟩, trivial⟩

end
end Go.Proofs.YtienbbhelhhfjaaGreatDoor

namespace Go.Proofs.YtienbbhelhhfjaaGreatDoor
open Go.Sx Go.RowKit
noncomputable section
open Classical

/-! ### Bytes -/

def sameBytesS : FSpec := ⟨List UInt8 × List UInt8, fun g vs A => ∃ x y, vs = [x, y] ∧ SlB A x g.1 ∧ SlB A y g.2, fun g _ A v A' => A' = A ∧ v = .bool (decide (g.1 = g.2))⟩

set_option maxRecDepth 100000 in
set_option maxHeartbeats 0 in
theorem sameBytes_ok : FOk Tryz.prog 95 sameBytesS := by
  refine fok_v mixed fun ⟨ls, bs⟩ vs A hp => ?_
  simp only [sameBytesS] at hp
  obtain ⟨x, y, rfl, ⟨⟨ao, c, rfl, hc, _, ha1, ha2, ha3⟩, hxl⟩, ⟨bo, d, rfl, hd, _, hb1, hb2, hb3⟩, hyl⟩ := hp
  refine ⟨noC, tabO Tryz.prog noC noL 60 [(95, 0)], 60, noC_sound _, tabO_sound mixed (noC_sound _) (noL_sound _) _ _, fun blk os out tape D hD => ?_⟩
  conv => lhs; whnf
  refine split_b (fun hb => ?_) (fun hb => ?_) <;> (conv => lhs; whnf)
  · refine (hD _).2 ⟨rfl, ?_⟩
    have : ls ≠ bs := fun e => by subst e; simp at hb
    simp [this]
  · have hlen : ls.length = bs.length := by
      have : (ls.length : Int) = bs.length := by simpa using hb
      omega
    refine (hD _).2 ⟨cnt A 5 [0, 1] [] ls.length fun k => ls.take k = bs.take k, ⟨(0 : Nat), ⟨Nat.zero_le _, rfl⟩, ⟨rfl, trivial⟩, trivial, rfl⟩, fun (k : Nat) hk => ⟨⟨trivial, trivial⟩, trivial, ?_⟩⟩
    simp only [cnt] at hk
    conv => lhs; whnf
    refine split_dec (fun hlt => ?_) (fun hb => ?_) <;> (conv => lhs; whnf)
    · have hlt : k < ls.length := by omega
      obtain ⟨g, o, rfl, hra⟩ := Sl.at_ hc ha1 ha2 ha3 (by omega)
      obtain ⟨g', o', rfl, hrb⟩ := Sl.at_ hd hb1 hb2 hb3 (by omega)
      conv => lhs; whnf
      refine split_in (fun _ _ => ?_) (fun h => by omega)
      conv => lhs; whnf
      refine go_rd (byte_at hra k hlt rfl) ?_
      conv => lhs; whnf
      refine split_in (fun _ _ => ?_) (fun h => by omega)
      conv => lhs; whnf
      refine go_rd (byte_at hrb k (by omega) rfl) ?_
      conv => lhs; whnf
      refine split_b (fun hb => ?_) (fun hb => ?_) <;> (conv => lhs; whnf)
      · refine (hD _).2 ⟨rfl, ?_⟩
        have : ls ≠ bs := fun e => by subst e; simp at hb
        simp [this]
      · have he : ls[k] = bs[k] := by
          have : (ls[k].toNat : Int) = bs[k].toNat := by simpa using hb
          exact UInt8.toNat_inj.1 (by omega)
        refine (hD _).2 ⟨(k + 1 : Nat), ⟨⟨by omega, ?_⟩, ⟨inc_slot (by omega), trivial⟩, trivial, rfl⟩, ?_, ⟨rfl, rfl, trivial⟩, trivial⟩
        · show ls.take (k + 1) = bs.take (k + 1)
          rw [List.take_succ_eq_append_getElem hlt, List.take_succ_eq_append_getElem (by omega), hk.2, he]
        · show ls.length - (k + 1) < ls.length - k
          omega
    · refine (hD _).2 ⟨rfl, ?_⟩
      have h1 : k = ls.length := by omega
      have : ls = bs := by
        have := hk.2
        rw [h1, List.take_length, hlen, List.take_length] at this
        exact this
      simp [this]

end
end Go.Proofs.YtienbbhelhhfjaaGreatDoor

namespace Go.Proofs.YtienbbhelhhfjaaGreatDoor
open Go.Sx Go.RowKit
noncomputable section
open Classical

mutual
def dSz : DeedD → Nat
  | .mk _ parts => dSzs parts + 1
def dSzs : List DeedD → Nat
  | [] => 0
  | d :: ds => dSz d + dSzs ds
end

theorem dSz_at : ∀ {ds : List DeedD} {k : Nat} (h : k < ds.length), dSz ds[k] ≤ dSzs ds
  | d :: ds, 0, _ => by simp [dSzs]
  | d :: ds, k + 1, h => by
    have := dSz_at (ds := ds) (k := k) (by simpa using h)
    simp only [List.getElem_cons_succ, dSzs]; omega

def sameDeedsT (n : Nat) : FSpec := ⟨List DeedD, fun ds vs A => ∃ x y, vs = [x, y] ∧ (∀ d ∈ ds, dSz d < n) ∧ DeedsS A x ds ∧ DeedsS A y ds, fun _ _ A v A' => A' = A ∧ v = .bool true⟩

def sameDeedT (n : Nat) : FSpec := ⟨DeedD, fun d vs A => ∃ x y, vs = [deedV x, deedV y] ∧ dSz d < n ∧ DeedR A d x ∧ DeedR A d y, fun _ _ A v A' => A' = A ∧ v = .bool true⟩

/-- A deed's cells, all of them open. -/
theorem _root_.Go.Sx.DeedR.forms {B : Arena} {d : DeedD} {cs : List Value} (h : DeedR B d cs) : ∃ (c0 c1 c2 c3 c4 c5 : Int) (c6 : ByteArray) (a7 : Option Addr) (l7 k7 : Nat) (c8 c9 c10 c11 c12 c13 : Int) (a14 : Option Addr) (l14 k14 : Nat) (a15 : Option Addr) (l15 k15 : Nat),
    cs = [.int .i64 c0, .int .u8 c1, .int .i64 c2, .int .i64 c3, .int .i64 c4, .int .i64 c5, .string c6, .slice a7 l7 k7, .int .i64 c8, .int .i64 c9, .int .i64 c10, .int .i64 c11, .int .i64 c12, .int .i64 c13, .slice a14 l14 k14, .slice a15 l15 k15] := by
  obtain ⟨a7, l7, k7, a14, l14, k14, a15, l15, k15, rfl⟩ := h.form
  exact ⟨_, _, _, _, _, _, _, _, _, _, _, _, _, _, _, _, _, _, _, _, _, _, rfl⟩

set_option maxRecDepth 100000 in
set_option maxHeartbeats 0 in
theorem sameDeedsT_of (m : Nat) (ih : FOk Tryz.prog 71 (sameDeedT m)) : FOk Tryz.prog 97 (sameDeedsT m) := by
  refine fok_v mixed fun (ls : List DeedD) vs A hp => ?_
  simp only [sameDeedsT] at hp
  obtain ⟨x, y, rfl, hsz, ⟨r1, ⟨ao, c, rfl, hc, _, ha1, ha2, ha3⟩, hxl, hx⟩, r2, ⟨bo, d, rfl, hd, _, hb1, hb2, hb3⟩, hyl, hy⟩ := hp
  have hC : CTSound Tryz.prog (lookC [specE 71 (sameDeedT m)] noC) := lookC_sound (noC_sound _) (fun x hx => by
    simp only [List.mem_singleton] at hx
    subst hx; exact specE_ok ih)
  refine ⟨_, tabO Tryz.prog _ noL 60 [(97, 0)], 60, hC, tabO_sound mixed hC (noL_sound _) _ _, fun blk os out tape D hD => ?_⟩
  have hend : (sameDeedsT m).post ls [] A (.bool true) A := ⟨rfl, rfl⟩
  conv => lhs; whnf
  refine split_nd (fun _ => ?_) (fun h => absurd rfl h)
  conv => lhs; whnf
  refine (hD _).2 ⟨cnt A 5 [0, 1] [] ls.length fun _ => True, ⟨(0 : Nat), ⟨Nat.zero_le _, trivial⟩, ⟨rfl, trivial⟩, trivial, rfl⟩, fun (k : Nat) hk => ⟨⟨trivial, trivial⟩, trivial, ?_⟩⟩
  simp only [cnt] at hk
  conv => lhs; whnf
  refine split_dec (fun hlt => ?_) (fun hlt => ?_)
  rotate_left
  · conv => lhs; whnf
    exact (hD _).2 hend
  have hlt : (k : Int) < (ls.length : Int) := hlt
  have hkl : k < ls.length := by omega
  have i0 : (0 : Int) ≤ (k : Int) ∧ (k : Int) < (ls.length : Int) := by omega
  obtain ⟨g, o, rfl, hra⟩ := Sl.at_ hc ha1 ha2 ha3 (by omega)
  obtain ⟨g', o', rfl, hrb⟩ := Sl.at_ hd hb1 hb2 hb3 (by omega)
  obtain ⟨c1, hc1, hd1⟩ := deed_at hra hx k hkl rfl
  obtain ⟨c2, hc2, hd2⟩ := deed_at hrb hy k hkl rfl
  have hd10 := hd1
  have hd20 := hd2
  obtain ⟨_, _, _, _, _, _, _, _, _, _, _, _, _, _, _, _, _, _, _, _, _, _, rfl⟩ := hd1.forms
  obtain ⟨_, _, _, _, _, _, _, _, _, _, _, _, _, _, _, _, _, _, _, _, _, _, rfl⟩ := hd2.forms
  conv => lhs; whnf
  repeat (first | refine go_in i0 ?_ | refine go_rd hc1 ?_ | refine go_rd hc2 ?_ | refine go_D hD rfl ?_
          conv => lhs; whnf)
  refine (hD _).2 ⟨ls[k], ⟨_, _, rfl, hsz _ (List.getElem_mem _), hd10, hd20⟩, fun v A' hq => ?_⟩
  obtain ⟨e1, e2⟩ : A' = A ∧ v = .bool true := hq
  subst e1; subst e2
  conv => lhs; whnf
  exact (hD _).2 ⟨(k + 1 : Nat), ⟨⟨hkl, trivial⟩, ⟨inc_slot (by omega), trivial⟩, trivial, rfl⟩, by show ls.length - (k + 1) < ls.length - k; omega, ⟨same1 rfl rfl, same1 rfl rfl, trivial⟩, trivial⟩

set_option maxRecDepth 100000 in
set_option maxHeartbeats 0 in
theorem sameDeedT_of (m : Nat) (ih : FOk Tryz.prog 97 (sameDeedsT m)) : FOk Tryz.prog 71 (sameDeedT (m + 1)) := by
  refine fok_v mixed fun d vs A hp => ?_
  simp only [sameDeedT] at hp
  obtain ⟨x, y, rfl, hsz, hx, hy⟩ := hp
  obtain ⟨⟨zxid, kind, ses, turn, xid, time, path, data, owner, ver, cver, tmo, err, cfg, mem⟩, parts⟩ := d
  rw [DeedR] at hx hy
  obtain ⟨vd, vm, vp, rows, rfl, hx0, hx1, hx2, hx3, hx4, hx5⟩ := hx
  obtain ⟨vd', vm', vp', rows', rfl, hy0, hy1, hy2, hy3, hy4, hy5⟩ := hy
  have hC : CTSound Tryz.prog (lookC [specE 97 (sameDeedsT m), specE 95 sameBytesS, specE 110 sameMembersS] noC) := lookC_sound (noC_sound _) (fun x hx => by
    simp only [List.mem_cons, List.not_mem_nil, or_false] at hx
    rcases hx with rfl | rfl | rfl
    · exact specE_ok ih
    · exact specE_ok sameBytes_ok
    · exact specE_ok sameMembers_ok)
  have hparts : ∀ d ∈ parts, dSz d < m := fun d hd => by
    obtain ⟨k, hk, rfl⟩ := List.getElem_of_mem hd
    have := dSz_at hk
    simp only [dSz] at hsz
    omega
  obtain ⟨a7, k7, rfl⟩ := hx1.1.form
  obtain ⟨a14, k14, rfl⟩ := hx2.1.form
  obtain ⟨a15, k15, rfl⟩ := hx3.form
  obtain ⟨b7, j7, rfl⟩ := hy1.1.form
  obtain ⟨b14, j14, rfl⟩ := hy2.1.form
  obtain ⟨b15, j15, rfl⟩ := hy3.form
  have hbl : beqL path.data.toList path.data.toList = true := beqL_iff.2 rfl
  have hend : (sameDeedT (m + 1)).post (.mk ⟨zxid, kind, ses, turn, xid, time, path, data, owner, ver, cver, tmo, err, cfg, mem⟩ parts) [] A (.bool true) A := ⟨rfl, rfl⟩
  refine ⟨_, noL, 60, hC, noL_sound _, fun blk os out tape D hD => ?_⟩
  conv => lhs; whnf
  repeat (first | refine go_dec rfl ?_ | refine go_b hbl ?_
          conv => lhs; whnf)
  refine (hD _).2 ⟨(data, data), ⟨_, _, rfl, hx1, hy1⟩, fun v A' hq => ?_⟩
  obtain ⟨q1, q2⟩ : A' = A ∧ v = .bool (decide (data = data)) := hq
  rw [decide_eq_true rfl] at q2
  subst q1; subst q2
  conv => lhs; whnf
  repeat (first | refine go_dec rfl ?_ | refine go_b hbl ?_
          conv => lhs; whnf)
  refine (hD _).2 ⟨(mem, mem), ⟨_, _, rfl, hx2, hy2⟩, fun v A1 hq => ?_⟩
  obtain ⟨q1, q2⟩ : A1 = A' ∧ v = .bool (decide (mem = mem)) := hq
  rw [decide_eq_true rfl] at q2
  subst q1; subst q2
  conv => lhs; whnf
  repeat (first | refine go_dec rfl ?_ | refine go_b hbl ?_
          conv => lhs; whnf)
  refine (hD _).2 ⟨parts, ⟨_, _, rfl, hparts, ⟨rows, hx3, hx4, hx5⟩, rows', hy3, hy4, hy5⟩, fun v A2 hq => ?_⟩
  obtain ⟨q1, q2⟩ : A2 = A1 ∧ v = .bool true := hq
  subst q1; subst q2
  conv => lhs; whnf
  exact (hD _).2 hend

theorem sameDeedT_all : ∀ m, FOk Tryz.prog 71 (sameDeedT m)
  | 0 => fun g vs A w _ hp => by obtain ⟨_, _, _, h, _⟩ := hp; omega
  | m + 1 => sameDeedT_of m (sameDeedsT_of m (sameDeedT_all m))

def sameDeedT' : FSpec := ⟨DeedD, fun d vs A => ∃ x y, vs = [deedV x, deedV y] ∧ DeedR A d x ∧ DeedR A d y, fun _ _ A v A' => A' = A ∧ v = .bool true⟩

theorem sameDeedT_ok : FOk Tryz.prog 71 sameDeedT' := fun d vs A w hA ⟨x, y, h1, h2, h3⟩ =>
  sameDeedT_all (dSz d + 1) d vs A w hA ⟨x, y, h1, Nat.lt_succ_self _, h2, h3⟩

end
end Go.Proofs.YtienbbhelhhfjaaGreatDoor

namespace Go.Proofs.YtienbbhelhhfjaaGreatDoor
open Go.Sx Go.RowKit
noncomputable section
open Classical

def lentDeedsS (n : Nat) : FSpec := ⟨List DeedD, fun ds vs A => ∃ x, vs = [x] ∧ (∀ d ∈ ds, dSz d < n) ∧ DeedsS A x ds,
  fun ds _ A v A' => A.Sub A' ∧ ∃ g c rows L, v = .slice (some ⟨g, 0, none⟩) ds.length c ∧ A.blk g = none ∧ LRow A' g 16 31 (ds.length + 12) c (rows.flatten ++ marksD 12) ∧ LentDsR A' ds rows L ∧ (∀ k ∈ L, A.blk k = none) ∧ (g :: L).Nodup⟩

def lentDeedS (n : Nat) : FSpec := ⟨DeedD, fun d vs A => ∃ cs, vs = [deedV cs] ∧ dSz d < n ∧ DeedR A d cs,
  fun d _ A v A' => A.Sub A' ∧ ∃ cs L, v = deedV cs ∧ LentDR A' d cs L ∧ ∀ k ∈ L, A.blk k = none⟩

theorem fresh_neD {A : Arena} {L : List Nat} {g : Nat} {o : Obj} (hL : ∀ k ∈ L, A.blk k = none) (hg : A.blk g = some o) : g ∉ L := fun h => by
  have := hL g h
  rw [hg] at this; cases this

set_option maxRecDepth 100000 in
set_option maxHeartbeats 0 in
theorem lentDeed_of (m : Nat) (ih : FOk Tryz.prog 70 (lentDeedsS m)) : FOk Tryz.prog 50 (lentDeedS (m + 1)) := by
  refine fok_v mixed fun d vs A hp => ?_
  simp only [lentDeedS] at hp
  obtain ⟨x, rfl, hsz, hx⟩ := hp
  obtain ⟨⟨zxid, kind, ses, turn, xid, time, path, data, owner, ver, cver, tmo, err, cfg, mem⟩, parts⟩ := d
  rw [DeedR] at hx
  obtain ⟨vd, vm, vp, rows, rfl, hx0, hx1, hx2, hx3, hx4, hx5⟩ := hx
  have hC : CTSound Tryz.prog (lookC [specE 70 (lentDeedsS m), specE 68 lentBytesS, specE 93 lentMembersS] noC) := lookC_sound (noC_sound _) (fun x hx => by
    simp only [List.mem_cons, List.not_mem_nil, or_false] at hx
    rcases hx with rfl | rfl | rfl
    · exact specE_ok ih
    · exact specE_ok lentBytes_ok
    · exact specE_ok lentMembers_ok)
  have hparts : ∀ d ∈ parts, dSz d < m := fun d hd => by
    obtain ⟨k, hk, rfl⟩ := List.getElem_of_mem hd
    have := dSz_at hk
    simp only [dSz] at hsz
    omega
  refine ⟨_, noL, 60, hC, noL_sound _, fun blk os out tape D hD => ?_⟩
  conv => lhs; whnf
  refine (hD _).2 ⟨data, ⟨vd, rfl, hx1⟩, fun v A1 hq => ?_⟩
  have hq : A.Sub A1 ∧ ∃ g c, v = .slice (some ⟨g, 0, none⟩) data.length c ∧ A.blk g = none ∧ LRow A1 g 1 5 (data.length + 12) c (data.map bv ++ marksB 12) := hq
  obtain ⟨s1, g1, c1, hv, hg1, hL1⟩ := hq
  subst hv
  conv => lhs; whnf
  repeat (refine go_D hD rfl ?_
          conv => lhs; whnf)
  refine (hD _).2 ⟨mem, ⟨vm, rfl, hx2.sub s1⟩, fun v A2 hq => ?_⟩
  have hq : A1.Sub A2 ∧ ∃ g c, v = .slice (some ⟨g, 0, none⟩) mem.length c ∧ A1.blk g = none ∧ LRow A2 g 4 110 (mem.length + 12) c (memCells mem ++ marksM 12) := hq
  obtain ⟨s2, g2, c2, hv, hg2, hL2⟩ := hq
  subst hv
  have s12 := s1.trans s2
  conv => lhs; whnf
  repeat (refine go_D hD rfl ?_
          conv => lhs; whnf)
  refine (hD _).2 ⟨parts, ⟨vp, rfl, hparts, rows, hx3.sub s12, hx4, DeedsR.sub s12 _ _ hx5⟩, fun v A3 hq => ?_⟩
  have hq : A2.Sub A3 ∧ ∃ g c rows L, v = .slice (some ⟨g, 0, none⟩) parts.length c ∧ A2.blk g = none ∧ LRow A3 g 16 31 (parts.length + 12) c (rows.flatten ++ marksD 12) ∧ LentDsR A3 parts rows L ∧ (∀ k ∈ L, A2.blk k = none) ∧ (g :: L).Nodup := hq
  obtain ⟨s3, g3, c3, rows3, L3, hv, hg3, hL3, hLs, hLn, hnd⟩ := hq
  subst hv
  have up : ∀ {X Y : Arena} {k : Nat}, X.Sub Y → Y.blk k = none → X.blk k = none := fun {X Y k} hs h => by
    cases hX : X.blk k with
    | none => rfl
    | some o => rw [hs k o hX] at h; cases h
  have hend : (lentDeedS (m + 1)).post (.mk ⟨zxid, kind, ses, turn, xid, time, path, data, owner, ver, cver, tmo, err, cfg, mem⟩ parts) [] A (deedV [.int .i64 zxid, .int .u8 kind, .int .i64 ses, .int .i64 turn, .int .i64 xid, .int .i64 time, .string path, .slice (some ⟨g1, 0, none⟩) data.length c1, .int .i64 owner, .int .i64 ver, .int .i64 cver, .int .i64 tmo, .int .i64 err, .int .i64 cfg, .slice (some ⟨g2, 0, none⟩) mem.length c2, .slice (some ⟨g3, 0, none⟩) parts.length c3]) A3 := by
    obtain ⟨b1, hb1, _⟩ := hL1.at_
    obtain ⟨b2, hb2, _⟩ := hL2.at_
    have n12 : g1 ≠ g2 := fun e => by rw [← e, hb1] at hg2; cases hg2
    have n13 : g1 ≠ g3 := fun e => by rw [← e, s2 _ _ hb1] at hg3; cases hg3
    have n23 : g2 ≠ g3 := fun e => by rw [← e, hb2] at hg3; cases hg3
    have m1 := fresh_neD hLn (s2 _ _ hb1)
    have m2 := fresh_neD hLn hb2
    refine ⟨s12.trans s3, _, g1 :: g2 :: g3 :: L3, rfl, ?_, fun k hk => ?_⟩
    · rw [LentDR]
      refine ⟨g1, g2, g3, c1, c2, c3, rows3, L3, rfl, hx0, hL1.sub (s2.trans s3), hL2.sub s3, hL3, hx1.2, hx2.2, hx4, hLs, rfl, ?_⟩
      simp only [List.nodup_cons, List.mem_cons, not_or] at hnd ⊢
      exact ⟨⟨n12, n13, m1⟩, ⟨n23, m2⟩, hnd⟩
    · simp only [List.mem_cons] at hk
      rcases hk with rfl | rfl | rfl | hk
      · exact hg1
      · exact up s1 hg2
      · exact up s12 hg3
      · exact up s12 (hLn k hk)
  conv => lhs; whnf
  repeat (refine go_D hD rfl ?_
          conv => lhs; whnf)
  exact (hD _).2 hend

structure LdG where
  k : Nat
  A : Arena
  rows : List (List Value)
  L : List Nat

structure LdI (A0 : Arena) (g c : Nat) (ds : List DeedD) (s : LdG) : Prop where
  le : s.k ≤ ds.length
  sub : A0.Sub s.A
  row : LRow s.A g 16 31 s.k c s.rows.flatten
  lents : LentDsR s.A (ds.take s.k) s.rows s.L
  new : ∀ j ∈ s.L, A0.blk j = none
  nd : (g :: s.L).Nodup

def lentDeedsInv1 (A0 : Arena) (g c : Nat) (ds : List DeedD) : LInv :=
  { γ := LdG, G := LdI A0 g c ds, keepS := [0], keepB := [], sl := fun s => [(4, .v (.int .i64 s.k)), (3, .v (.slice (some ⟨g, 0, none⟩) s.k c))], bl := fun _ => [], ar := fun s => s.A, mu := fun s => ds.length - s.k }

def lentDeedsInv2 (A0 : Arena) (g c : Nat) (ds : List DeedD) (rows : List (List Value)) (L : List Nat) : LInv :=
  { γ := LbG, G := fun s => s.k ≤ 12 ∧ A0.Sub s.A ∧ LRow s.A g 16 31 (ds.length + s.k) c (rows.flatten ++ marksD s.k) ∧ LentDsR s.A ds rows L,
    keepS := [0], keepB := [], sl := fun s => [(6, .v (.int .i64 s.k)), (3, .v (.slice (some ⟨g, 0, none⟩) (ds.length + s.k) c))], bl := fun _ => [], ar := fun s => s.A, mu := fun s => 12 - s.k }

/-- A mark's cells. -/
def markK (k i : Int) : List Value := [.int .i64 (mkI k i), .int .u8 0, .int .i64 0, .int .i64 0, .int .i64 0, .int .i64 0, .string ⟨#[]⟩, .slice none 0 0, .int .i64 0, .int .i64 0, .int .i64 0, .int .i64 0, .int .i64 0, .int .i64 0, .slice none 0 0, .slice none 0 0]

def markDeedS : FSpec := ⟨Int × Int, fun g vs _ => vs = [.int .i64 g.1, .int .i64 g.2], fun g _ A v A' => A' = A ∧ v = deedV (markK g.1 g.2)⟩

set_option maxRecDepth 100000 in
set_option maxHeartbeats 0 in
theorem markDeed_ok : FOk Tryz.prog 94 markDeedS := by
  refine fok_v mixed fun ⟨k, i⟩ vs A hp => ?_
  obtain rfl : vs = [.int .i64 k, .int .i64 i] := hp
  refine ⟨noC, noL, 60, noC_sound _, noL_sound _, fun blk os out tape D hD => ?_⟩
  conv => lhs; whnf
  exact (hD _).2 ⟨rfl, rfl⟩

theorem markK_one (k i : Int) : ∀ v ∈ markK k i, v.oneCell' = true := fun v hv => by
  simp only [markK, List.mem_cons, List.not_mem_nil, or_false] at hv
  rcases hv with rfl | rfl | rfl | rfl | rfl | rfl | rfl | rfl | rfl | rfl | rfl | rfl | rfl | rfl | rfl | rfl <;> rfl

theorem LentDR.nodup {A : Arena} {d : DeedD} {cs : List Value} {L : List Nat} (h : LentDR A d cs L) : L.Nodup := by
  cases d
  rw [LentDR] at h
  obtain ⟨_, _, _, _, _, _, _, _, _, _, _, _, _, _, _, _, _, _, h⟩ := h
  exact h

theorem marksD_succ (k : Nat) : marksD (k + 1) = marksD k ++ markDd 1 k := by
  unfold marksD
  rw [List.range_succ, List.flatMap_append, List.flatMap_singleton]

theorem keep_sameD {A A2 A3 : Arena} {g : Nat} (hs : A.Sub A2) (ho : ∀ k, k ≠ g → A3.blk k = A2.blk k) {L : List Nat} (hl : ∀ k ∈ L, ∃ o, A.blk k = some o) (hg : g ∉ L) : ∀ k ∈ L, A3.blk k = A.blk k := fun k hk => by
  obtain ⟨o, h⟩ := hl k hk
  rw [ho k fun e => hg (e ▸ hk), hs k o h, h]

set_option maxRecDepth 100000 in
set_option maxHeartbeats 0 in
theorem lentDeeds_of (m : Nat) (ih : FOk Tryz.prog 50 (lentDeedS m)) : FOk Tryz.prog 70 (lentDeedsS m) := by
  refine fok_v mixed fun (ds : List DeedD) vs A hp => ?_
  obtain ⟨x, rfl, hsz, rows0, hS, hlen, hR⟩ : ∃ x, vs = [x] ∧ (∀ d ∈ ds, dSz d < m) ∧ DeedsS A x ds := hp
  obtain ⟨ao, c1, rfl, hc, hl, ha1, ha2, ha3⟩ := hS
  have hC : CTSound Tryz.prog (lookC [specE 50 (lentDeedS m), specE 94 markDeedS] noC) := lookC_sound (noC_sound _) (fun x hx => by
    simp only [List.mem_cons, List.not_mem_nil, or_false] at hx
    rcases hx with rfl | rfl
    · exact specE_ok ih
    · exact specE_ok markDeed_ok)
  refine ⟨_, tabO Tryz.prog _ noL 60 [(70, 0), (70, 2)], 60, hC, tabO_sound mixed hC (noL_sound _) _ _, fun blk os out tape D hD => ?_⟩
  have hw : IntKind.i64.wrap ((ds.length : Int) + 12) = ((ds.length + 12 : Nat) : Int) := by
    rw [Sx.wrap_i64 (by omega) (by omega)]; omega
  obtain ⟨c, hcd⟩ : ∃ c : Nat, c = (IntKind.i64.wrap ((ds.length : Int) + 12)).toNat := ⟨_, rfl⟩
  have hce : c = ds.length + 12 := by rw [hcd, hw, Int.toNat_natCast]
  have hsl : ds.length * 184 ≤ 140737488351232 := hlen
  conv => lhs; whnf
  refine (hD _).2 ⟨by omega, by rw [hw]; omega, by rw [hw]; omega, by
    rw [← hcd, hce]
    show 184 * (ds.length + 12) ≤ _
    omega, rfl, fun g A1 cc hcl hNw => ?_⟩
  have hNw : A.New A1 g cc 31 := hNw
  have hL0 : LRow A1 g 16 31 0 c [] := by
    refine ⟨⟨cc, hNw.at_, ?_, by simp⟩, Nat.zero_le _, rfl⟩
    rw [← Array.length_toList, hcl, ← hcd]
    simp [List.length_flatten]
    rfl
  conv => lhs; whnf
  refine (hD _).2 ⟨lentDeedsInv1 A g c ds, ⟨(⟨0, A1, [], []⟩ : LdG), ⟨Nat.zero_le _, hNw.sub, hL0, by
    show LentDsR A1 [] [] []
    rw [LentDsR]; exact ⟨rfl, rfl⟩, fun _ h => (by cases h), List.nodup_cons.2 ⟨List.not_mem_nil, List.nodup_nil⟩⟩, ⟨rfl, by rw [hcd]; rfl, trivial⟩, trivial, rfl⟩, fun (s : LdG) hG => ⟨⟨trivial, trivial, trivial⟩, trivial, ?_⟩⟩
  obtain ⟨k, As, rs, L⟩ := s
  obtain ⟨hk, hsA, hrow, hlents, hnew, hnd⟩ : LdI A g c ds ⟨k, As, rs, L⟩ := hG
  dsimp only at hk hsA hrow hlents hnew hnd
  have hgAs : ∃ o, As.blk g = some o := by
    obtain ⟨cc, h1, _⟩ := hrow.at_
    exact ⟨_, h1⟩
  obtain ⟨og, hgAs⟩ := hgAs
  have hgL : g ∉ L := (List.nodup_cons.1 hnd).1
  conv => lhs; whnf
  refine split_dec (fun hlt => ?_) (fun hlt => ?_)
  rotate_left
  · have hlt : ¬ (k : Int) < (ds.length : Int) := hlt
    obtain rfl : k = ds.length := by omega
    rw [List.take_length] at hlents
    conv => lhs; whnf
    refine (hD _).2 ⟨lentDeedsInv2 A g c ds rs L, ⟨(⟨0, As⟩ : LbG), ⟨Nat.zero_le _, hsA, by
      show LRow As g 16 31 (ds.length + 0) c (rs.flatten ++ [])
      rw [Nat.add_zero, List.append_nil]
      exact hrow, hlents⟩, ⟨rfl, rfl, trivial⟩, trivial, rfl⟩, fun (s : LbG) hG => ⟨⟨trivial, trivial, trivial⟩, trivial, ?_⟩⟩
    obtain ⟨j, At⟩ := s
    obtain ⟨hj, hsT, hrowT, hlentsT⟩ : j ≤ 12 ∧ A.Sub At ∧ LRow At g 16 31 (ds.length + j) c (rs.flatten ++ marksD j) ∧ LentDsR At ds rs L := hG
    conv => lhs; whnf
    refine split_dec (fun hlt2 => ?_) (fun hlt2 => ?_)
    rotate_left
    · have hlt2 : ¬ (j : Int) < 12 := hlt2
      have h12 : j = 12 := by omega
      subst h12
      have hle1 : (ds.length : Int) ≤ (c : Int) := by omega
      have hend : (lentDeedsS m).post ds [] A (.slice (some ⟨g, 0, none⟩) ds.length c) At := ⟨hsT, g, c, rs, L, rfl, hNw.none_, hrowT, hlentsT, hnew, hnd⟩
      conv => lhs; whnf
      refine go_dec hle1 ?_
      conv => lhs; whnf
      refine (hD _).2 ?_
      show (lentDeedsS m).post ds [] A (.slice (some ⟨g, 0 + (bif c.beq (Int.toNat 0) then 0 else Int.toNat 0 * 16), none⟩) (Int.toNat (ds.length : Int) - Int.toNat 0) (c - Int.toNat 0)) At
      rw [win0]
      exact hend
    have hlt2 : (j : Int) < 12 := hlt2
    conv => lhs; whnf
    refine (hD _).2 ⟨((1 : Int), (j : Int)), rfl, fun v A9 hq => ?_⟩
    obtain ⟨h9, hv⟩ : A9 = At ∧ v = deedV (markK 1 j) := hq
    subst h9; subst hv
    conv => lhs; whnf
    refine (hD _).2 fun gb A5 hN5 => ?_
    have hN5 : A9.New A5 gb (markK 1 j).toArray 31 := hN5
    have hrow5 : A5.rd gb 0 (1 * 16) = some (markK 1 j) := hN5.rd (o := 0) (n := 1 * 16) (by show 0 + 1 * 16 ≤ 16; omega)
    have hL5 := hrowT.sub hN5.sub
    conv => lhs; whnf
    refine (hD _).2 ⟨rs.flatten ++ marksD j, markK 1 j, hL5.base, by
      show (if 1 * 16 = 0 then some [] else A5.rd gb 0 (1 * 16)) = _
      rw [if_neg (by omega)]; exact hrow5, rfl, markK_one 1 j, by
      show ds.length + j + 1 ≤ _
      omega, fun h9 => (by
      have h9 : c < ds.length + j + 1 := h9
      omega), rfl, fun h => (by cases h), fun g' o' hb _ _ => (by
      injection hb with hb
      injection hb with e1 e2
      subst e1; subst e2
      refine hL5.room ?_
      show 0 + (ds.length + j) * 16 + 16 ≤ _
      omega), fun v A6 hA6 => ?_⟩
    obtain ⟨hv, hL6, hs6, ho6⟩ := lent_step hsT hNw.none_ hrowT hN5 (by omega) rfl hA6
    subst hv
    have e6 : rs.flatten ++ marksD (j + 1) = rs.flatten ++ marksD j ++ markK 1 j := by rw [marksD_succ, List.append_assoc]; rfl
    rw [← e6] at hL6
    conv => lhs; whnf
    exact (hD _).2 ⟨(⟨j + 1, A6⟩ : LbG), ⟨⟨by show j + 1 ≤ 12; omega, hs6, hL6, hlentsT.keep fun q hq => by
      obtain ⟨o, ho⟩ := hlentsT.live q hq
      rw [ho, ho6 q o (fun e => hgL (e ▸ hq)) ho]⟩, ⟨inc_slot (by omega), rfl, trivial⟩, trivial, rfl⟩, by show 12 - (j + 1) < 12 - j; omega, ⟨same1 rfl rfl, trivial⟩, trivial⟩
  have hlt : (k : Int) < (ds.length : Int) := hlt
  have hkl : k < ds.length := by omega
  obtain ⟨g', o', e, hra⟩ := Sl.at_ hc ha1 ha2 ha3 (by omega)
  subst e
  obtain ⟨ce, hce1, hde⟩ := deed_at hra hR k hkl rfl
  have hce2 := rd_sub hsA hce1
  have hde := DeedR.sub hsA _ _ hde
  have hde0 := hde
  obtain ⟨p0, p1, p2, p3, p4, p5, p6, q7, u7, n7, p8, p9, p10, p11, p12, p13, q14, u14, n14, q15, u15, n15, rfl⟩ := hde.forms
  have i0 : (0 : Int) ≤ (k : Int) ∧ (k : Int) < (ds.length : Int) := by omega
  conv => lhs; whnf
  repeat (first | refine go_in i0 ?_ | refine go_rd hce2 ?_
          conv => lhs; whnf)
  refine (hD _).2 ⟨ds[k], ⟨_, rfl, hsz _ (List.getElem_mem _), hde0⟩, fun v A2 hq => ?_⟩
  have hq : As.Sub A2 ∧ ∃ cs L, v = deedV cs ∧ LentDR A2 ds[k] cs L ∧ ∀ k ∈ L, As.blk k = none := hq
  obtain ⟨s2, cs2, L2, hv, hlr, hn2⟩ := hq
  subst hv
  obtain ⟨p0, p1, p2, p3, p4, p5, p6, q7, u7, n7, p8, p9, p10, p11, p12, p13, q14, u14, n14, q15, u15, n15, hcs2⟩ := hlr.ask.forms
  subst hcs2
  obtain ⟨cs2, hcs2⟩ : ∃ cs2 : List Value, cs2 = [.int .i64 p0, .int .u8 p1, .int .i64 p2, .int .i64 p3, .int .i64 p4, .int .i64 p5, .string p6, .slice q7 u7 n7, .int .i64 p8, .int .i64 p9, .int .i64 p10, .int .i64 p11, .int .i64 p12, .int .i64 p13, .slice q14 u14 n14, .slice q15 u15 n15] := ⟨_, rfl⟩
  rw [← hcs2] at hlr
  have hone := hlr.one
  have hlen16 := hlr.len
  conv => lhs; whnf
  refine (hD _).2 fun gb A5 hN5 => ?_
  have hN5 : A2.New A5 gb #[.int .i64 p0, .int .u8 p1, .int .i64 p2, .int .i64 p3, .int .i64 p4, .int .i64 p5, .string p6, .slice q7 u7 n7, .int .i64 p8, .int .i64 p9, .int .i64 p10, .int .i64 p11, .int .i64 p12, .int .i64 p13, .slice q14 u14 n14, .slice q15 u15 n15] 31 := hN5
  have hrow5 : A5.rd gb 0 (1 * 16) = some cs2 := by
    rw [hcs2]
    exact hN5.rd (o := 0) (n := 1 * 16) (by show 0 + 1 * 16 ≤ 16; omega)
  have hrow2 := hrow.sub s2
  have hL5 := hrow2.sub hN5.sub
  conv => lhs; whnf
  refine (hD _).2 ⟨rs.flatten, cs2, hL5.base, by
    show (if 1 * 16 = 0 then some [] else A5.rd gb 0 (1 * 16)) = _
    rw [if_neg (by omega)]; exact hrow5, hlen16, hone, by
    show k + 1 ≤ _
    omega, fun h9 => (by
    have h9 : c < k + 1 := h9
    omega), rfl, fun h => (by cases h), fun g' o' hb _ _ => (by
    injection hb with hb
    injection hb with e1 e2
    subst e1; subst e2
    refine hL5.room ?_
    show 0 + k * 16 + cs2.length ≤ _
    omega), fun v A6 hA6 => ?_⟩
  obtain ⟨hv, hL6, hs6, ho6⟩ := lent_step (hsA.trans s2) hNw.none_ hrow2 hN5 (by omega) hlen16 hA6
  subst hv
  have hgL2 : g ∉ L2 := fresh_neD hn2 hgAs
  have hG' : LdI A g c ds ⟨k + 1, A6, rs ++ [cs2], L ++ L2⟩ := by
    refine ⟨hkl, hs6, ?_, ?_, fun q hq => ?_, ?_⟩
    · show LRow A6 g 16 31 (k + 1) c (rs ++ [cs2]).flatten
      rw [List.flatten_append, List.flatten_singleton]
      exact hL6
    · show LentDsR A6 (ds.take (k + 1)) (rs ++ [cs2]) (L ++ L2)
      rw [List.take_succ_eq_append_getElem hkl]
      refine (hlents.keep fun q hq => ?_).snoc (hlr.keep fun q hq => ?_)
      · obtain ⟨o, ho⟩ := hlents.live q hq
        rw [ho, ho6 q o (fun e => hgL (e ▸ hq)) (s2 q o ho)]
      · obtain ⟨o, ho⟩ := hlr.live q hq
        rw [ho, ho6 q o (fun e => hgL2 (e ▸ hq)) ho]
    · rcases List.mem_append.1 hq with hq | hq
      · exact hnew q hq
      · cases hA : A.blk q with
        | none => rfl
        | some o => have := hn2 q hq; rw [hsA q o hA] at this; cases this
    · show (g :: (L ++ L2)).Nodup
      rw [List.nodup_cons]
      refine ⟨fun h => ?_, List.nodup_append.2 ⟨(List.nodup_cons.1 hnd).2, hlr.nodup, fun a ha b hb e => ?_⟩⟩
      · rcases List.mem_append.1 h with h | h
        · exact hgL h
        · exact hgL2 h
      · subst e
        obtain ⟨o, ho⟩ := hlents.live a ha
        have := hn2 a hb
        rw [ho] at this; cases this
  conv => lhs; whnf
  exact (hD _).2 ⟨(⟨k + 1, A6, rs ++ [cs2], L ++ L2⟩ : LdG), ⟨hG', ⟨inc_slot (by omega), rfl, trivial⟩, trivial, rfl⟩, by show ds.length - (k + 1) < ds.length - k; omega, ⟨same1 rfl rfl, trivial⟩, trivial⟩

theorem lentDeed_all : ∀ m, FOk Tryz.prog 50 (lentDeedS m)
  | 0 => fun g vs A w _ hp => by obtain ⟨_, _, h, _⟩ := hp; omega
  | m + 1 => lentDeed_of m (lentDeeds_of m (lentDeed_all m))

def lentDeedS' : FSpec := ⟨DeedD, fun d vs A => ∃ cs, vs = [deedV cs] ∧ DeedR A d cs,
  fun d _ A v A' => A.Sub A' ∧ ∃ cs L, v = deedV cs ∧ LentDR A' d cs L ∧ ∀ k ∈ L, A.blk k = none⟩

theorem lentDeed_ok : FOk Tryz.prog 50 lentDeedS' := fun d vs A w hA ⟨x, h1, h2⟩ =>
  lentDeed_all (dSz d + 1) d vs A w hA ⟨x, h1, Nat.lt_succ_self _, h2⟩

end
end Go.Proofs.YtienbbhelhhfjaaGreatDoor

namespace Go.Proofs.YtienbbhelhhfjaaGreatDoor
open Go.Sx Go.RowKit
noncomputable section
open Classical

theorem LentDsR.at_ {A : Arena} : ∀ {ds : List DeedD} {rows : List (List Value)} {L : List Nat}, LentDsR A ds rows L → ∀ k (hk : k < ds.length) (hr : k < rows.length), ∃ Lk, LentDR A ds[k] rows[k] Lk
  | [], _, _, _, k, hk, _ => absurd hk (Nat.not_lt_zero _)
  | d :: ds, rows, L, h, k, hk, hr => by
    obtain ⟨r, rs, L1, L2, rfl, h1, h2, rfl⟩ := h.head
    cases k with
    | zero => exact ⟨L1, h1⟩
    | succ k => exact LentDsR.at_ h2 k (by simpa using hk) (by simpa using hr)

theorem lentDs_flat {A : Arena} {ds : List DeedD} {rows : List (List Value)} {L : List Nat} (h : LentDsR A ds rows L) : rows.flatten.length = ds.length * 16 := by
  have key : ∀ rows : List (List Value), (∀ r ∈ rows, r.length = 16) → rows.flatten.length = rows.length * 16 := fun rows => by
    induction rows with
    | nil => intro _; rfl
    | cons r rows ih =>
      intro h
      rw [List.flatten_cons, List.length_append, h r (by simp), ih fun x hx => h x (List.mem_cons_of_mem _ hx), List.length_cons]
      omega
  rw [key rows h.lens, h.length]

/-- The k-th call of a row that is lent. -/
theorem lentD_at {A : Arena} {g c : Nat} {ds : List DeedD} {rows : List (List Value)} {L : List Nat} {ys : List Value} (h : LRow A g 16 31 (ds.length + 12) c (rows.flatten ++ ys)) (hr : LentDsR A ds rows L) (k : Nat) (hk : k < ds.length) : ∃ cs Lk, A.rd g (0 + k * 16) 16 = some cs ∧ LentDR A ds[k] cs Lk := by
  have hl := hr.length
  obtain ⟨Lk, hLk⟩ := hr.at_ k hk (by omega)
  have h1 := rd_at h.rd (i := 0) (m := ds.length * 16) (by omega)
  rw [List.drop_zero, List.take_left' (lentDs_flat hr)] at h1
  exact ⟨_, Lk, rows_at h1 hr.lens k (by omega) (by omega), hLk⟩

theorem marksD_len (k : Nat) : (marksD k).length = k * 16 := by
  induction k with
  | zero => rfl
  | succ k ih =>
    rw [marksD_succ, List.length_append, ih]
    show k * 16 + 16 = _
    omega

theorem markDd_at {xs : List Value} {n : Nat} (hx : xs.length = n * 16) (k : Nat) (hk : k < 12) : ((xs ++ marksD 12).drop ((n + k) * 16)).take 16 = markK 1 k := by
  rw [List.drop_append, List.drop_eq_nil_of_le (by rw [hx]; omega), List.nil_append, hx]
  have e : (n + k) * 16 - n * 16 = k * 16 := by omega
  rw [e]
  have h12 : k = 0 ∨ k = 1 ∨ k = 2 ∨ k = 3 ∨ k = 4 ∨ k = 5 ∨ k = 6 ∨ k = 7 ∨ k = 8 ∨ k = 9 ∨ k = 10 ∨ k = 11 := by omega
  rcases h12 with rfl | rfl | rfl | rfl | rfl | rfl | rfl | rfl | rfl | rfl | rfl | rfl <;> rfl

/-- A mark as plain data. -/
def markDD (k i : Int) : DeedD := .mk ⟨mkI k i, 0, 0, 0, 0, 0, ⟨#[]⟩, [], 0, 0, 0, 0, 0, 0, []⟩ []

theorem markDD_ok (A : Arena) (k i : Int) : DeedR A (markDD k i) (markK k i) := by
  unfold markDD 
  rw [DeedR]
  exact ⟨_, _, _, [], rfl, by show (0 : Nat) ≤ _; omega, ⟨Sl.nil _ _, by simp⟩, ⟨Sl.nil _ _, by simp⟩, Sl.nil _ _, by simp, by rw [DeedsR]⟩

def keptDeedsS (n : Nat) : FSpec := ⟨List DeedD × List (List Value) × List Nat × Nat × Nat, fun x vs A => ∃ y, vs = [.slice (some ⟨x.2.2.2.1, 0, none⟩) x.1.length x.2.2.2.2, y] ∧ (∀ d ∈ x.1, dSz d < n) ∧ LRow A x.2.2.2.1 16 31 (x.1.length + 12) x.2.2.2.2 (x.2.1.flatten ++ marksD 12) ∧ LentDsR A x.1 x.2.1 x.2.2.1 ∧ DeedsS A y x.1,
  fun _ _ A v A' => A' = A ∧ v = .bool true⟩

def keptDeedS (n : Nat) : FSpec := ⟨DeedD × List Nat, fun x vs A => ∃ cs ds, vs = [deedV cs, deedV ds] ∧ dSz x.1 < n ∧ LentDR A x.1 cs x.2 ∧ DeedR A x.1 ds,
  fun _ _ A v A' => A' = A ∧ v = .bool true⟩

set_option maxRecDepth 100000 in
set_option maxHeartbeats 0 in
theorem keptDeed_of (m : Nat) (ih : FOk Tryz.prog 74 (keptDeedsS m)) : FOk Tryz.prog 51 (keptDeedS (m + 1)) := by
  refine fok_v mixed fun ⟨d, L⟩ vs A hp => ?_
  obtain ⟨x, y, rfl, hsz, hx, hy⟩ : ∃ cs ds, vs = [deedV cs, deedV ds] ∧ dSz d < m + 1 ∧ LentDR A d cs L ∧ DeedR A d ds := hp
  have hxa := hx.ask
  have hya := hy
  obtain ⟨⟨zxid, kind, ses, turn, xid, time, path, data, owner, ver, cver, tmo, err, cfg, mem⟩, parts⟩ := d
  rw [DeedR] at hy
  rw [LentDR] at hx
  obtain ⟨vd, vm, vp, rows, rfl, hy0, hy1, hy2, hy3, hy4, hy5⟩ := hy
  obtain ⟨gd, gm, gp, cd, cm, cp, rows', Lp, rfl, h0, h2, h3, h4, b1, b2, b3, h5, h6, h7⟩ := hx
  have hC : CTSound Tryz.prog (lookC [specE 74 (keptDeedsS m), specE 72 keptBytesS, specE 98 keptMembersS, specE 71 sameDeedT', specE 110 sameMembersS] noC) := lookC_sound (noC_sound _) (fun x hx => by
    simp only [List.mem_cons, List.not_mem_nil, or_false] at hx
    rcases hx with rfl | rfl | rfl | rfl | rfl
    · exact specE_ok ih
    · exact specE_ok keptBytes_ok
    · exact specE_ok keptMembers_ok
    · exact specE_ok sameDeedT_ok
    · exact specE_ok sameMembers_ok)
  have hxm : MemR A (.slice (some ⟨gm, 0, none⟩) mem.length cm) mem := ⟨h3.sl (memCells_len _), b2⟩
  have hparts : ∀ d ∈ parts, dSz d < m := fun d hd => by
    obtain ⟨k, hk, rfl⟩ := List.getElem_of_mem hd
    have := dSz_at hk
    simp only [dSz] at hsz
    omega
  obtain ⟨a5, k5, rfl⟩ := hy1.1.form
  obtain ⟨a13, k13, rfl⟩ := hy2.1.form
  obtain ⟨a14, k14, rfl⟩ := hy3.form
  refine ⟨_, noL, 60, hC, noL_sound _, fun blk os out tape D hD => ?_⟩
  conv => lhs; whnf
  refine (hD _).2 ⟨DeedD.mk ⟨zxid, kind, ses, turn, xid, time, path, data, owner, ver, cver, tmo, err, cfg, mem⟩ parts, ⟨_, _, rfl, hxa, hya⟩, fun v A1 hq => ?_⟩
  obtain ⟨h9, hv⟩ : A1 = A ∧ v = .bool true := hq
  subst h9; subst hv
  conv => lhs; whnf
  refine (hD _).2 ⟨(data, gd, cd), ⟨_, rfl, hy1, h2⟩, fun v A2 hq => ?_⟩
  obtain ⟨h9, hv⟩ : A2 = A1 ∧ v = .bool true := hq
  subst h9; subst hv
  conv => lhs; whnf
  refine go_dec rfl ?_
  conv => lhs; whnf
  refine (hD _).2 ⟨(mem, mem), ⟨_, _, rfl, hxm, hy2⟩, fun v A3 hq => ?_⟩
  obtain ⟨h9, hv⟩ : A3 = A2 ∧ v = .bool (decide (mem = mem)) := hq
  rw [decide_eq_true rfl] at hv
  subst h9; subst hv
  conv => lhs; whnf
  refine (hD _).2 ⟨(mem, gm, cm), ⟨_, rfl, hy2, h3⟩, fun v A9 hq => ?_⟩
  obtain ⟨h9, hv⟩ : A9 = A3 ∧ v = .bool true := hq
  subst h9; subst hv
  conv => lhs; whnf
  refine (hD _).2 ⟨(parts, rows', Lp, gp, cp), ⟨_, rfl, hparts, h4, h5, rows, hy3, hy4, hy5⟩, fun v A4 hq => ?_⟩
  obtain ⟨h9, hv⟩ : A4 = A9 ∧ v = .bool true := hq
  subst h9; subst hv
  have hend : (keptDeedS (m + 1)).post (DeedD.mk ⟨zxid, kind, ses, turn, xid, time, path, data, owner, ver, cver, tmo, err, cfg, mem⟩ parts, L) [] A4 (.bool true) A4 := ⟨rfl, rfl⟩
  conv => lhs; whnf
  exact (hD _).2 hend

set_option maxRecDepth 100000 in
set_option maxHeartbeats 0 in
theorem keptDeeds_of (m : Nat) (ih : FOk Tryz.prog 51 (keptDeedS m)) : FOk Tryz.prog 74 (keptDeedsS m) := by
  refine fok_v mixed fun ⟨ds, rows, L, g, c⟩ vs A hp => ?_
  obtain ⟨x, rfl, hsz, hL, hLs, rows0, ⟨ao, k7, rfl, hd7, hdl, hz1, hz2, hz3⟩, hdn, hR⟩ : ∃ y, vs = [.slice (some ⟨g, 0, none⟩) ds.length c, y] ∧ (∀ d ∈ ds, dSz d < m) ∧ LRow A g 16 31 (ds.length + 12) c (rows.flatten ++ marksD 12) ∧ LentDsR A ds rows L ∧ DeedsS A y ds := hp
  have hC : CTSound Tryz.prog (lookC [specE 51 (keptDeedS m), specE 94 markDeedS, specE 71 sameDeedT'] noC) := lookC_sound (noC_sound _) (fun x hx => by
    simp only [List.mem_cons, List.not_mem_nil, or_false] at hx
    rcases hx with rfl | rfl | rfl
    · exact specE_ok ih
    · exact specE_ok markDeed_ok
    · exact specE_ok sameDeedT_ok)
  refine ⟨_, tabO Tryz.prog _ noL 60 [(74, 0)], 60, hC, tabO_sound mixed hC (noL_sound _) _ _, fun blk os out tape D hD => ?_⟩
  have hw : IntKind.i64.wrap ((ds.length : Int) + 12) = ((ds.length + 12 : Nat) : Int) := by
    rw [Sx.wrap_i64 (by omega) (by omega)]; omega
  have hwn : (IntKind.i64.wrap ((ds.length : Int) + 12)).toNat = ds.length + 12 := by rw [hw, Int.toNat_natCast]
  have hrow := hL.rd
  have hend : (keptDeedsS m).post (ds, rows, L, g, c) [] A (.bool true) A := ⟨rfl, rfl⟩
  conv => lhs; whnf
  refine split_nd (fun _ => ?_) (fun h => absurd rfl h)
  conv => lhs; whnf
  refine go_b (lbnd_to (k := ds.length + 12) hw hL.le) ?_
  conv => lhs; whnf
  refine (hD _).2 ⟨cnt A 6 [0, 1, 5] [] (ds.length + 12) fun _ => True, ⟨(0 : Nat), ⟨Nat.zero_le _, trivial⟩, ⟨rfl, trivial⟩, trivial, rfl⟩, fun (k : Nat) hk => ⟨⟨trivial, trivial⟩, trivial, ?_⟩⟩
  simp only [cnt] at hk
  conv => lhs; whnf
  refine split_dec (fun hlt => ?_) (fun hlt => ?_)
  rotate_left
  · conv => lhs; whnf
    exact (hD _).2 hend
  have hlt : (k : Int) < (((IntKind.i64.wrap ((ds.length : Int) + 12)).toNat : Nat) : Int) := hlt
  have hk2 : k < ds.length + 12 := by
    have h9 := hlt
    rw [hwn] at h9
    omega
  have i0 : (0 : Int) ≤ (k : Int) ∧ (k : Int) < (((IntKind.i64.wrap ((ds.length : Int) + 12)).toNat : Nat) : Int) := ⟨by omega, hlt⟩
  have hmu : (ds.length + 12) - (k + 1) < (ds.length + 12) - k := by omega
  by_cases h1 : k < ds.length
  · obtain ⟨g', o', e, hrb⟩ := Sl.at_ hd7 hz1 hz2 hz3 (by omega)
    subst e
    have h1i : (k : Int) < (ds.length : Int) := by omega
    have h1n : ¬ (ds.length : Int) ≤ (k : Int) := by omega
    have i1 : (0 : Int) ≤ (k : Int) ∧ (k : Int) < (ds.length : Int) := by omega
    obtain ⟨ca, Lk, r1, hlk⟩ := lentD_at hL hLs k h1
    obtain ⟨cb, r2, hbk⟩ := deed_at hrb hR k h1 rfl
    have r1 : A.rd g ((0 + bif c.beq (Int.toNat 0) then 0 else Int.toNat 0 * 16) + k * 16) 16 = some ca := by
      rw [off0]
      exact r1
    have hlk0 := hlk
    have hbk0 := hbk
    obtain ⟨p0, p1, p2, p3, p4, p5, p6, q7, u7, n7, p8, p9, p10, p11, p12, p13, q14, u14, n14, q15, u15, n15, hca⟩ := hlk.ask.forms
    subst hca
    obtain ⟨p0, p1, p2, p3, p4, p5, p6, q7, u7, n7, p8, p9, p10, p11, p12, p13, q14, u14, n14, q15, u15, n15, hcb⟩ := hbk.forms
    subst hcb
    conv => lhs; whnf
    repeat (first | refine go_dec h1i ?_ | refine go_in i0 ?_ | refine go_in i1 ?_ | refine go_rd r1 ?_ | refine go_rd r2 ?_
            conv => lhs; whnf)
    refine (hD _).2 ⟨(ds[k], Lk), ⟨_, _, rfl, hsz _ (List.getElem_mem _), hlk0, hbk0⟩, fun v A4 hq => ?_⟩
    obtain ⟨h9, hv⟩ : A4 = A ∧ v = .bool true := hq
    subst h9; subst hv
    conv => lhs; whnf
    repeat (first | refine no_dec h1n ?_ | refine go_dec h1n ?_
            conv => lhs; whnf)
    exact (hD _).2 ⟨(k + 1 : Nat), ⟨⟨hk2, trivial⟩, ⟨inc_slot (by omega), trivial⟩, trivial, rfl⟩, hmu, ⟨same1 rfl rfl, same1 rfl rfl, same1 rfl rfl, trivial⟩, trivial⟩
  · have h1i : ¬ (k : Int) < (ds.length : Int) := by omega
    have h1n : (ds.length : Int) ≤ (k : Int) := by omega
    have hwk : IntKind.i64.wrap ((k : Int) - (ds.length : Int)) = ((k - ds.length : Nat) : Int) := by
      rw [Sx.wrap_i64 (by omega) (by omega)]; omega
    have r1 : A.rd g ((0 + bif c.beq (Int.toNat 0) then 0 else Int.toNat 0 * 16) + k * 16) 16 = some (markK 1 ((k - ds.length : Nat) : Int)) := by
      rw [off0]
      have h9 := rd_at hrow (i := k * 16) (m := 16) (by omega)
      have h8 := markDd_at (lentDs_flat hLs) (k - ds.length) (by omega)
      rw [show ds.length + (k - ds.length) = k by omega] at h8
      rw [h8] at h9
      exact h9
    conv => lhs; whnf
    repeat (first | refine no_dec h1i ?_ | refine go_dec h1n ?_ | refine go_in i0 ?_ | refine go_rd r1 ?_
            conv => lhs; whnf)
    refine (hD _).2 ⟨((1 : Int), IntKind.i64.wrap ((k : Int) - (ds.length : Int))), rfl, fun v A9 hq => ?_⟩
    obtain ⟨h9, hv⟩ : A9 = A ∧ v = deedV (markK 1 (IntKind.i64.wrap ((k : Int) - (ds.length : Int)))) := hq
    subst h9
    rw [hwk] at hv
    subst hv
    conv => lhs; whnf
    repeat (first | refine no_dec h1i ?_ | refine go_dec h1n ?_ | refine go_in i0 ?_ | refine go_rd r1 ?_ | refine go_D hD rfl ?_
            conv => lhs; whnf)
    refine (hD _).2 ⟨markDD 1 ((k - ds.length : Nat) : Int), ⟨_, _, rfl, markDD_ok _ _ _, markDD_ok _ _ _⟩, fun v A4 hq => ?_⟩
    obtain ⟨h9, hv⟩ : A4 = A9 ∧ v = .bool true := hq
    subst h9; subst hv
    conv => lhs; whnf
    repeat (first | refine no_dec h1i ?_ | refine go_dec h1n ?_ | refine go_in i0 ?_ | refine go_rd r1 ?_ | refine go_D hD rfl ?_
            conv => lhs; whnf)
    exact (hD _).2 ⟨(k + 1 : Nat), ⟨⟨hk2, trivial⟩, ⟨inc_slot (by omega), trivial⟩, trivial, rfl⟩, hmu, ⟨same1 rfl rfl, same1 rfl rfl, same1 rfl rfl, trivial⟩, trivial⟩

theorem keptDeed_all : ∀ m, FOk Tryz.prog 51 (keptDeedS m)
  | 0 => fun g vs A w _ hp => by obtain ⟨_, _, _, h, _⟩ := hp; omega
  | m + 1 => keptDeed_of m (keptDeeds_of m (keptDeed_all m))

def keptDeedS' : FSpec := ⟨DeedD × List Nat, fun x vs A => ∃ cs ds, vs = [deedV cs, deedV ds] ∧ LentDR A x.1 cs x.2 ∧ DeedR A x.1 ds,
  fun _ _ A v A' => A' = A ∧ v = .bool true⟩

theorem keptDeed_ok : FOk Tryz.prog 51 keptDeedS' := fun d vs A w hA ⟨x, y, h1, h2, h3⟩ =>
  keptDeed_all (dSz d.1 + 1) d vs A w hA ⟨x, y, h1, Nat.lt_succ_self _, h2, h3⟩

end
end Go.Proofs.YtienbbhelhhfjaaGreatDoor

namespace Go.Proofs.YtienbbhelhhfjaaGreatDoor
open Go.Sx Go.RowKit
noncomputable section
open Classical

/-- Pick: a number below n. -/
def pickS : FSpec := ⟨Int × Nat, fun g vs _ => vs = [.int .i64 g.1, .int .i64 g.2] ∧ 1 ≤ g.2 ∧ g.2 ≤ 1000000, fun g _ A v A' => A' = A ∧ ∃ k : Nat, k < g.2 ∧ v = .int .i64 k⟩

set_option maxRecDepth 100000 in
set_option maxHeartbeats 0 in
theorem pick_ok : FOk Tryz.prog 49 pickS := by
  refine fok_v mixed fun ⟨x, n⟩ vs A hp => ?_
  obtain ⟨rfl, h1, h2⟩ : vs = [.int .i64 x, .int .i64 n] ∧ 1 ≤ n ∧ n ≤ 1000000 := hp
  refine ⟨noC, noL, 60, noC_sound _, noL_sound _, fun blk os out tape D hD => ?_⟩
  conv => lhs; whnf
  refine split_dec (fun h => ?_) (fun h => ?_) <;> (conv => lhs; whnf)
  · omega
  have hn0 : ¬ (n : Int) = 0 := by omega
  have hlo : -(n : Int) < Int.tmod x n := by
    have := Int.lt_tmod_of_pos x (b := (n : Int)) (by omega)
    omega
  have hhi : Int.tmod x n < n := Int.tmod_lt_of_pos x (by omega)
  have hend : ∀ z : Int, 0 ≤ z → z < n → pickS.post (x, n) [.int .i64 x, .int .i64 n] A (.int .i64 z) A := fun z h0 h1 => ⟨rfl, z.toNat, by show z.toNat < n; omega, by rw [Int.toNat_of_nonneg h0]⟩
  refine split_b (fun _ => ?_) (fun hb => absurd hb (by rw [decide_eq_false hn0]; decide)) <;> (conv => lhs; whnf)
  refine split_dec (fun h0 => ?_) (fun h0 => ?_) <;> (conv => lhs; whnf)
  · have hend1 := hend (IntKind.i64.wrap (Int.tmod x n + n)) (by rw [Sx.wrap_i64 (by omega) (by omega)]; omega) (by rw [Sx.wrap_i64 (by omega) (by omega)]; omega)
    exact (hD _).2 hend1
  · exact (hD _).2 (hend (Int.tmod x n) (by omega) hhi)

end
end Go.Proofs.YtienbbhelhhfjaaGreatDoor

namespace Go.Proofs.YtienbbhelhhfjaaGreatDoor
open Go.Sx Go.RowKit
noncomputable section
open Classical

/-- The program's tower and the document's. -/
structure BoAt (A0 A : Arena) (t m : Nat) (ws : List WatchD) (S : Arena) (r : Nat) (l : List WatchD) : Prop where
  sub : A0.Sub A
  tw : TowerAt A t m ws
  rt : RtAt A S r l
  rel : RelW ws l
  t0 : A0.blk t = none
  m0 : A0.blk m = none
  r0 : A0.blk r = none
  sm : S.blk m = none
  rt' : r ≠ t
  rm : r ≠ m

/-- The program's tower changes. -/
theorem BoAt.tstep {A0 A A' S : Arena} {t m r : Nat} {ws ws' l l' : List WatchD} (h : BoAt A0 A t m ws S r l) (k : TwTo A ⟨t, m, ws⟩ ws' A') (hl : RelW ws' l') : (RelW ws' l → BoAt A0 A' t m ws' S r l) ∧ (∀ A2, RtTo A' S r l' A2 → ∃ S', BoAt A0 A2 t m ws' S' r l') := by
  have hrt : RtAt A' S r l := by
    obtain ⟨v, E, h1, h2⟩ := h.rt.row
    exact ⟨⟨v, E, h1.sub fun o ho => k.keep r o h.rm ho, h2⟩, fun b o hb => k.keep b o (fun e => (by
      have e : b = m := e
      rw [e, h.sm] at hb; cases hb)) (h.rt.sub b o hb), h.rt.off, h.rt.le⟩
  have hsub : A0.Sub A' := fun b o hb => k.keep b o (fun e => (by
    have e : b = m := e
    rw [e, h.m0] at hb; cases hb)) (h.sub b o hb)
  refine ⟨fun hr => ⟨hsub, k.tower, hrt, hr, h.t0, h.m0, h.r0, h.sm, h.rt', h.rm⟩, fun A2 k2 => ?_⟩
  obtain ⟨S', h3, h4⟩ := k2.at_
  refine ⟨S', fun b o hb => k2.keep b o (fun e => (by rw [e, h.r0] at hb; cases hb)) (hsub b o hb), ?_, h3, hl, h.t0, h.m0, h.r0, ?_, h.rt', h.rm⟩
  · obtain ⟨ot, hot⟩ := k.tower.top.dom
    obtain ⟨em, cm, hom, _⟩ := k.tower.map
    refine ⟨k.tower.top.sub fun o ho => k2.keep t o h.rt'.symm ho, k.tower.map.sub fun o ho => k2.keep m o h.rm.symm ho, k.tower.nd, k.tower.ne⟩
  · cases hb : S'.blk m with
    | none => rfl
    | some o =>
      rcases h4 m o hb with h5 | h5
      · rw [h.sm] at h5; cases h5
      · obtain ⟨em, cm, hom, _⟩ := k.tower.map
        rw [hom] at h5; cases h5

theorem BoAt.rtAfter {A0 A A' S : Arena} {t m r : Nat} {ws ws' l : List WatchD} (h : BoAt A0 A t m ws S r l) (k : TwTo A ⟨t, m, ws⟩ ws' A') : RtAt A' S r l := by
  obtain ⟨v, E, h1, h2⟩ := h.rt.row
  exact ⟨⟨v, E, h1.sub fun o ho => k.keep r o h.rm ho, h2⟩, fun b o hb => k.keep b o (fun e => (by
    have e : b = m := e
    rw [e, h.sm] at hb; cases hb)) (h.rt.sub b o hb), h.rt.off, h.rt.le⟩

theorem BoAt.more {A0 A A' S : Arena} {t m r : Nat} {ws l : List WatchD} (h : BoAt A0 A t m ws S r l) (s : A.Sub A') : BoAt A0 A' t m ws S r l :=
  ⟨h.sub.trans s, ⟨h.tw.top.sub fun _ ho => s _ _ ho, h.tw.map.sub fun _ ho => s _ _ ho, h.tw.nd, h.tw.ne⟩, h.rt.up s, h.rel, h.t0, h.m0, h.r0, h.sm, h.rt', h.rm⟩

structure StG where
  A0 : Arena
  t : Nat
  m : Nat
  ws : List WatchD
  S : Arena
  r : Nat
  l : List WatchD
  d : DoD

def stepS : FSpec := ⟨StG, fun g vs A => ∃ cs, vs = [.pointer (some ⟨g.t, 0, none⟩), .pointer (some ⟨g.r, 0, none⟩), .agg cs.toArray] ∧ BoAt g.A0 A g.t g.m g.ws g.S g.r g.l ∧ DoR g.A0 g.d cs ∧ HasA g.A0 ∧ g.l.length < 1000,
  fun g _ _ v A' => v = .bool true ∧ ∃ ws' S' l', BoAt g.A0 A' g.t g.m ws' S' g.r l' ∧ l'.length ≤ g.l.length + 1⟩

set_option maxRecDepth 100000 in
set_option maxHeartbeats 0 in
theorem step_ok : FOk Tryz.prog 26 stepS := by
  refine fok_v mixed fun ⟨A0, t, m, ws, S, r, l, ⟨op, ⟨conn, sort, p⟩, d, last, ⟨np, cz, mz, pz, ct, mt, ve, cv, ow, le, ki⟩, there⟩⟩ vs A hp => ?_
  obtain ⟨cs, rfl, hB, hDo, hHas, hl⟩ : ∃ cs : List Value, vs = [.pointer (some ⟨t, 0, none⟩), .pointer (some ⟨r, 0, none⟩), .agg cs.toArray] ∧ BoAt A0 A t m ws S r l ∧ DoR A0 ⟨op, ⟨conn, sort, p⟩, d, last, ⟨np, cz, mz, pz, ct, mt, ve, cv, ow, le, ki⟩, there⟩ cs ∧ HasA A0 ∧ l.length < 1000 := hp
  obtain ⟨dc, na, nl, nk, rfl, hDd, hpl⟩ := hDo
  have hDA := DeedR.sub hB.sub _ _ hDd
  obtain ⟨a7, l7, k7, a14, l14, k14, a15, l15, k15, hdc⟩ := hDd.form
  subst hdc
  have hC : CTSound Tryz.prog (lookC [specE 49 pickS, specE 7 bellAddS, specE 11 bellRingS, specE 27 bellAgainS, specE 53 bellDropS,
      specE 8 rAddS, specE 12 rRingS, specE 52 rAgainS, specE 54 rDropCS, specE 50 lentDeedS', specE 51 keptDeedS', specE 10 ringsEqS] noC) := lookC_sound (noC_sound _) (fun x hx => by
    simp only [List.mem_cons, List.not_mem_nil, or_false] at hx
    rcases hx with rfl | rfl | rfl | rfl | rfl | rfl | rfl | rfl | rfl | rfl | rfl | rfl
    · exact specE_ok pick_ok
    · exact specE_ok bellAdd_ok
    · exact specE_ok bellRing_ok
    · exact specE_ok bellAgain_ok
    · exact specE_ok bellDrop_ok
    · exact specE_ok rAdd_ok
    · exact specE_ok rRing_ok
    · exact specE_ok rAgain_ok
    · exact specE_ok rDropC_ok
    · exact specE_ok lentDeed_ok
    · exact specE_ok keptDeed_ok
    · exact specE_ok ringsEq_ok)
  refine ⟨_, noL, 60, hC, noL_sound _, fun blk os out tape D hD => ?_⟩
  conv => lhs; whnf
  refine (hD _).2 ⟨(op, 6), ⟨rfl, by show (1 : Nat) ≤ 6; omega, by show (6 : Nat) ≤ 1000000; omega⟩, fun v A1 hq => ?_⟩
  obtain ⟨h9, k, hk, hv⟩ : A1 = A ∧ ∃ k : Nat, k < 6 ∧ v = .int .i64 k := hq
  subst h9; subst hv
  have hend : ∀ ws' l' S' A', BoAt A0 A' t m ws' S' r l' → l'.length ≤ l.length + 1 → stepS.post ⟨A0, t, m, ws, S, r, l, ⟨op, ⟨conn, sort, p⟩, d, last, ⟨np, cz, mz, pz, ct, mt, ve, cv, ow, le, ki⟩, there⟩⟩ [] A1 (.bool true) A' := fun ws' l' S' A' h1 h2 => ⟨rfl, ws', S', l', h1, h2⟩
  have hk6 : k = 0 ∨ k = 1 ∨ k = 2 ∨ k = 3 ∨ k = 4 ∨ k = 5 := by omega
  rcases hk6 with rfl | rfl | rfl | rfl | rfl | rfl
  iterate 2
    · conv => lhs; whnf
      refine (hD _).2 ⟨((⟨t, m, ws⟩ : TwG), (⟨conn, sort, p⟩ : WatchD)), ⟨rfl, hB.tw⟩, fun v A2 hq => ?_⟩
      have hq : TwTo A1 ⟨t, m, ws⟩ (if mayD sort p = true then wPut (⟨conn, sort, p⟩ : WatchD) ws else ws) A2 := hq
      have hrel : RelW (if mayD sort p = true then wPut (⟨conn, sort, p⟩ : WatchD) ws else ws) (if mayD sort p = true then addW (⟨conn, sort, p⟩ : WatchD) l else l) := by
        by_cases hm : mayD sort p = true
        · rw [if_pos hm, if_pos hm]
          exact hB.rel.add (mayD_sort hm)
        · rw [if_neg hm, if_neg hm]
          exact hB.rel
      have hlen : (if mayD sort p = true then addW (⟨conn, sort, p⟩ : WatchD) l else l).length ≤ l.length + 1 := by
        split
        · exact addW_len _ _
        · exact Nat.le_succ _
      conv => lhs; whnf
      repeat (refine go_D hD rfl ?_
              conv => lhs; whnf)
      refine (hD _).2 ⟨(S, r, l, (⟨conn, sort, p⟩ : WatchD)), ⟨rfl, hB.rtAfter hq, hpl, by show l.length < 1000000; omega⟩, fun v A3 hq2 => ?_⟩
      obtain ⟨S', hB'⟩ := (hB.tstep hq hrel).2 A3 hq2
      have hend := hend _ _ S' A3 hB' hlen
      conv => lhs; whnf
      repeat (refine go_D hD rfl ?_
              conv => lhs; whnf)
      exact (hD _).2 hend
  iterate 2
    · conv => lhs; whnf
      refine (hD _).2 ⟨d, ⟨_, rfl, hDA⟩, fun v A2 hq => ?_⟩
      obtain ⟨s2, c2, L, hv, hlr, hLn⟩ : A1.Sub A2 ∧ ∃ cs L, v = deedV cs ∧ LentDR A2 d cs L ∧ ∀ k ∈ L, A1.blk k = none := hq
      subst hv
      have hB2 := hB.more s2
      obtain ⟨em, cm, hom, _⟩ := hB.tw.map
      obtain ⟨orr, hor⟩ := hB.rt.live
      have hLm : ∀ k ∈ L, k ≠ m ∧ k ≠ r := fun k hk => ⟨fun e => (by rw [← e, hLn k hk] at hom; cases hom), fun e => (by rw [← e, hLn k hk] at hor; cases hor)⟩
      have hmin : DeedR (A2.minus A1) d c2 := (hlr.keep fun k hk => by
        obtain ⟨o, ho⟩ := hlr.live k hk
        rw [ho]
        exact minus_mk (hLn k hk) ho).ask
      obtain ⟨b7, x7, y7, b14, x14, y14, b15, x15, y15, hc2⟩ := hlr.ask.form
      subst hc2
      have hHas2 := hHas.sub hB2.sub
      have hwl : ws.length ≤ 1000000 := by
        have := hB.rel.len
        omega
      conv => lhs; whnf
      repeat (refine go_D hD rfl ?_
              conv => lhs; whnf)
      refine (hD _).2 ⟨((⟨t, m, ws⟩ : TwG), d, A2.minus A1), ⟨_, rfl, hB2.tw, hB.rel.ok, hwl, hmin, minus_sub _ _, minus_none _ hom, hHas2⟩, fun v A3 hq => ?_⟩
      obtain ⟨hT3, hG3⟩ : TwTo A2 ⟨t, m, ws⟩ (ringsW d ws).2 A3 ∧ GrowR A2 A3 5 51 (ringsW d ws).1.length v ((ringsW d ws).1.flatMap RingD.cells) := hq
      obtain ⟨hr1, hr2⟩ := hB.rel.ring d
      have hrl := rRings_len d l
      rw [hr1] at hG3
      obtain ⟨q3, cp3, hv3, hq3, -⟩ := hG3.formN
      subst hv3
      have hD3 : A0.Sub A3 := fun b o hb => hT3.keep b o (fun e => by
        have e : b = m := e
        rw [e, hB.m0] at hb; cases hb) (hB2.sub b o hb)
      have hst := (hB2.tstep hT3 hr2).2
      conv => lhs; whnf
      repeat (refine go_D hD rfl ?_
              conv => lhs; whnf)
      refine (hD _).2 ⟨((S, r, l), d, A0), ⟨_, rfl, hB2.rtAfter hT3, hDd, hD3, hB.r0⟩, fun v A4 hq => ?_⟩
      obtain ⟨hT4, hG4⟩ : RtTo A3 S r (rRingsW d l).2 A4 ∧ GrowR A3 A4 5 75 (rRingsW d l).1.length v ((rRingsW d l).1.flatMap RingD.cells) := hq
      obtain ⟨q4, cp4, hv4, hq4, -⟩ := hG4.formN
      subst hv4
      obtain ⟨S', hB'⟩ := hst A4 hT4
      have hend := hend _ _ S' A4 hB' (Nat.le_succ_of_le hrl)
      have hr2l := s2 r orr hor
      have hG34 := grow_stay hG3 fun b o h1 h2 => hT4.keep b o (fun e => by
        rw [e, hr2l] at h1; cases h1) h2
      have hnr : (rRingsW d l).1.length ≤ 1000000000 := by
        have h1 := rRings_tot d l
        omega
      have hl4 : LentDR A4 d _ L := hlr.keep fun k hk => by
        obtain ⟨o, ho⟩ := hlr.live k hk
        rw [ho]
        exact hT4.keep k o (hLm k hk).2 (hT3.keep k o (hLm k hk).1 ho)
      have hD4 := DeedR.sub (fun b o hb => hT4.keep b o (fun e => by
        rw [e, hB.r0] at hb; cases hb) (hD3 b o hb) : A0.Sub A4) _ _ hDd
      have hs3 := hG34.sl
      have hs4 := hG4.sl
      clear hG3 hG4 hG34 hT3 hT4
      conv => lhs; whnf
      repeat (refine go_D hD rfl ?_
              conv => lhs; whnf)
      refine (hD _).2 ⟨(rRingsW d l).1, ⟨_, _, rfl, hs3, hs4, hnr⟩, fun v A5 hq => ?_⟩
      obtain ⟨h5, hv⟩ : A5 = A4 ∧ v = .bool true := hq
      subst h5; subst hv
      conv => lhs; whnf
      repeat (refine go_D hD rfl ?_
              conv => lhs; whnf)
      refine (hD _).2 ⟨(d, L), ⟨_, _, rfl, hl4, hD4⟩, fun v A6 hq => ?_⟩
      obtain ⟨h6, hv⟩ : A6 = A5 ∧ v = .bool true := hq
      subst h6; subst hv
      conv => lhs; whnf
      repeat (refine go_D hD rfl ?_
              conv => lhs; whnf)
      exact (hD _).2 hend
  · conv => lhs; whnf
    refine (hD _).2 ⟨((⟨t, m, ws⟩ : TwG), (⟨conn, sort, p⟩ : WatchD), last, (⟨np, cz, mz, pz, ct, mt, ve, cv, ow, le, ki⟩ : NdD), there), ⟨_, _, _, rfl, hB.tw⟩, fun v A2 hq => ?_⟩
    obtain ⟨hv, hq⟩ : v = .tuple #[.agg (againW (⟨conn, sort, p⟩ : WatchD) last ⟨np, cz, mz, pz, ct, mt, ve, cv, ow, le, ki⟩ there ws).1.cells.toArray, .bool (againW (⟨conn, sort, p⟩ : WatchD) last ⟨np, cz, mz, pz, ct, mt, ve, cv, ow, le, ki⟩ there ws).2.1] ∧ TwTo A1 ⟨t, m, ws⟩ (againW (⟨conn, sort, p⟩ : WatchD) last ⟨np, cz, mz, pz, ct, mt, ve, cv, ow, le, ki⟩ there ws).2.2 A2 := hq
    obtain ⟨e1, e2, hrel⟩ := hB.rel.again (⟨conn, sort, p⟩ : WatchD) last ⟨np, cz, mz, pz, ct, mt, ve, cv, ow, le, ki⟩ there
    have hlen := rAgain_len (⟨conn, sort, p⟩ : WatchD) last ⟨np, cz, mz, pz, ct, mt, ve, cv, ow, le, ki⟩ there l
    have hrt := hB.rtAfter hq
    have hst := (hB.tstep hq hrel).2
    generalize againW (⟨conn, sort, p⟩ : WatchD) last ⟨np, cz, mz, pz, ct, mt, ve, cv, ow, le, ki⟩ there ws = X at hv hq e1 e2 hrel hst
    obtain ⟨⟨ek, es, ep, ez⟩, eb, ws'⟩ := X
    dsimp only at hv e1 e2
    subst hv
    conv => lhs; whnf
    repeat (refine go_D hD rfl ?_
            conv => lhs; whnf)
    refine (hD _).2 ⟨((S, r, l), (⟨conn, sort, p⟩ : WatchD), last, (⟨np, cz, mz, pz, ct, mt, ve, cv, ow, le, ki⟩ : NdD), there), ⟨_, _, _, rfl, hrt, hpl, by show l.length < 1000000; omega⟩, fun v A3 hq2 => ?_⟩
    obtain ⟨hv, hq2⟩ : v = .tuple #[.agg (rAgainW (⟨conn, sort, p⟩ : WatchD) last ⟨np, cz, mz, pz, ct, mt, ve, cv, ow, le, ki⟩ there l).1.cells.toArray, .bool (rAgainW (⟨conn, sort, p⟩ : WatchD) last ⟨np, cz, mz, pz, ct, mt, ve, cv, ow, le, ki⟩ there l).2.1] ∧ RtTo A2 S r (rAgainW (⟨conn, sort, p⟩ : WatchD) last ⟨np, cz, mz, pz, ct, mt, ve, cv, ow, le, ki⟩ there l).2.2 A3 := hq2
    obtain ⟨S', hB'⟩ := hst A3 hq2
    have hend := hend _ _ S' A3 hB' hlen
    rw [← e1, ← e2] at hv
    subst hv
    conv => lhs; whnf
    repeat (first | refine go_D hD rfl ?_ | refine go_D hD (by kernel_rfl) ?_
            conv => lhs; whnf)
    have hbb : beqL ep.data.toList ep.data.toList = true := beqL_iff.2 rfl
    refine split_b (fun _ => ?_) (fun hb => ?_)
    rotate_left
    · rw [hbb] at hb
      simp at hb
    conv => lhs; whnf
    repeat (first | refine go_D hD rfl ?_ | refine go_D hD (by kernel_rfl) ?_
            conv => lhs; whnf)
    have e9 : (eb == eb) = true := by cases eb <;> rfl
    rw [← e9] at hend
    exact (hD _).2 hend
  · conv => lhs; whnf
    refine (hD _).2 ⟨((⟨t, m, ws⟩ : TwG), conn), ⟨rfl, hB.tw⟩, fun v A2 hq => ?_⟩
    have hq : TwTo A1 ⟨t, m, ws⟩ (ws.filter fun w => !decide (w.conn = conn)) A2 := hq
    have hrel := hB.rel.filter fun w => !decide (w.conn = conn)
    conv => lhs; whnf
    repeat (refine go_D hD rfl ?_
            conv => lhs; whnf)
    refine (hD _).2 ⟨(S, r, l, conn), ⟨rfl, hB.rtAfter hq⟩, fun v A3 hq2 => ?_⟩
    obtain ⟨S', hB'⟩ := (hB.tstep hq hrel).2 A3 hq2
    have hend := hend _ _ S' A3 hB' (Nat.le_succ_of_le (List.length_filter_le _ _))
    conv => lhs; whnf
    repeat (refine go_D hD rfl ?_
            conv => lhs; whnf)
    exact (hD _).2 hend

end
end Go.Proofs.YtienbbhelhhfjaaGreatDoor

namespace Go.Proofs.YtienbbhelhhfjaaGreatDoor
open Go.Sx Go.RowKit
noncomputable section
open Classical

structure LvG where
  i : Nat
  A : Arena
  ws : List WatchD
  S : Arena
  l : List WatchD

def lvInv (A0 : Arena) (t m r n : Nat) : LInv := { γ := LvG, G := fun s => s.i ≤ n ∧ BoAt A0 s.A t m s.ws s.S r s.l ∧ s.l.length ≤ s.i, keepS := [0, 3, 4], keepB := [], sl := fun s => [(5, .v (.int .i64 s.i))], bl := fun _ => [], ar := fun s => s.A, mu := fun s => n - s.i }

def livesS : FSpec := ⟨List DoD, fun ds vs A => ∃ v, vs = [v] ∧ DosS A v ds ∧ HasA A, fun _ _ A v A' => A.Sub A' ∧ v = .bool true⟩

set_option maxRecDepth 100000 in
set_option maxHeartbeats 0 in
theorem lives_ok : FOk Tryz.prog 16 livesS := by
  refine fok_v mixed fun (ds : List DoD) vs A hp => ?_
  obtain ⟨v, rfl, ⟨rows, hS, hlen, hrl, hR⟩, hHas⟩ : ∃ v, vs = [v] ∧ DosS A v ds ∧ HasA A := hp
  obtain ⟨ao, c, rfl, hc, hl, ha1, ha2, ha3⟩ := hS
  have hrow : ∀ k (hk : k < ds.length), ∃ g0 o, ao = some ⟨g0, o, none⟩ ∧ ∃ cs, DoR A ds[k] cs ∧ A.rd g0 (o + k * 34) 34 = some cs := fun k hk => by
    obtain ⟨g0, o, e, hra⟩ := Sl.at_ hc ha1 ha2 ha3 (by omega)
    exact ⟨g0, o, e, dos_row hrl hR hra rfl hk⟩
  have hC : CTSound Tryz.prog (lookC [specE 17 awS, specE 5 bellNewS, specE 6 rNewS, specE 26 stepS, specE 9 bellCountS, specE 13 rCountS] noC) := lookC_sound (noC_sound _) (fun x hx => by
    simp only [List.mem_cons, List.not_mem_nil, or_false] at hx
    rcases hx with rfl | rfl | rfl | rfl | rfl | rfl
    · exact specE_ok aw_ok
    · exact specE_ok bellNew_ok
    · exact specE_ok rNew_ok
    · exact specE_ok step_ok
    · exact specE_ok bellCount_ok
    · exact specE_ok rCount_ok)
  refine ⟨_, tabO Tryz.prog _ noL 60 [(16, 0)], 60, hC, tabO_sound mixed hC (noL_sound _) _ _, fun blk os out tape D hD => ?_⟩
  conv => lhs; whnf
  refine split_dec (fun h80 => ?_) (fun h80 => ?_)
  · have h80' : 80 < ds.length := by
      have h80 : (80 : Int) < ds.length := h80
      omega
    obtain ⟨g0, o, rfl, hra⟩ := Sl.at_ hc ha1 ha2 ha3 (by omega)
    obtain ⟨c', rfl⟩ : ∃ c', c = c' + 1 := ⟨c - 1, by omega⟩
    have hn : ∃ n : Nat, n = 80 ∧ n ≤ ds.length ∧ n ≤ c' + 1 ∧ n ≤ 80 := ⟨_, rfl, by omega, by omega, by omega⟩
    conv => lhs; whnf
    refine go_dec (by show (80 : Int) ≤ ((c' + 1 : Nat) : Int); omega) ?_
    conv => lhs; whnf
    obtain ⟨n, hn, hle, hnc, hn80⟩ := hn
    refine (hD _).2 ⟨(), rfl, fun v A1 hq => ?_⟩
    obtain ⟨s1, t, m, hv, hT1, htn, hmn⟩ : A.Sub A1 ∧ ∃ t m, v = .pointer (some ⟨t, 0, none⟩) ∧ TowerAt A1 t m [] ∧ A.blk t = none ∧ A.blk m = none := hq
    subst hv
    conv => lhs; whnf
    refine (hD _).2 ⟨(), rfl, fun v A2 hq => ?_⟩
    obtain ⟨s2, r, hv, hR2, hrn1⟩ : A1.Sub A2 ∧ ∃ r, v = .pointer (some ⟨r, 0, none⟩) ∧ RtAt A2 Arena.void r [] ∧ A1.blk r = none := hq
    subst hv
    have hrn : A.blk r = none := by
      cases h : A.blk r with
      | none => rfl
      | some o => rw [s1 r o h] at hrn1; cases hrn1
    have hBo : BoAt A A2 t m [] Arena.void r [] := by
      obtain ⟨ot, hot⟩ := hT1.top.dom
      obtain ⟨em, cm, hom, _⟩ := hT1.map
      exact ⟨s1.trans s2, ⟨hT1.top.sub fun o ho => s2 _ _ ho, hT1.map.sub fun o ho => s2 _ _ ho, hT1.nd, hT1.ne⟩, hR2, RelW.nil, htn, hmn, hrn, rfl, fun e => (by rw [e, hot] at hrn1; cases hrn1), fun e => (by rw [e, hom] at hrn1; cases hrn1)⟩
    conv => lhs; whnf
    refine (hD _).2 ⟨lvInv A t m r n, ⟨(⟨0, A2, [], Arena.void, []⟩ : LvG), ⟨Nat.zero_le _, hBo, Nat.le_refl _⟩, ⟨rfl, trivial⟩, trivial, rfl⟩, fun (s : LvG) hG => ⟨⟨trivial, trivial⟩, trivial, ?_⟩⟩
    obtain ⟨k, Ak, ws, S, l⟩ := s
    obtain ⟨hk, hB, hlk⟩ : k ≤ n ∧ BoAt A Ak t m ws S r l ∧ l.length ≤ k := hG
    conv => lhs; whnf
    refine split_dec (fun hlt => ?_) (fun hlt => ?_)
    rotate_left
    · conv => lhs; whnf
      refine (hD _).2 ⟨(), ⟨rfl, hHas.sub hB.sub⟩, fun v A3 hq => ?_⟩
      obtain ⟨s3, hv⟩ : Ak.Sub A3 ∧ v = .bool true := hq
      subst hv
      have hend : livesS.post ds [] A (.bool true) A3 := ⟨hB.sub.trans s3, rfl⟩
      conv => lhs; whnf
      exact (hD _).2 hend
    have hkn : k < n := by
      have hlt : (k : Int) < (n : Int) := by rw [hn]; exact hlt
      omega
    obtain ⟨g1, o1, e1, cs, hDo, r1⟩ := hrow k (by omega)
    cases e1
    have hin : (k : Int) < (n : Int) := by omega
    rw [hn] at hin
    have i0 : (0 : Int) ≤ (k : Int) := by omega
    obtain ⟨dk, hdk⟩ : ∃ dk, dk = ds[k]'(by omega) := ⟨_, rfl⟩
    rw [← hdk] at hDo
    clear hdk
    have hDo0 := hDo
    obtain ⟨op, ⟨conn, sort, p⟩, d, last, ⟨np, cz, mz, pz, ct, mt, ve, cv, ow, le, ki⟩, there⟩ := dk
    obtain ⟨dc, na, nl, nk, hcs, hDd, hpl⟩ := hDo
    obtain ⟨a7, l7, k7, a14, l14, k14, a15, l15, k15, hdc⟩ := hDd.form
    subst hdc
    subst hcs
    have r2 := rd_sub hB.sub r1
    have r11 : Ak.rd _ (_ + k * 34 + 11) 1 = some [.slice a7 l7 k7] := rd_at (N := 34) (i := 11) (m := 1) r2 (by omega)
    have r18 : Ak.rd _ (_ + k * 34 + 18) 1 = some [.slice a14 l14 k14] := rd_at (N := 34) (i := 18) (m := 1) r2 (by omega)
    have r19 : Ak.rd _ (_ + k * 34 + 19) 1 = some [.slice a15 l15 k15] := rd_at (N := 34) (i := 19) (m := 1) r2 (by omega)
    conv => lhs; whnf
    repeat (first | refine go_in ⟨i0, hin⟩ ?_ | refine go_rd r19 ?_ | refine go_rd r11 ?_ | refine go_rd r18 ?_
            conv => lhs; whnf)
    refine split_dec (fun _ => ?_) (fun _ => ?_)
    · conv => lhs; whnf
      repeat (first | refine go_D hD rfl ?_
              conv => lhs; whnf)
      refine (hD _).2 ⟨(), ⟨rfl, hHas.sub hB.sub⟩, fun v A3 hq => ?_⟩
      obtain ⟨s3, hv⟩ : Ak.Sub A3 ∧ v = .bool true := hq
      subst hv
      have hend : livesS.post ds [] A (.bool true) A3 := ⟨hB.sub.trans s3, rfl⟩
      conv => lhs; whnf
      exact (hD _).2 hend
    conv => lhs; whnf
    repeat (first | refine go_in ⟨i0, hin⟩ ?_ | refine go_rd r19 ?_ | refine go_rd r11 ?_ | refine go_rd r18 ?_ | refine go_rd r2 ?_ | refine go_D hD rfl ?_
            conv => lhs; whnf)
    refine split_dec (fun _ => ?_) (fun _ => ?_)
    · conv => lhs; whnf
      repeat (first | refine go_D hD rfl ?_
              conv => lhs; whnf)
      refine (hD _).2 ⟨(), ⟨rfl, hHas.sub hB.sub⟩, fun v A3 hq => ?_⟩
      obtain ⟨s3, hv⟩ : Ak.Sub A3 ∧ v = .bool true := hq
      subst hv
      have hend : livesS.post ds [] A (.bool true) A3 := ⟨hB.sub.trans s3, rfl⟩
      conv => lhs; whnf
      exact (hD _).2 hend
    conv => lhs; whnf
    repeat (first | refine go_in ⟨i0, hin⟩ ?_ | refine go_rd r19 ?_ | refine go_rd r11 ?_ | refine go_rd r18 ?_ | refine go_rd r2 ?_ | refine go_D hD rfl ?_
            conv => lhs; whnf)
    refine split_dec (fun _ => ?_) (fun _ => ?_)
    · conv => lhs; whnf
      repeat (first | refine go_D hD rfl ?_
              conv => lhs; whnf)
      refine (hD _).2 ⟨(), ⟨rfl, hHas.sub hB.sub⟩, fun v A3 hq => ?_⟩
      obtain ⟨s3, hv⟩ : Ak.Sub A3 ∧ v = .bool true := hq
      subst hv
      have hend : livesS.post ds [] A (.bool true) A3 := ⟨hB.sub.trans s3, rfl⟩
      conv => lhs; whnf
      exact (hD _).2 hend
    conv => lhs; whnf
    repeat (first | refine go_in ⟨i0, hin⟩ ?_ | refine go_rd r19 ?_ | refine go_rd r11 ?_ | refine go_rd r18 ?_ | refine go_rd r2 ?_ | refine go_D hD rfl ?_
            conv => lhs; whnf)
    refine (hD _).2 ⟨⟨A, t, m, ws, S, r, l, ⟨op, ⟨conn, sort, p⟩, d, last, ⟨np, cz, mz, pz, ct, mt, ve, cv, ow, le, ki⟩, there⟩⟩, ⟨_, rfl, hB, hDo0, hHas, by show l.length < 1000; omega⟩, fun v A3 hq => ?_⟩
    obtain ⟨hv, ws', S', l', hB3, hl3⟩ : v = .bool true ∧ ∃ ws' S' l', BoAt A A3 t m ws' S' r l' ∧ l'.length ≤ l.length + 1 := hq
    subst hv
    conv => lhs; whnf
    repeat (first | refine go_D hD rfl ?_
            conv => lhs; whnf)
    refine (hD _).2 ⟨⟨t, m, ws'⟩, ⟨rfl, hB3.tw⟩, fun v A4 hq => ?_⟩
    obtain ⟨h4, hv⟩ : A4 = A3 ∧ v = .int .i64 ((ws' : List WatchD).length : Nat) := hq
    subst h4; subst hv
    conv => lhs; whnf
    repeat (first | refine go_D hD rfl ?_
            conv => lhs; whnf)
    refine (hD _).2 ⟨(S', r, l'), ⟨rfl, hB3.rt⟩, fun v A5 hq => ?_⟩
    obtain ⟨h5, hv⟩ : A5 = A4 ∧ v = .int .i64 ((l' : List WatchD).length : Nat) := hq
    rw [← hB3.rel.len] at hv
    subst h5; subst hv
    conv => lhs; whnf
    repeat (first | refine go_D hD rfl ?_ | refine split_nd (fun _ => ?_) (fun h => absurd rfl h)
            conv => lhs; whnf)
    exact (hD _).2 ⟨(⟨k + 1, A5, ws', S', l'⟩ : LvG), ⟨⟨hkn, hB3, by show l'.length ≤ k + 1; omega⟩, ⟨inc_slot (k := k) (by omega), trivial⟩, trivial, rfl⟩, by show n - (k + 1) < n - k; omega, ⟨same1 rfl rfl, same1 rfl rfl, same1 rfl rfl, trivial⟩, trivial⟩
  · have hn : ∃ n : Nat, n = ds.length ∧ n ≤ ds.length ∧ n ≤ c ∧ n ≤ 80 := ⟨_, rfl, by omega, by omega, by
      have h80 : ¬ (80 : Int) < ds.length := h80
      omega⟩
    conv => lhs; whnf
    obtain ⟨n, hn, hle, hnc, hn80⟩ := hn
    refine (hD _).2 ⟨(), rfl, fun v A1 hq => ?_⟩
    obtain ⟨s1, t, m, hv, hT1, htn, hmn⟩ : A.Sub A1 ∧ ∃ t m, v = .pointer (some ⟨t, 0, none⟩) ∧ TowerAt A1 t m [] ∧ A.blk t = none ∧ A.blk m = none := hq
    subst hv
    conv => lhs; whnf
    refine (hD _).2 ⟨(), rfl, fun v A2 hq => ?_⟩
    obtain ⟨s2, r, hv, hR2, hrn1⟩ : A1.Sub A2 ∧ ∃ r, v = .pointer (some ⟨r, 0, none⟩) ∧ RtAt A2 Arena.void r [] ∧ A1.blk r = none := hq
    subst hv
    have hrn : A.blk r = none := by
      cases h : A.blk r with
      | none => rfl
      | some o => rw [s1 r o h] at hrn1; cases hrn1
    have hBo : BoAt A A2 t m [] Arena.void r [] := by
      obtain ⟨ot, hot⟩ := hT1.top.dom
      obtain ⟨em, cm, hom, _⟩ := hT1.map
      exact ⟨s1.trans s2, ⟨hT1.top.sub fun o ho => s2 _ _ ho, hT1.map.sub fun o ho => s2 _ _ ho, hT1.nd, hT1.ne⟩, hR2, RelW.nil, htn, hmn, hrn, rfl, fun e => (by rw [e, hot] at hrn1; cases hrn1), fun e => (by rw [e, hom] at hrn1; cases hrn1)⟩
    conv => lhs; whnf
    refine (hD _).2 ⟨lvInv A t m r n, ⟨(⟨0, A2, [], Arena.void, []⟩ : LvG), ⟨Nat.zero_le _, hBo, Nat.le_refl _⟩, ⟨rfl, trivial⟩, trivial, rfl⟩, fun (s : LvG) hG => ⟨⟨trivial, trivial⟩, trivial, ?_⟩⟩
    obtain ⟨k, Ak, ws, S, l⟩ := s
    obtain ⟨hk, hB, hlk⟩ : k ≤ n ∧ BoAt A Ak t m ws S r l ∧ l.length ≤ k := hG
    conv => lhs; whnf
    refine split_dec (fun hlt => ?_) (fun hlt => ?_)
    rotate_left
    · conv => lhs; whnf
      refine (hD _).2 ⟨(), ⟨rfl, hHas.sub hB.sub⟩, fun v A3 hq => ?_⟩
      obtain ⟨s3, hv⟩ : Ak.Sub A3 ∧ v = .bool true := hq
      subst hv
      have hend : livesS.post ds [] A (.bool true) A3 := ⟨hB.sub.trans s3, rfl⟩
      conv => lhs; whnf
      exact (hD _).2 hend
    have hkn : k < n := by
      have hlt : (k : Int) < (n : Int) := by rw [hn]; exact hlt
      omega
    obtain ⟨g1, o1, e1, cs, hDo, r1⟩ := hrow k (by omega)
    cases e1
    have hin : (k : Int) < (n : Int) := by omega
    rw [hn] at hin
    have i0 : (0 : Int) ≤ (k : Int) := by omega
    obtain ⟨dk, hdk⟩ : ∃ dk, dk = ds[k]'(by omega) := ⟨_, rfl⟩
    rw [← hdk] at hDo
    clear hdk
    have hDo0 := hDo
    obtain ⟨op, ⟨conn, sort, p⟩, d, last, ⟨np, cz, mz, pz, ct, mt, ve, cv, ow, le, ki⟩, there⟩ := dk
    obtain ⟨dc, na, nl, nk, hcs, hDd, hpl⟩ := hDo
    obtain ⟨a7, l7, k7, a14, l14, k14, a15, l15, k15, hdc⟩ := hDd.form
    subst hdc
    subst hcs
    have r2 := rd_sub hB.sub r1
    have r11 : Ak.rd _ (_ + k * 34 + 11) 1 = some [.slice a7 l7 k7] := rd_at (N := 34) (i := 11) (m := 1) r2 (by omega)
    have r18 : Ak.rd _ (_ + k * 34 + 18) 1 = some [.slice a14 l14 k14] := rd_at (N := 34) (i := 18) (m := 1) r2 (by omega)
    have r19 : Ak.rd _ (_ + k * 34 + 19) 1 = some [.slice a15 l15 k15] := rd_at (N := 34) (i := 19) (m := 1) r2 (by omega)
    conv => lhs; whnf
    repeat (first | refine go_in ⟨i0, hin⟩ ?_ | refine go_rd r19 ?_ | refine go_rd r11 ?_ | refine go_rd r18 ?_
            conv => lhs; whnf)
    refine split_dec (fun _ => ?_) (fun _ => ?_)
    · conv => lhs; whnf
      repeat (first | refine go_D hD rfl ?_
              conv => lhs; whnf)
      refine (hD _).2 ⟨(), ⟨rfl, hHas.sub hB.sub⟩, fun v A3 hq => ?_⟩
      obtain ⟨s3, hv⟩ : Ak.Sub A3 ∧ v = .bool true := hq
      subst hv
      have hend : livesS.post ds [] A (.bool true) A3 := ⟨hB.sub.trans s3, rfl⟩
      conv => lhs; whnf
      exact (hD _).2 hend
    conv => lhs; whnf
    repeat (first | refine go_in ⟨i0, hin⟩ ?_ | refine go_rd r19 ?_ | refine go_rd r11 ?_ | refine go_rd r18 ?_ | refine go_rd r2 ?_ | refine go_D hD rfl ?_
            conv => lhs; whnf)
    refine split_dec (fun _ => ?_) (fun _ => ?_)
    · conv => lhs; whnf
      repeat (first | refine go_D hD rfl ?_
              conv => lhs; whnf)
      refine (hD _).2 ⟨(), ⟨rfl, hHas.sub hB.sub⟩, fun v A3 hq => ?_⟩
      obtain ⟨s3, hv⟩ : Ak.Sub A3 ∧ v = .bool true := hq
      subst hv
      have hend : livesS.post ds [] A (.bool true) A3 := ⟨hB.sub.trans s3, rfl⟩
      conv => lhs; whnf
      exact (hD _).2 hend
    conv => lhs; whnf
    repeat (first | refine go_in ⟨i0, hin⟩ ?_ | refine go_rd r19 ?_ | refine go_rd r11 ?_ | refine go_rd r18 ?_ | refine go_rd r2 ?_ | refine go_D hD rfl ?_
            conv => lhs; whnf)
    refine split_dec (fun _ => ?_) (fun _ => ?_)
    · conv => lhs; whnf
      repeat (first | refine go_D hD rfl ?_
              conv => lhs; whnf)
      refine (hD _).2 ⟨(), ⟨rfl, hHas.sub hB.sub⟩, fun v A3 hq => ?_⟩
      obtain ⟨s3, hv⟩ : Ak.Sub A3 ∧ v = .bool true := hq
      subst hv
      have hend : livesS.post ds [] A (.bool true) A3 := ⟨hB.sub.trans s3, rfl⟩
      conv => lhs; whnf
      exact (hD _).2 hend
    conv => lhs; whnf
    repeat (first | refine go_in ⟨i0, hin⟩ ?_ | refine go_rd r19 ?_ | refine go_rd r11 ?_ | refine go_rd r18 ?_ | refine go_rd r2 ?_ | refine go_D hD rfl ?_
            conv => lhs; whnf)
    refine (hD _).2 ⟨⟨A, t, m, ws, S, r, l, ⟨op, ⟨conn, sort, p⟩, d, last, ⟨np, cz, mz, pz, ct, mt, ve, cv, ow, le, ki⟩, there⟩⟩, ⟨_, rfl, hB, hDo0, hHas, by show l.length < 1000; omega⟩, fun v A3 hq => ?_⟩
    obtain ⟨hv, ws', S', l', hB3, hl3⟩ : v = .bool true ∧ ∃ ws' S' l', BoAt A A3 t m ws' S' r l' ∧ l'.length ≤ l.length + 1 := hq
    subst hv
    conv => lhs; whnf
    repeat (first | refine go_D hD rfl ?_
            conv => lhs; whnf)
    refine (hD _).2 ⟨⟨t, m, ws'⟩, ⟨rfl, hB3.tw⟩, fun v A4 hq => ?_⟩
    obtain ⟨h4, hv⟩ : A4 = A3 ∧ v = .int .i64 ((ws' : List WatchD).length : Nat) := hq
    subst h4; subst hv
    conv => lhs; whnf
    repeat (first | refine go_D hD rfl ?_
            conv => lhs; whnf)
    refine (hD _).2 ⟨(S', r, l'), ⟨rfl, hB3.rt⟩, fun v A5 hq => ?_⟩
    obtain ⟨h5, hv⟩ : A5 = A4 ∧ v = .int .i64 ((l' : List WatchD).length : Nat) := hq
    rw [← hB3.rel.len] at hv
    subst h5; subst hv
    conv => lhs; whnf
    repeat (first | refine go_D hD rfl ?_ | refine split_nd (fun _ => ?_) (fun h => absurd rfl h)
            conv => lhs; whnf)
    exact (hD _).2 ⟨(⟨k + 1, A5, ws', S', l'⟩ : LvG), ⟨⟨hkn, hB3, by show l'.length ≤ k + 1; omega⟩, ⟨inc_slot (k := k) (by omega), trivial⟩, trivial, rfl⟩, by show n - (k + 1) < n - k; omega, ⟨same1 rfl rfl, same1 rfl rfl, same1 rfl rfl, trivial⟩, trivial⟩

end
end Go.Proofs.YtienbbhelhhfjaaGreatDoor

namespace Go.Proofs.YtienbbhelhhfjaaGreatDoor
open Go.Sx Go.RowKit
noncomputable section
open Classical

structure NuA where
  i : Nat
  A : Arena

def nuI (A0 : Arena) : LInv := { γ := NuA, G := fun g => g.i ≤ 8 ∧ A0.Sub g.A, keepS := [1], keepB := [], sl := fun g => [(2, .v (.int .i64 g.i))], bl := fun _ => [], ar := fun g => g.A, mu := fun g => 8 - g.i }

structure NuK where
  k : Nat
  A : Arena
  S : Arena
  l : List WatchD

def nuV : List Value := [.string pRoot, .string pA, .string pAB, .string pABC, .string pABB, .string pNoA, .string pNo]

def nuK (A0 : Arena) (t m r gp : Nat) : LInv := { γ := NuK, G := fun g => g.k ≤ 7 ∧ BoAt A0 g.A t m (addsL (g.k * 5)) g.S r g.l ∧ CellsAt g.A gp nuV, keepS := [1, 2, 3, 4, 5], keepB := [], sl := fun g => [(6, .v (.int .i64 g.k))], bl := fun _ => [], ar := fun g => g.A, mu := fun g => 7 - g.k }

def nuS (A0 : Arena) (t m r gp k : Nat) : LInv := { γ := NuK, G := fun g => g.k ≤ 5 ∧ BoAt A0 g.A t m (addsL (k * 5 + g.k)) g.S r g.l ∧ CellsAt g.A gp nuV, keepS := [1, 2, 3, 4, 5, 6], keepB := [], sl := fun g => [(7, .v (.int .i64 g.k))], bl := fun _ => [], ar := fun g => g.A, mu := fun g => 5 - g.k }

def numbersS : FSpec := ⟨Unit, fun _ vs A => vs = [] ∧ HasA A, fun _ _ A v A' => A.Sub A' ∧ v = .bool true⟩

def mR : List (List Value) := [(⟨0, 3, 0, 0, 0, 0, pA, [], 0, 0, 0, 0, 0, 0, []⟩ : DeedH).cells nilV nilV nilV, (⟨0, 2, 0, 0, 0, 0, pA, [], 0, 0, 0, 0, 0, 0, []⟩ : DeedH).cells nilV nilV nilV]
def cl1R : List (List Value) := [(⟨0, 2, 0, 0, 0, 0, pAB, [], 0, 0, 0, 0, 0, 0, []⟩ : DeedH).cells nilV nilV nilV, (⟨0, 2, 0, 0, 0, 0, pA, [], 0, 0, 0, 0, 0, 0, []⟩ : DeedH).cells nilV nilV nilV]

def nuT (B : Arena) : LInv := { γ := NuA, G := fun g => g.i ≤ 5 ∧ B.Sub g.A, keepS := [10], keepB := [5], sl := fun g => [(11, .v (.int .i64 g.i))], bl := fun _ => [], ar := fun g => g.A, mu := fun g => 5 - g.i }

def nuU (B : Arena) : LInv := { γ := NuA, G := fun g => g.i ≤ 9 ∧ B.Sub g.A, keepS := [10, 11], keepB := [5], sl := fun g => [(12, .v (.int .i64 g.i))], bl := fun _ => [], ar := fun g => g.A, mu := fun g => 9 - g.i }

def xD (s l : Int) (th : Bool) : DoD := ⟨4, ⟨1, s, pA⟩, d00, l, nd5, th⟩
def nd0 : NdD := ⟨pNo, 0, 0, 0, 0, 0, 0, 0, 0, 0, 0⟩
def zD : DoD := ⟨5, ⟨1, 0, pNo⟩, d00, 0, nd0, false⟩

theorem xD_ok (s l : Int) (th : Bool) : (xD s l th).deed = d00 ∧ (xD s l th).w.path.data.toList.length ≤ 100 := ⟨rfl, pA_le⟩

set_option maxRecDepth 100000 in
set_option maxHeartbeats 0 in
theorem numbers_ok : FOk Tryz.prog 3 numbersS := by
  refine fok_v mixed fun _ vs A hp => ?_
  obtain ⟨rfl, hHas⟩ : vs = [] ∧ HasA A := hp
  have hC : CTSound Tryz.prog (lookC [specE 17 awS, specE 16 livesS, specE 5 bellNewS, specE 6 rNewS, specE 7 bellAddS, specE 8 rAddS, specE 9 bellCountS, specE 13 rCountS, specE 11 bellRingS, specE 12 rRingS, specE 10 ringsEqS, specE 14 isEqS] noC) := lookC_sound (noC_sound _) (fun x hx => by
    simp only [List.mem_cons, List.not_mem_nil, or_false] at hx
    rcases hx with rfl | rfl | rfl | rfl | rfl | rfl | rfl | rfl | rfl | rfl | rfl | rfl
    · exact specE_ok aw_ok
    · exact specE_ok lives_ok
    · exact specE_ok bellNew_ok
    · exact specE_ok rNew_ok
    · exact specE_ok bellAdd_ok
    · exact specE_ok rAdd_ok
    · exact specE_ok bellCount_ok
    · exact specE_ok rCount_ok
    · exact specE_ok bellRing_ok
    · exact specE_ok rRing_ok
    · exact specE_ok ringsEq_ok
    · exact specE_ok isEq_ok)
  have hin1 := tabO_sound mixed hC (noL_sound _) 60 [(3, 4)]
  have hin2 := tabO_sound mixed hC hin1 60 [(3, 2), (3, 8)]
  refine ⟨_, tabO Tryz.prog _ (tabO Tryz.prog _ (tabO Tryz.prog _ noL 60 [(3, 4)]) 60 [(3, 2), (3, 8)]) 60 [(3, 0), (3, 6)], 60, hC, tabO_sound mixed hC hin2 _ _, fun blk os' out tape D hD => ?_⟩
  conv => lhs; whnf
  refine (hD _).2 fun gp A1 hN1 => ?_
  have hN1 : A.New A1 gp cl1R.flatten.toArray 31 := hN1
  have hP : Sl A1 16 2 (.slice (some ⟨gp, 0, none⟩) 2 2) cl1R.flatten := Sl.row (Nat.le_refl _) (hN1.rd (o := 0) (n := 2 * 16) (by show 0 + 2 * 16 ≤ 32; omega))
  conv => lhs; whnf
  refine (hD _).2 fun gd A2 hN2 => ?_
  have hN2 : A1.New A2 gd (rows8 (.slice (some ⟨gp, 0, none⟩) 2 2)).flatten.toArray 31 := hN2
  have hR8 : DeedsR A2 ds8 (rows8 (.slice (some ⟨gp, 0, none⟩) 2 2)) := ds8_rows (hP.sub hN2.sub)
  have hrd8 : A2.rd gd 0 (8 * 16) = some (rows8 (.slice (some ⟨gp, 0, none⟩) 2 2)).flatten := hN2.rd (o := 0) (n := 8 * 16) (by show 0 + 8 * 16 ≤ 128; omega)
  have s2 := hN1.sub.trans hN2.sub
  have hHas2 := hHas.sub s2
  conv => lhs; whnf
  refine (hD _).2 ⟨nuI A2, ⟨(⟨0, A2⟩ : NuA), ⟨Nat.zero_le _, Arena.Sub.refl _⟩, ⟨rfl, trivial⟩, trivial, rfl⟩, fun (s : NuA) hG => ⟨⟨trivial, trivial⟩, trivial, ?_⟩⟩
  obtain ⟨i, Ai⟩ := s
  obtain ⟨hi, hsi⟩ : i ≤ 8 ∧ A2.Sub Ai := hG
  conv => lhs; whnf
  refine split_dec (fun hlt => ?_) (fun hlt => ?_)
  · have hlt : (i : Int) < 8 := hlt
    have hil : i < 8 := by omega
    have i0 : (0 : Int) ≤ (i : Int) ∧ (i : Int) < 8 := by omega
    obtain ⟨ck, hck, hdk⟩ := deed_at hrd8 hR8 i hil rfl
    obtain ⟨dd, hdd⟩ : ∃ dd, dd = ds8[i]'hil := ⟨_, rfl⟩
    rw [← hdd] at hdk
    obtain ⟨a7, l7, k7, a14, l14, k14, a15, l15, k15, hcf⟩ := hdk.form
    subst hcf
    conv => lhs; whnf
    refine (hD _).2 ⟨(), rfl, fun v A3 hq => ?_⟩
    obtain ⟨s3, t, m, hv, hT3, htn, hmn⟩ : Ai.Sub A3 ∧ ∃ t m, v = .pointer (some ⟨t, 0, none⟩) ∧ TowerAt A3 t m [] ∧ Ai.blk t = none ∧ Ai.blk m = none := hq
    subst hv
    conv => lhs; whnf
    refine (hD _).2 ⟨(), rfl, fun v A4 hq => ?_⟩
    obtain ⟨s4, r, hv, hR4, hrn4⟩ : A3.Sub A4 ∧ ∃ r, v = .pointer (some ⟨r, 0, none⟩) ∧ RtAt A4 Arena.void r [] ∧ A3.blk r = none := hq
    subst hv
    have hrn : Ai.blk r = none := by
      cases h : Ai.blk r with
      | none => rfl
      | some o => rw [s3 r o h] at hrn4; cases hrn4
    have hB4 : BoAt Ai A4 t m [] Arena.void r [] := by
      obtain ⟨ot, hot⟩ := hT3.top.dom
      obtain ⟨em, cm, hom, _⟩ := hT3.map
      exact ⟨s3.trans s4, ⟨hT3.top.sub fun o ho => s4 _ _ ho, hT3.map.sub fun o ho => s4 _ _ ho, hT3.nd, hT3.ne⟩, hR4, RelW.nil, htn, hmn, hrn, rfl, fun e => (by rw [e, hot] at hrn4; cases hrn4), fun e => (by rw [e, hom] at hrn4; cases hrn4)⟩
    conv => lhs; whnf
    refine (hD _).2 fun gq A5 hN5 => ?_
    have hN5 : A4.New A5 gq nuV.toArray 9 := hN5
    have hB5 := hB4.more hN5.sub
    have hV5 : CellsAt A5 gq nuV := CellsAt.new hN5
    conv => lhs; whnf
    refine (hD _).2 ⟨nuK Ai t m r gq, ⟨(⟨0, A5, Arena.void, []⟩ : NuK), ⟨Nat.zero_le _, hB5, hV5⟩, ⟨rfl, trivial⟩, trivial, rfl⟩, fun (s : NuK) hG => ⟨⟨trivial, trivial⟩, trivial, ?_⟩⟩
    obtain ⟨k, Ak, S, l⟩ := s
    obtain ⟨hk, hBk, hVk⟩ : k ≤ 7 ∧ BoAt Ai Ak t m (addsL (k * 5)) S r l ∧ CellsAt Ak gq nuV := hG
    conv => lhs; whnf
    refine split_dec (fun hlt => ?_) (fun hlt => ?_)
    · have hlt : (k : Int) < 7 := hlt
      have hkl : k < 7 := by omega
      have k0 : (0 : Int) ≤ (k : Int) ∧ (k : Int) < 7 := by omega
      have hpk : (nuV.drop k).take 1 = [.string (pth k)] := by
        have h7 : k = 0 ∨ k = 1 ∨ k = 2 ∨ k = 3 ∨ k = 4 ∨ k = 5 ∨ k = 6 := by omega
        rcases h7 with rfl | rfl | rfl | rfl | rfl | rfl | rfl <;> rfl
      have hpl : (pth k).data.toList.length ≤ 100 := by
        have h7 : k = 0 ∨ k = 1 ∨ k = 2 ∨ k = 3 ∨ k = 4 ∨ k = 5 ∨ k = 6 := by omega
        rcases h7 with rfl | rfl | rfl | rfl | rfl | rfl | rfl <;> decide
      conv => lhs; whnf
      refine (hD _).2 ⟨nuS Ai t m r gq k, ⟨(⟨0, Ak, S, l⟩ : NuK), ⟨Nat.zero_le _, hBk, hVk⟩, ⟨rfl, trivial⟩, trivial, rfl⟩, fun (s : NuK) hG => ⟨⟨trivial, trivial⟩, trivial, ?_⟩⟩
      clear hBk hVk
      obtain ⟨q, Aq, S, l⟩ := s
      obtain ⟨hq5, hBq, hVq⟩ : q ≤ 5 ∧ BoAt Ai Aq t m (addsL (k * 5 + q)) S r l ∧ CellsAt Aq gq nuV := hG
      conv => lhs; whnf
      refine split_dec (fun hlt => ?_) (fun hlt => ?_)
      · have hlt : (q : Int) < 5 := hlt
        have hql : q < 5 := by omega
        have rq : Aq.rd gq (0 + k * 1) 1 = some [.string (pth k)] := by
          rw [← hpk, Nat.zero_add, Nat.mul_one]
          exact hVq.rd (o := k) (n := 1) (by show k + 1 ≤ 7; omega)
        conv => lhs; whnf
        repeat (first | refine go_in k0 ?_ | refine go_rd rq ?_ | refine go_D hD rfl ?_
                conv => lhs; whnf)
        have hcn : IntKind.i64.wrap (0 - (k : Int)) = -(k : Int) := by
          rw [wrapI (by omega) (by omega)]
          omega
        have hsn : IntKind.u8.wrap (q : Int) = (q : Int) := by
          have h5 : q = 0 ∨ q = 1 ∨ q = 2 ∨ q = 3 ∨ q = 4 := by omega
          rcases h5 with rfl | rfl | rfl | rfl | rfl <;> rfl
        have hw : (⟨IntKind.i64.wrap (0 - (k : Int)), IntKind.u8.wrap (q : Int), pth k⟩ : WatchD) = wAt k q := by
          rw [hcn, hsn]
          rfl
        refine (hD _).2 ⟨((⟨t, m, addsL (k * 5 + q)⟩ : TwG), (⟨IntKind.i64.wrap (0 - (k : Int)), IntKind.u8.wrap (q : Int), pth k⟩ : WatchD)), ⟨rfl, hBq.tw⟩, fun v A6 hq => ?_⟩
        have hq : TwTo Aq ⟨t, m, addsL (k * 5 + q)⟩ (if mayD (⟨IntKind.i64.wrap (0 - (k : Int)), IntKind.u8.wrap (q : Int), pth k⟩ : WatchD).sort (⟨IntKind.i64.wrap (0 - (k : Int)), IntKind.u8.wrap (q : Int), pth k⟩ : WatchD).path = true then wPut (⟨IntKind.i64.wrap (0 - (k : Int)), IntKind.u8.wrap (q : Int), pth k⟩ : WatchD) (addsL (k * 5 + q)) else addsL (k * 5 + q)) A6 := hq
        rw [hw, ← adds_succ hql] at hq
        have hrel : RelW (addsL (k * 5 + (q + 1))) (if mayD (wAt k q).sort (wAt k q).path = true then addW (wAt k q) l else l) := by
          rw [adds_succ hql]
          by_cases hm : mayD (wAt k q).sort (wAt k q).path = true
          · rw [if_pos hm, if_pos hm]
            exact hBq.rel.add (mayD_sort hm)
          · rw [if_neg hm, if_neg hm]
            exact hBq.rel
        have hll : l.length ≤ 40 := by
          rw [← hBq.rel.len]
          exact Nat.le_trans (List.length_filter_le _ _) (by rw [List.length_map, List.length_range]; omega)
        obtain ⟨em, cm, hom, _⟩ := hBq.tw.map
        obtain ⟨orr, hor⟩ := hBq.rt.live
        have hgm : gq ≠ m := fun e => by
          obtain ⟨c, t', fz, h1, _⟩ := hVq
          rw [e, hom] at h1
          cases h1
        have hgr : gq ≠ r := fun e => by
          obtain ⟨vr, E, hcr, _⟩ := hBq.rt.row
          rw [e] at hVq
          obtain ⟨c, t', fz, h1, _, h3⟩ := hVq
          obtain ⟨c2, t2, fz2, h4, _, h6⟩ := hcr
          rw [h1] at h4
          injection h4 with h4
          injection h4 with h4
          rw [← h4, h3] at h6
          exact absurd (congrArg List.length h6) (by show ¬ (7 = 1); omega)
        have hV6 : CellsAt A6 gq nuV := hVq.sub fun o ho => hq.keep gq o hgm ho
        have rq6 : A6.rd gq (0 + k * 1) 1 = some [.string (pth k)] := by
          rw [← hpk, Nat.zero_add, Nat.mul_one]
          exact hV6.rd (o := k) (n := 1) (by show k + 1 ≤ 7; omega)
        have hst := (hBq.tstep hq hrel).2
        have hrt := hBq.rtAfter hq
        clear hq
        conv => lhs; whnf
        repeat (first | refine go_in k0 ?_ | refine go_rd rq6 ?_ | refine go_D hD rfl ?_
                conv => lhs; whnf)
        refine (hD _).2 ⟨(S, r, l, (⟨IntKind.i64.wrap (0 - (k : Int)), IntKind.u8.wrap (q : Int), pth k⟩ : WatchD)), ⟨rfl, hrt, by show (pth k).data.toList.length ≤ _; omega, by show l.length < 1000000; omega⟩, fun v A7 hq2 => ?_⟩
        have hq2 : RtTo A6 S r (if mayD (⟨IntKind.i64.wrap (0 - (k : Int)), IntKind.u8.wrap (q : Int), pth k⟩ : WatchD).sort (⟨IntKind.i64.wrap (0 - (k : Int)), IntKind.u8.wrap (q : Int), pth k⟩ : WatchD).path = true then addW (⟨IntKind.i64.wrap (0 - (k : Int)), IntKind.u8.wrap (q : Int), pth k⟩ : WatchD) l else l) A7 := hq2
        rw [hw] at hq2
        obtain ⟨S', hB7⟩ := hst A7 hq2
        have hV7 : CellsAt A7 gq nuV := hV6.sub fun o ho => hq2.keep gq o hgr ho
        conv => lhs; whnf
        repeat (first | refine go_D hD rfl ?_
                conv => lhs; whnf)
        exact (hD _).2 ⟨(⟨q + 1, A7, S', (if mayD (wAt k q).sort (wAt k q).path = true then addW (wAt k q) l else l)⟩ : NuK), ⟨⟨hql, hB7, hV7⟩, ⟨inc_slot (k := q) (by omega), trivial⟩, trivial, rfl⟩, by show 5 - (q + 1) < 5 - q; omega, ⟨same1 rfl rfl, same1 rfl rfl, same1 rfl rfl, same1 rfl rfl, same1 rfl rfl, same1 rfl rfl, trivial⟩, trivial⟩
      · have hq : q = 5 := by
          have hlt : ¬ ((q : Int) < 5) := hlt
          omega
        subst hq
        have hBq : BoAt Ai Aq t m (addsL ((k + 1) * 5)) S r l := by
          rw [show (k + 1) * 5 = k * 5 + 5 by omega]
          exact hBq
        conv => lhs; whnf
        exact (hD _).2 ⟨(⟨k + 1, Aq, S, l⟩ : NuK), ⟨⟨hkl, hBq, hVq⟩, ⟨inc_slot (k := k) (by omega), trivial⟩, trivial, rfl⟩, by show 7 - (k + 1) < 7 - k; omega, ⟨same1 rfl rfl, same1 rfl rfl, same1 rfl rfl, same1 rfl rfl, same1 rfl rfl, trivial⟩, trivial⟩
    · have hk7 : k = 7 := by
        have hlt : ¬ ((k : Int) < 7) := hlt
        omega
      have hwl : (addsL (k * 5)).length = 15 := by
        rw [hk7]
        exact adds_15
      generalize addsL (k * 5) = ws at hBk hwl
      conv => lhs; whnf
      refine (hD _).2 ⟨(⟨t, m, ws⟩ : TwG), ⟨rfl, hBk.tw⟩, fun v A6 hq => ?_⟩
      obtain ⟨h6, hv⟩ : A6 = Ak ∧ v = .int .i64 ((ws : List WatchD).length : Nat) := hq
      rw [hwl] at hv
      subst h6; subst hv
      have hll := hBk.rel.len
      have r2i := rd_sub hsi hck
      have r2 := rd_sub hBk.sub r2i
      have hDA : DeedR Ai dd _ := DeedR.sub hsi _ _ hdk
      have hHas6 := hHas2.sub (hsi.trans hBk.sub)
      conv => lhs; whnf
      repeat (first | refine go_in i0 ?_ | refine go_rd r2 ?_ | refine go_D hD rfl ?_
              conv => lhs; whnf)
      refine (hD _).2 ⟨((⟨t, m, ws⟩ : TwG), dd, Ai), ⟨_, rfl, hBk.tw, hBk.rel.ok, by show ws.length ≤ 1000000; omega, hDA, hBk.sub, hBk.m0, hHas6⟩, fun v A7 hq => ?_⟩
      obtain ⟨hT7, hG7⟩ : TwTo A6 ⟨t, m, ws⟩ (ringsW dd ws).2 A7 ∧ GrowR A6 A7 5 51 (ringsW dd ws).1.length v ((ringsW dd ws).1.flatMap RingD.cells) := hq
      obtain ⟨hr1, hr2⟩ := hBk.rel.ring dd
      clear hdd hck
      have hG7 : GrowR A6 A7 5 51 (rRingsW dd l).1.length v ((rRingsW dd l).1.flatMap RingD.cells) := by
        rw [← hr1]
        exact hG7
      obtain ⟨q7, cp7, hv7, hq7, -⟩ := hG7.formN
      subst hv7
      have hD7 : Ai.Sub A7 := fun b o hb => hT7.keep b o (fun e => by
        have e : b = m := e
        rw [e, hBk.m0] at hb; cases hb) (hBk.sub b o hb)
      have hst := (hBk.tstep hT7 hr2).2
      have r2' := rd_sub hD7 r2i
      conv => lhs; whnf
      repeat (first | refine go_in i0 ?_ | refine go_rd r2' ?_ | refine go_D hD rfl ?_
              conv => lhs; whnf)
      refine (hD _).2 ⟨((S, r, l), dd, Ai), ⟨_, rfl, hBk.rtAfter hT7, hDA, hD7, hBk.r0⟩, fun v A8 hq => ?_⟩
      obtain ⟨hT8, hG8⟩ : RtTo A7 S r (rRingsW dd l).2 A8 ∧ GrowR A7 A8 5 75 (rRingsW dd l).1.length v ((rRingsW dd l).1.flatMap RingD.cells) := hq
      obtain ⟨q8, cp8, hv8, hq8, -⟩ := hG8.formN
      subst hv8
      obtain ⟨S', hB8⟩ := hst A8 hT8
      obtain ⟨orr, hor⟩ := hBk.rt.live
      have hG78 := grow_stay hG7 fun b o h1 h2 => hT8.keep b o (fun e => by
        rw [e, hor] at h1; cases h1) h2
      have hnr : (rRingsW dd l).1.length ≤ 1000000000 := by
        have h1 := rRings_tot dd l
        omega
      have hs7 := hG78.sl
      have hs8 := hG8.sl
      clear hG7 hG8 hG78 hT7 hT8
      conv => lhs; whnf
      repeat (first | refine go_D hD rfl ?_
              conv => lhs; whnf)
      refine (hD _).2 ⟨(rRingsW dd l).1, ⟨_, _, rfl, hs7, hs8, hnr⟩, fun v A9 hq => ?_⟩
      obtain ⟨h9, hv⟩ : A9 = A8 ∧ v = .bool true := hq
      subst h9; subst hv
      conv => lhs; whnf
      repeat (first | refine go_D hD rfl ?_
              conv => lhs; whnf)
      refine (hD _).2 ⟨(⟨t, m, (ringsW dd ws).2⟩ : TwG), ⟨rfl, hB8.tw⟩, fun v AA hq => ?_⟩
      obtain ⟨hA9, hv⟩ : AA = A9 ∧ v = .int .i64 ((ringsW dd ws).2.length : Nat) := hq
      subst hA9; subst hv
      conv => lhs; whnf
      repeat (first | refine go_D hD rfl ?_
              conv => lhs; whnf)
      refine (hD _).2 ⟨(S', r, (rRingsW dd l).2), ⟨rfl, hB8.rt⟩, fun v AB hq => ?_⟩
      obtain ⟨hB9, hv⟩ : AB = AA ∧ v = .int .i64 ((rRingsW dd l).2.length : Nat) := hq
      rw [← hB8.rel.len] at hv
      subst hB9; subst hv
      have hsub9 := hsi.trans hB8.sub
      conv => lhs; whnf
      repeat (first | refine go_D hD rfl ?_ | refine split_nd (fun _ => ?_) (fun h => absurd rfl h)
              conv => lhs; whnf)
      exact (hD _).2 ⟨(⟨i + 1, AB⟩ : NuA), ⟨⟨hil, hsub9⟩, ⟨inc_slot (k := i) (by omega), trivial⟩, trivial, rfl⟩, by show 8 - (i + 1) < 8 - i; omega, ⟨same1 rfl rfl, trivial⟩, trivial⟩
  clear hlt
  conv => lhs; whnf
  refine (hD _).2 ⟨(), rfl, fun v B1 hq => ?_⟩
  obtain ⟨sB1, t, m, hv, hT1, htn, hmn⟩ : Ai.Sub B1 ∧ ∃ t m, v = .pointer (some ⟨t, 0, none⟩) ∧ TowerAt B1 t m [] ∧ Ai.blk t = none ∧ Ai.blk m = none := hq
  subst hv
  conv => lhs; whnf
  refine (hD _).2 ⟨((⟨t, m, []⟩ : TwG), v1), ⟨rfl, hT1⟩, fun v B2 hq => ?_⟩
  have hq : TwTo B1 ⟨t, m, []⟩ (if mayD 1 pA = true then wPut v1 [] else []) B2 := hq
  rw [if_pos may_aa, vput1] at hq
  have hT2 := hq
  have sB2 := hT2.from sB1 hmn
  obtain ⟨em, cm, hom, _⟩ := hT2.tower.map
  conv => lhs; whnf
  refine (hD _).2 fun gm B3 hN3 => ?_
  have hN3 : B2.New B3 gm mR.flatten.toArray 31 := hN3
  have hC3 : CellsAt (B3.minus B2) gm mR.flatten := (CellsAt.new hN3).sub fun o ho => minus_mk hN3.none_ ho
  have hDm : DeedR (B3.minus B2) mDeed ((⟨3, 8, 0, 0, 0, 0, ⟨#[]⟩, [], 0, 0, 0, 0, 0, 0, []⟩ : DeedH).cells nilV nilV (.slice (some ⟨gm, 0, none⟩) 2 2)) := by
    unfold mDeed
    rw [DeedR]
    have hrd : (B3.minus B2).rd gm 0 (2 * 16) = some mR.flatten := hC3.rd (o := 0) (n := 2 * 16) (by show 0 + 2 * 16 ≤ 32; omega)
    exact ⟨_, _, _, mR, rfl, by decide, ⟨Sl.nil _ _, by simp⟩, ⟨Sl.nil _ _, by simp⟩, Sl.row (n := 2) (Nat.le_refl _) hrd, by decide, mParts_rows _⟩
  have hT3 : TowerAt B3 t m [v1] := ⟨hT2.tower.top.sub fun _ ho => hN3.sub _ _ ho, hT2.tower.map.sub fun _ ho => hN3.sub _ _ ho, hT2.tower.nd, hT2.tower.ne⟩
  have hok1 : WOk [v1] := fun w hw => by
    rw [List.mem_singleton] at hw
    subst hw
    decide
  have hHas3 := hHas2.sub (hsi.trans (sB2.trans hN3.sub))
  conv => lhs; whnf
  refine (hD _).2 ⟨((⟨t, m, [v1]⟩ : TwG), mDeed, B3.minus B2), ⟨_, rfl, hT3, hok1, by show (1 : Nat) ≤ 1000000; omega, hDm, minus_sub _ _, minus_none _ hom, hHas3⟩, fun v B4 hq => ?_⟩
  obtain ⟨hT4, hG4⟩ : TwTo B3 ⟨t, m, [v1]⟩ (ringsW mDeed [v1]).2 B4 ∧ GrowR B3 B4 5 51 (ringsW mDeed [v1]).1.length v ((ringsW mDeed [v1]).1.flatMap RingD.cells) := hq
  rw [rings_m] at hT4 hG4
  dsimp only at hT4 hG4
  have sB4 := hT4.from (sB2.trans hN3.sub) hmn
  obtain ⟨q4, cp4, hv4, hq4, -⟩ := hG4.formN
  subst hv4
  conv => lhs; whnf
  repeat (first | refine go_D hD rfl ?_
          conv => lhs; whnf)
  refine (hD _).2 fun gb B5 hN5 => ?_
  have hN5 : B4.New B5 gb #[.int .i64 1, .int .u8 3, .int .u8 1, .string pA, .int .i64 3] 51 := hN5
  have hG5 := (hG4.sub hN5.sub).sl
  have hw5 : Sl B5 5 1 (.slice (some ⟨gb, 0, none⟩) 1 1) (rM.flatMap RingD.cells) := Sl.row (Nat.le_refl _) (hN5.rd (o := 0) (n := 1 * 5) (by show 0 + 1 * 5 ≤ 5; omega))
  have hT5 : TowerAt B5 t m [] := ⟨hT4.tower.top.sub fun _ ho => hN5.sub _ _ ho, hT4.tower.map.sub fun _ ho => hN5.sub _ _ ho, hT4.tower.nd, hT4.tower.ne⟩
  have sB5 := sB4.trans hN5.sub
  clear hG4 hT4 hT3 hT2 hT1
  conv => lhs; whnf
  repeat (first | refine go_D hD rfl ?_
          conv => lhs; whnf)
  refine (hD _).2 ⟨rM, ⟨_, _, rfl, hG5, hw5, by show (1 : Nat) ≤ 1000000000; omega⟩, fun v B6 hq => ?_⟩
  obtain ⟨h6, hv⟩ : B6 = B5 ∧ v = .bool true := hq
  subst h6; subst hv
  conv => lhs; whnf
  repeat (first | refine go_D hD rfl ?_
          conv => lhs; whnf)
  refine (hD _).2 ⟨((⟨t, m, []⟩ : TwG), v2), ⟨rfl, hT5⟩, fun v B7 hq => ?_⟩
  have hq : TwTo B6 ⟨t, m, []⟩ (if mayD 1 pA = true then wPut v2 [] else []) B7 := hq
  rw [if_pos may_aa, vput2] at hq
  have hT7 := hq
  conv => lhs; whnf
  repeat (first | refine go_D hD rfl ?_
          conv => lhs; whnf)
  refine (hD _).2 ⟨((⟨t, m, [v2]⟩ : TwG), v3), ⟨rfl, hT7.tower⟩, fun v B8 hq => ?_⟩
  have hq : TwTo B7 ⟨t, m, [v2]⟩ (if mayD 3 pA = true then wPut v3 [v2] else [v2]) B8 := hq
  rw [if_pos may_a3, vput3] at hq
  have hT8 := hT7.then hq
  conv => lhs; whnf
  repeat (first | refine go_D hD rfl ?_
          conv => lhs; whnf)
  refine (hD _).2 ⟨((⟨t, m, [v2, v3]⟩ : TwG), v4), ⟨rfl, hT8.tower⟩, fun v B9 hq => ?_⟩
  have hq : TwTo B8 ⟨t, m, [v2, v3]⟩ (if mayD 2 pA = true then wPut v4 [v2, v3] else [v2, v3]) B9 := hq
  rw [if_pos may_a2, vput4] at hq
  have hT9 := hT8.then hq
  have sB9 := hT9.from sB5 hmn
  have hok3 : WOk [v2, v3, v4] := fun w hw => by
    simp only [List.mem_cons, List.not_mem_nil, or_false] at hw
    rcases hw with rfl | rfl | rfl <;> decide
  have hDd : DeedR Arena.void dDeed ((⟨4, 2, 0, 0, 0, 0, pA, [], 0, 0, 0, 0, 0, 0, []⟩ : DeedH).cells nilV nilV nilV) := deed_nil _ _ rfl rfl pA_le
  have hHas9 := hHas2.sub (hsi.trans sB9)
  conv => lhs; whnf
  repeat (first | refine go_D hD rfl ?_
          conv => lhs; whnf)
  refine (hD _).2 ⟨((⟨t, m, [v2, v3, v4]⟩ : TwG), dDeed, Arena.void), ⟨_, rfl, hT9.tower, hok3, by show (3 : Nat) ≤ 1000000; omega, hDd, fun _ _ h => (by cases h), rfl, hHas9⟩, fun v BA hq => ?_⟩
  obtain ⟨hTA, hGA⟩ : TwTo B9 ⟨t, m, [v2, v3, v4]⟩ (ringsW dDeed [v2, v3, v4]).2 BA ∧ GrowR B9 BA 5 51 (ringsW dDeed [v2, v3, v4]).1.length v ((ringsW dDeed [v2, v3, v4]).1.flatMap RingD.cells) := hq
  rw [rings_d] at hTA hGA
  dsimp only at hTA hGA
  have sBA := hTA.from sB9 hmn
  obtain ⟨qA, cpA, hvA, hqA, -⟩ := hGA.formN
  subst hvA
  conv => lhs; whnf
  repeat (first | refine go_D hD rfl ?_
          conv => lhs; whnf)
  refine (hD _).2 fun gc BB hNB => ?_
  have hNB : BA.New BB gc #[.int .i64 1, .int .u8 2, .int .u8 2, .string pA, .int .i64 4, .int .i64 1, .int .u8 2, .int .u8 3, .string pA, .int .i64 4, .int .i64 2, .int .u8 2, .int .u8 1, .string pA, .int .i64 4] 51 := hNB
  have hGB := (hGA.sub hNB.sub).sl
  have hwB : Sl BB 5 3 (.slice (some ⟨gc, 0, none⟩) 3 3) (rD.flatMap RingD.cells) := Sl.row (Nat.le_refl _) (hNB.rd (o := 0) (n := 3 * 5) (by show 0 + 3 * 5 ≤ 15; omega))
  have sBB := sBA.trans hNB.sub
  clear hGA hTA hT9 hT8 hT7 hT5
  conv => lhs; whnf
  repeat (first | refine go_D hD rfl ?_
          conv => lhs; whnf)
  refine (hD _).2 ⟨rD, ⟨_, _, rfl, hGB, hwB, by show (3 : Nat) ≤ 1000000000; omega⟩, fun v BC hq => ?_⟩
  obtain ⟨hC9, hv⟩ : BC = BB ∧ v = .bool true := hq
  subst hC9; subst hv
  conv => lhs; whnf
  repeat (first | refine go_D hD rfl ?_
          conv => lhs; whnf)
  have sAC : A.Sub BC := s2.trans (hsi.trans sBB)
  clear hGB hwB
  refine (hD _).2 ⟨nuT BC, ⟨(⟨0, BC⟩ : NuA), ⟨Nat.zero_le _, Arena.Sub.refl _⟩, ⟨rfl, trivial⟩, trivial, rfl⟩, fun (s : NuA) hG => ⟨⟨trivial, trivial⟩, trivial, ?_⟩⟩
  obtain ⟨u, Au⟩ := s
  obtain ⟨hu, hsu⟩ : u ≤ 5 ∧ BC.Sub Au := hG
  conv => lhs; whnf
  refine split_dec (fun hlt => ?_) (fun hlt => ?_)
  · have hlt : (u : Int) < 5 := hlt
    have hul : u < 5 := by omega
    conv => lhs; whnf
    refine (hD _).2 ⟨nuU BC, ⟨(⟨3, Au⟩ : NuA), ⟨by show 3 ≤ 9; omega, hsu⟩, ⟨rfl, trivial⟩, trivial, rfl⟩, fun (s : NuA) hG => ⟨⟨trivial, trivial⟩, trivial, ?_⟩⟩
    clear hsu
    obtain ⟨j, Aj⟩ := s
    obtain ⟨hj, hsj⟩ : j ≤ 9 ∧ BC.Sub Aj := hG
    have hHasJ := hHas.sub (sAC.trans hsj)
    conv => lhs; whnf
    refine split_dec (fun hlt => ?_) (fun hlt => ?_)
    · have hlt : (j : Int) < 9 := hlt
      have hjl : j < 9 := by omega
      conv => lhs; whnf
      repeat (first | refine go_D hD rfl ?_
              conv => lhs; whnf)
      refine (hD _).2 fun g1 A1 hN1 => ?_
      have hN1 : Aj.New A1 g1 (([xD (IntKind.u8.wrap u) j false, xD (IntKind.u8.wrap u) j true, xD (IntKind.u8.wrap u) j false, zD].map doC).flatten.toArray) 58 := hN1
      have hS1 : DosS A1 (.slice (some ⟨g1, 0, none⟩) 4 4) [xD (IntKind.u8.wrap u) j false, xD (IntKind.u8.wrap u) j true, xD (IntKind.u8.wrap u) j false, zD] := dos_c rfl (hN1.rd (o := 0) (n := 4 * 34) (by show 0 + 4 * 34 ≤ 136; omega)) (fun d hd => by
        simp only [List.mem_cons, List.not_mem_nil, or_false] at hd
        rcases hd with rfl | rfl | rfl | rfl
        · exact xD_ok _ _ _
        · exact xD_ok _ _ _
        · exact xD_ok _ _ _
        · exact ⟨rfl, pNo_le⟩) (by omega)
      conv => lhs; whnf
      repeat (first | refine go_D hD rfl ?_
              conv => lhs; whnf)
      refine (hD _).2 ⟨[xD (IntKind.u8.wrap u) j false, xD (IntKind.u8.wrap u) j true, xD (IntKind.u8.wrap u) j false, zD], ⟨_, rfl, hS1, hHasJ.sub hN1.sub⟩, fun v A2 hq => ?_⟩
      obtain ⟨s2', hv⟩ : A1.Sub A2 ∧ v = .bool true := hq
      subst hv
      have hs2 := hsj.trans (hN1.sub.trans s2')
      clear hN1 hS1
      conv => lhs; whnf
      repeat (first | refine go_D hD rfl ?_
              conv => lhs; whnf)
      refine (hD _).2 fun g3 A3 hN3 => ?_
      have hN3 : A2.New A3 g3 (([xD (IntKind.u8.wrap u) j true, xD (IntKind.u8.wrap u) j true, xD (IntKind.u8.wrap u) j false].map doC).flatten.toArray) 58 := hN3
      have hS3 : DosS A3 (.slice (some ⟨g3, 0, none⟩) 3 3) [xD (IntKind.u8.wrap u) j true, xD (IntKind.u8.wrap u) j true, xD (IntKind.u8.wrap u) j false] := dos_c rfl (hN3.rd (o := 0) (n := 3 * 34) (by show 0 + 3 * 34 ≤ 102; omega)) (fun d hd => by
        simp only [List.mem_cons, List.not_mem_nil, or_false] at hd
        rcases hd with rfl | rfl | rfl
        · exact xD_ok _ _ _
        · exact xD_ok _ _ _
        · exact xD_ok _ _ _) (by omega)
      have hHas3 := hHas.sub (sAC.trans (hs2.trans hN3.sub))
      conv => lhs; whnf
      repeat (first | refine go_D hD rfl ?_
              conv => lhs; whnf)
      refine (hD _).2 ⟨[xD (IntKind.u8.wrap u) j true, xD (IntKind.u8.wrap u) j true, xD (IntKind.u8.wrap u) j false], ⟨_, rfl, hS3, hHas3⟩, fun v A4 hq => ?_⟩
      obtain ⟨s4, hv⟩ : A3.Sub A4 ∧ v = .bool true := hq
      subst hv
      have hs4 := hs2.trans (hN3.sub.trans s4)
      clear hN3 hS3
      conv => lhs; whnf
      repeat (first | refine go_D hD rfl ?_
              conv => lhs; whnf)
      exact (hD _).2 ⟨(⟨j + 1, A4⟩ : NuA), ⟨⟨hjl, hs4⟩, ⟨inc_slot (k := j) (by omega), trivial⟩, trivial, rfl⟩, by show 9 - (j + 1) < 9 - j; omega, ⟨same1 rfl rfl, same1 rfl rfl, trivial⟩, ⟨same1 rfl rfl, trivial⟩⟩
    · clear hlt
      conv => lhs; whnf
      exact (hD _).2 ⟨(⟨u + 1, Aj⟩ : NuA), ⟨⟨hul, hsj⟩, ⟨inc_slot (k := u) (by omega), trivial⟩, trivial, rfl⟩, by show 5 - (u + 1) < 5 - u; omega, ⟨same1 rfl rfl, trivial⟩, ⟨same1 rfl rfl, trivial⟩⟩
  clear hlt
  conv => lhs; whnf
  refine (hD _).2 ⟨(), ⟨rfl, hHas.sub (sAC.trans hsu)⟩, fun v AZ hq => ?_⟩
  obtain ⟨sZ, hv⟩ : Au.Sub AZ ∧ v = .bool true := hq
  subst hv
  conv => lhs; whnf
  have hend : numbersS.post () [] A (.bool true) AZ := ⟨sAC.trans (hsu.trans sZ), rfl⟩
  exact (hD _).2 hend

end
end Go.Proofs.YtienbbhelhhfjaaGreatDoor
