/-
  Contracts: bytes that are lent, kept, written over.
  Contracts: two rows of members: are they the same?
  Contracts: members that are lent, kept, written over. (Turned out of LkB.)
  Contracts: two rows of bytes: are they the same?
  Contracts: two deeds that are the same are told the same.
  Contracts: deeds that are lent.
  Contracts: calls that are lent: are they kept?
  Contracts: beadlekit.Pick.
  Contracts: one step of the law.
  Lifting: what a row's arguments are in memory, as plain data of an arena that holds all that lay.
  Members and deeds as plain data, out of what a row's arguments are.
-/
import Derived.Test.YtmhnhkigbfdapaaGreatDoorG15
import Derived.Test.YtmhnhkigbfdapaaGreatDoorG07
import Derived.Test.YtmhnhkigbfdapaaGreatDoorG09
import Derived.Test.YtmhnhkigbfdapaaGreatDoorG06
import Derived.ChangeArms
import Derived.DataReads
import Derived.SizedLaws
namespace Go.Proofs.YtmhnhkigbfdapaaGreatDoor
open Go.Sx Go.RowKit
noncomputable section
open Classical

def markByteS : FSpec := ⟨Int × Int, fun g vs _ => vs = [.int .i64 g.1, .int .i64 g.2], fun g _ A v A' => A' = A ∧ v = .int .u8 (mkB g.1 g.2)⟩

set_option maxRecDepth 100000 in
set_option maxHeartbeats 0 in
theorem markByte_ok : FOk Tryz.prog 56 markByteS := by
  refine fok_v mixed fun ⟨k, i⟩ vs A hp => ?_
  obtain rfl : vs = [.int .i64 k, .int .i64 i] := hp
  refine ⟨noC, noL, 60, noC_sound _, noL_sound _, fun blk os out tape D hD => ?_⟩
  conv => lhs; whnf
  exact (hD _).2 ⟨rfl, rfl⟩

theorem wrap12 {n : Nat} (h : n ≤ 9000000000000000000) : (IntKind.i64.wrap ((n : Int) + 12)).toNat = n + 12 := by
  rw [Sx.wrap_i64 (by omega) (by omega)]; omega

theorem marksB_succ (k : Nat) : marksB (k + 1) = marksB k ++ [markB 1 k] := by
  unfold marksB
  rw [List.range_succ, List.map_append, List.map_singleton]

theorem marksB_len (k : Nat) : (marksB k).length = k := by unfold marksB; rw [List.length_map, List.length_range]

theorem off0 (c es : Nat) : 0 + (bif c.beq (Int.toNat 0) then 0 else Int.toNat 0 * es) = 0 := by
  cases c.beq (Int.toNat 0)
  · show 0 + 0 * es = 0
    omega
  · rfl

theorem lbnd_to {x : Int} {c k : Nat} (hx : x = k) (hk : k ≤ c) : ((decide ((0 : Int) ≤ 0) && decide ((0 : Int) ≤ x)) && (false || decide (x ≤ (c : Int)))) = true := by
  subst hx
  exact Bool.and_eq_true_iff.2 ⟨Bool.and_eq_true_iff.2 ⟨decide_eq_true (by omega), decide_eq_true (by omega)⟩, Bool.or_eq_true_iff.2 (.inr (decide_eq_true (by omega)))⟩

theorem win0 (g n c es : Nat) : Value.slice (some ⟨g, 0 + (bif c.beq (Int.toNat 0) then 0 else Int.toNat 0 * es), none⟩) (Int.toNat (n : Int) - Int.toNat 0) (c - Int.toNat 0) = .slice (some ⟨g, 0, none⟩) n c := by
  rw [off0]
  rfl

/-- A young row that is lent grows by one. -/
theorem lent_step {A0 As A3 A4 : Arena} {g es : Nat} {e : TypeId} {n c gb : Nat} {cs ys : List Value} {cc : Array Value} {v : Value} (hs : A0.Sub As) (hn : A0.blk g = none) (hL : LRow As g es e n c cs) (hN : As.New A3 gb cc e) (hc : n + 1 ≤ c) (hy : ys.length = 1 * es) (ha : Appended A3 (some (g, 0)) n c es e cs ys 1 v A4) :
    v = .slice (some ⟨g, 0, none⟩) (n + 1) c ∧ LRow A4 g es e (n + 1) c (cs ++ ys) ∧ A0.Sub A4 ∧ ∀ k o, k ≠ g → As.blk k = some o → A4.blk k = some o := by
  obtain ⟨h1, h2, h3⟩ := (hL.sub hN.sub).add hc hy ha
  refine ⟨h1, h2, fun k o hk => ?_, fun k o hg hk => ?_⟩
  · rw [h3 k fun e => (by subst e; rw [hn] at hk; cases hk)]
    exact hN.sub _ _ (hs _ _ hk)
  · rw [h3 k hg]
    exact hN.sub _ _ hk

structure LbG where
  k : Nat
  A : Arena

def lentBytesInv (A0 : Arena) (g c : Nat) (l : List UInt8) : LInv :=
  { γ := LbG, G := fun s => s.k ≤ 12 ∧ A0.Sub s.A ∧ LRow s.A g 1 5 (l.length + s.k) c (l.map bv ++ marksB s.k),
    keepS := [0], keepB := [], sl := fun s => [(4, .v (.int .i64 s.k)), (3, .v (.slice (some ⟨g, 0, none⟩) (l.length + s.k) c))], bl := fun _ => [], ar := fun s => s.A, mu := fun s => 12 - s.k }

def lentBytesS : FSpec := ⟨List UInt8, fun l vs A => ∃ x, vs = [x] ∧ SlB A x l,
  fun l _ A v A' => A.Sub A' ∧ ∃ g c, v = .slice (some ⟨g, 0, none⟩) l.length c ∧ A.blk g = none ∧ LRow A' g 1 5 (l.length + 12) c (l.map bv ++ marksB 12)⟩

set_option maxRecDepth 100000 in
set_option maxHeartbeats 0 in
theorem lentBytes_ok : FOk Tryz.prog 31 lentBytesS := by
  refine fok_v mixed fun (l : List UInt8) vs A hp => ?_
  obtain ⟨x, rfl, ⟨⟨a7, k7, rfl, hd7, hdl, hz1, hz2, hz3⟩, hdn⟩⟩ : ∃ x, vs = [x] ∧ SlB A x l := hp
  have hC : CTSound Tryz.prog (lookC [specE 56 markByteS] noC) := lookC_sound (noC_sound _) (fun x hx => by
    simp only [List.mem_singleton] at hx
    subst hx; exact specE_ok markByte_ok)
  refine ⟨_, tabO Tryz.prog _ noL 60 [(31, 0)], 60, hC, tabO_sound mixed hC (noL_sound _) _ _, fun blk os out tape D hD => ?_⟩
  have hw : IntKind.i64.wrap ((l.length : Int) + 12) = (l.length : Int) + 12 := Sx.wrap_i64 (by omega) (by omega)
  obtain ⟨c0, hc0⟩ : ∃ c0 : Nat, c0 = (IntKind.i64.wrap ((l.length : Int) + 12)).toNat := ⟨_, rfl⟩
  have hc0e : c0 = l.length + 12 := by rw [hc0]; exact wrap12 (by omega)
  have hcs : (a7 = none ∧ l.length = 0) ∨ (∃ g7 o7 t7, a7 = some ⟨g7, o7, some t7⟩ ∧ l.length = 0) ∨ ∃ g7 o7, a7 = some ⟨g7, o7, none⟩ := by
    cases a7 with
    | none => exact .inl ⟨rfl, by have := hz1 rfl; omega⟩
    | some a =>
      obtain ⟨g7, o7, sp⟩ := a
      cases sp with
      | none => exact .inr (.inr ⟨g7, o7, rfl⟩)
      | some t7 =>
        refine .inr (.inl ⟨g7, o7, t7, rfl, ?_⟩)
        rcases Nat.eq_zero_or_pos k7 with hh | hh
        · omega
        · have := hz2 _ rfl hh
          cases this
  refine Or.elim hcs (fun e => ?_) (fun e => Or.elim e (fun e => ?_) (fun e => ?_))
  obtain ⟨e, h0⟩ := e
  subst e
  have hsrc : ∀ A1, A.Sub A1 → (if l.length = 0 then some [] else none) = some (l.map bv) := fun A1 _ => by
    rw [if_pos h0, List.length_eq_zero_iff.1 h0]; rfl
  rotate_left
  obtain ⟨g7, o7, t7, e, h0⟩ := e
  subst e
  have hsrc : ∀ A1, A.Sub A1 → (if l.length = 0 then some [] else none) = some (l.map bv) := fun A1 _ => by
    rw [if_pos h0, List.length_eq_zero_iff.1 h0]; rfl
  rotate_left
  obtain ⟨g7, o7, e⟩ := e
  subst e
  have hsrc : ∀ A1, A.Sub A1 → (if l.length = 0 then some [] else A1.rd g7 o7 (l.length * 1)) = some (l.map bv) := fun A1 hs => by
    by_cases h0 : l.length = 0
    · rw [if_pos h0, List.length_eq_zero_iff.1 h0]; rfl
    · rw [if_neg h0]; exact rd_sub hs (hz3 (by omega) _ rfl)
  rotate_left
  all_goals
    conv => lhs; whnf
    refine (hD _).2 ⟨by omega, by rw [hw]; omega, by rw [hw]; omega, by
      rw [← hc0, hc0e]
      show 1 * (l.length + 12) ≤ _
      omega, rfl, fun g A1 cc hcl hNw => ?_⟩
    have hNw : A.New A1 g cc 5 := hNw
    have hL0 : LRow A1 g 1 5 0 c0 [] := by
      refine ⟨⟨cc, hNw.at_, ?_, by simp⟩, Nat.zero_le _, rfl⟩
      rw [← Array.length_toList, hcl, ← hc0]
      simp [List.length_flatten]
      show c0 * 1 = c0
      omega
    conv => lhs; whnf
    refine (hD _).2 ⟨[], l.map bv, hL0.base, hsrc A1 hNw.sub, hdl, fun v hv => (by
      obtain ⟨b, _, rfl⟩ := List.mem_map.1 hv
      rfl), by show 0 + l.length ≤ _; omega, fun h9 => (by
      have h9 : (IntKind.i64.wrap ((l.length : Int) + 12)).toNat < 0 + l.length := h9
      omega), rfl, fun h => (by cases h), fun g' o' hb _ _ => (by
      injection hb with hb
      injection hb with e1 e2
      subst e1; subst e2
      refine hL0.room ?_
      show 0 + 0 * 1 + _ ≤ _
      rw [List.length_map]
      omega), fun v A2 hA => ?_⟩
    obtain ⟨hv, hL1, ho1⟩ := hL0.add (m := l.length) (v := v) (A2 := A2) (by omega) hdl (by rw [hc0]; exact hA)
    rw [Nat.zero_add] at hv
    subst hv
    rw [Nat.zero_add, List.nil_append] at hL1
    have hs2 : A.Sub A2 := fun k o hk => by
      rw [ho1 k fun e => (by subst e; rw [hNw.none_] at hk; cases hk)]
      exact hNw.sub _ _ hk
    conv => lhs; whnf
    refine (hD _).2 ⟨lentBytesInv A g c0 l, ⟨(⟨0, A2⟩ : LbG), ⟨Nat.zero_le _, hs2, by
      show LRow A2 g 1 5 (l.length + 0) c0 (l.map bv ++ [])
      rw [Nat.add_zero, List.append_nil]
      exact hL1⟩, ⟨rfl, rfl, trivial⟩, trivial, rfl⟩, fun (s : LbG) hG => ⟨⟨trivial, trivial, trivial⟩, trivial, ?_⟩⟩
    obtain ⟨k, As⟩ := s
    obtain ⟨hk, hsA, hLs⟩ : k ≤ 12 ∧ A.Sub As ∧ LRow As g 1 5 (l.length + k) c0 (l.map bv ++ marksB k) := hG
    conv => lhs; whnf
    refine split_dec (fun hlt => ?_) (fun hlt => ?_)
    rotate_left
    · have hlt : ¬ (k : Int) < 12 := hlt
      have h12 : k = 12 := by omega
      subst h12
      have hle1 : (l.length : Int) ≤ (c0 : Int) := by omega
      have hend : lentBytesS.post l [] A (.slice (some ⟨g, 0, none⟩) l.length c0) As := ⟨hsA, g, c0, rfl, hNw.none_, hLs⟩
      conv => lhs; whnf
      refine go_dec hle1 ?_
      conv => lhs; whnf
      refine (hD _).2 ?_
      show lentBytesS.post l [] A (.slice (some ⟨g, 0 + (bif c0.beq (Int.toNat 0) then 0 else Int.toNat 0 * 1), none⟩) (Int.toNat (l.length : Int) - Int.toNat 0) (c0 - Int.toNat 0)) As
      rw [win0]
      exact hend
    have hlt : (k : Int) < 12 := hlt
    conv => lhs; whnf
    refine (hD _).2 ⟨((1 : Int), (k : Int)), rfl, fun v A9 hq => ?_⟩
    obtain ⟨h9, hv⟩ : A9 = As ∧ v = .int .u8 (mkB 1 k) := hq
    subst h9; subst hv
    conv => lhs; whnf
    refine (hD _).2 fun gb A5 hN5 => ?_
    have hN5 : A9.New A5 gb #[markB 1 k] 5 := hN5
    have hrow5 : A5.rd gb 0 (1 * 1) = some [markB 1 k] := hN5.rd (o := 0) (n := 1 * 1) (by show 0 + 1 * 1 ≤ 1; omega)
    have hL5 := hLs.sub hN5.sub
    conv => lhs; whnf
    refine (hD _).2 ⟨l.map bv ++ marksB k, [markB 1 k], hL5.base, by
      show (if 1 * 1 = 0 then some [] else A5.rd gb 0 (1 * 1)) = _
      rw [if_neg (by omega)]; exact hrow5, rfl, fun v hv => (by
      rw [List.mem_singleton] at hv
      subst hv; rfl), by
      show l.length + k + 1 ≤ _
      omega, fun h9 => (by
      have h9 : c0 < l.length + k + 1 := h9
      omega), rfl, fun h => (by cases h), fun g' o' hb _ _ => (by
      injection hb with hb
      injection hb with e1 e2
      subst e1; subst e2
      refine hL5.room ?_
      show 0 + (l.length + k) * 1 + 1 ≤ _
      omega), fun v A6 hA6 => ?_⟩
    obtain ⟨hv, hL6, hs6, -⟩ := lent_step hsA hNw.none_ hLs hN5 (by omega) rfl hA6
    subst hv
    rw [List.append_assoc, ← marksB_succ] at hL6
    conv => lhs; whnf
    exact (hD _).2 ⟨(⟨k + 1, A6⟩ : LbG), ⟨⟨by show k + 1 ≤ 12; omega, hs6, hL6⟩, ⟨inc_slot (by omega), rfl, trivial⟩, trivial, rfl⟩, by show 12 - (k + 1) < 12 - k; omega, ⟨same1 rfl rfl, trivial⟩, trivial⟩

/-! ### Kept -/

def keptBytesS : FSpec := ⟨List UInt8 × Nat × Nat, fun g vs A => ∃ x, vs = [.slice (some ⟨g.2.1, 0, none⟩) g.1.length g.2.2, x] ∧ SlB A x g.1 ∧ LRow A g.2.1 1 5 (g.1.length + 12) g.2.2 (g.1.map bv ++ marksB 12),
  fun _ _ A v A' => A' = A ∧ v = .bool true⟩

set_option maxRecDepth 100000 in
set_option maxHeartbeats 0 in
theorem keptBytes_ok : FOk Tryz.prog 37 keptBytesS := by
  refine fok_v mixed fun ⟨l, g, c⟩ vs A hp => ?_
  obtain ⟨x, rfl, ⟨⟨ao, k7, rfl, hd7, hdl, hz1, hz2, hz3⟩, hdn⟩, hL⟩ : ∃ x, vs = [.slice (some ⟨g, 0, none⟩) l.length c, x] ∧ SlB A x l ∧ LRow A g 1 5 (l.length + 12) c (l.map bv ++ marksB 12) := hp
  have hC : CTSound Tryz.prog (lookC [specE 56 markByteS] noC) := lookC_sound (noC_sound _) (fun x hx => by
    simp only [List.mem_singleton] at hx
    subst hx; exact specE_ok markByte_ok)
  refine ⟨_, tabO Tryz.prog _ noL 60 [(37, 0)], 60, hC, tabO_sound mixed hC (noL_sound _) _ _, fun blk os out tape D hD => ?_⟩
  have hw : IntKind.i64.wrap ((l.length : Int) + 12) = ((l.length + 12 : Nat) : Int) := by
    rw [Sx.wrap_i64 (by omega) (by omega)]; omega
  have hwn : (IntKind.i64.wrap ((l.length : Int) + 12)).toNat = l.length + 12 := by rw [hw, Int.toNat_natCast]
  have hrow := hL.rd
  have hend : keptBytesS.post (l, g, c) [] A (.bool true) A := ⟨rfl, rfl⟩
  conv => lhs; whnf
  refine split_nd (fun _ => ?_) (fun h => absurd rfl h)
  conv => lhs; whnf
  refine go_b (lbnd_to (k := l.length + 12) hw hL.le) ?_
  conv => lhs; whnf
  refine (hD _).2 ⟨cnt A 6 [0, 1, 5] [] (l.length + 12) fun _ => True, ⟨(0 : Nat), ⟨Nat.zero_le _, trivial⟩, ⟨rfl, trivial⟩, trivial, rfl⟩, fun (k : Nat) hk => ⟨⟨trivial, trivial⟩, trivial, ?_⟩⟩
  simp only [cnt] at hk
  conv => lhs; whnf
  refine split_dec (fun hlt => ?_) (fun hlt => ?_)
  rotate_left
  · conv => lhs; whnf
    exact (hD _).2 hend
  have hlt : (k : Int) < (((IntKind.i64.wrap ((l.length : Int) + 12)).toNat : Nat) : Int) := hlt
  have hk2 : k < l.length + 12 := by
    have h9 := hlt
    rw [hwn] at h9
    omega
  have i0 : (0 : Int) ≤ (k : Int) ∧ (k : Int) < (((IntKind.i64.wrap ((l.length : Int) + 12)).toNat : Nat) : Int) := ⟨by omega, hlt⟩
  have hmu : (l.length + 12) - (k + 1) < (l.length + 12) - k := by omega
  by_cases h1 : k < l.length
  · obtain ⟨g', o', e, hrb⟩ := Sl.at_ hd7 hz1 hz2 hz3 (by omega)
    subst e
    have h1i : (k : Int) < (l.length : Int) := by omega
    have h1n : ¬ (l.length : Int) ≤ (k : Int) := by omega
    have i1 : (0 : Int) ≤ (k : Int) ∧ (k : Int) < (l.length : Int) := by omega
    have r1 : A.rd g ((0 + bif c.beq (Int.toNat 0) then 0 else Int.toNat 0 * 1) + k * 1) 1 = some [bv l[k]] := by
      rw [off0]
      have h9 := rd_at hrow (i := k) (m := 1) (by omega)
      rw [Nat.mul_one, h9]
      congr 1
      rw [List.drop_append_of_le_length (by rw [List.length_map]; omega), List.drop_eq_getElem_cons (by rw [List.length_map]; exact h1), List.getElem_map]
      rfl
    have r2 := byte_at hrb k h1 rfl
    conv => lhs; whnf
    repeat (first | refine go_dec h1i ?_ | refine go_in i0 ?_ | refine go_in i1 ?_ | refine go_rd r1 ?_ | refine go_rd r2 ?_
            conv => lhs; whnf)
    refine split_nd (fun _ => ?_) (fun h => absurd rfl h)
    conv => lhs; whnf
    repeat (first | refine no_dec h1n ?_ | refine go_dec h1n ?_
            conv => lhs; whnf)
    exact (hD _).2 ⟨(k + 1 : Nat), ⟨⟨hk2, trivial⟩, ⟨inc_slot (by omega), trivial⟩, trivial, rfl⟩, hmu, ⟨same1 rfl rfl, same1 rfl rfl, same1 rfl rfl, trivial⟩, trivial⟩
  · have h1i : ¬ (k : Int) < (l.length : Int) := by omega
    have h1n : (l.length : Int) ≤ (k : Int) := by omega
    have hwk : IntKind.i64.wrap ((k : Int) - (l.length : Int)) = ((k - l.length : Nat) : Int) := by
      rw [Sx.wrap_i64 (by omega) (by omega)]; omega
    have r1 : A.rd g ((0 + bif c.beq (Int.toNat 0) then 0 else Int.toNat 0 * 1) + k * 1) 1 = some [.int .u8 (mkB 1 ((k - l.length : Nat) : Int))] := by
      rw [off0]
      have h9 := rd_at hrow (i := k) (m := 1) (by omega)
      rw [Nat.mul_one, h9]
      congr 1
      rw [List.drop_append, List.drop_eq_nil_of_le (by rw [List.length_map]; omega), List.nil_append, List.length_map, List.drop_eq_getElem_cons (by rw [marksB_len]; omega)]
      unfold marksB
      rw [List.getElem_map, List.getElem_range]
      rfl
    conv => lhs; whnf
    repeat (first | refine no_dec h1i ?_ | refine go_dec h1n ?_ | refine go_in i0 ?_ | refine go_rd r1 ?_
            conv => lhs; whnf)
    refine (hD _).2 ⟨((1 : Int), IntKind.i64.wrap ((k : Int) - (l.length : Int))), rfl, fun v A9 hq => ?_⟩
    obtain ⟨h9, hv⟩ : A9 = A ∧ v = .int .u8 (mkB 1 (IntKind.i64.wrap ((k : Int) - (l.length : Int)))) := hq
    subst h9
    rw [hwk] at hv
    subst hv
    conv => lhs; whnf
    repeat (first | refine no_dec h1i ?_ | refine go_dec h1n ?_ | refine go_in i0 ?_ | refine go_rd r1 ?_ | refine go_D hD rfl ?_ | refine split_nd (fun _ => ?_) (fun h => absurd rfl h)
            conv => lhs; whnf)
    exact (hD _).2 ⟨(k + 1 : Nat), ⟨⟨hk2, trivial⟩, ⟨inc_slot (by omega), trivial⟩, trivial, rfl⟩, hmu, ⟨same1 rfl rfl, same1 rfl rfl, same1 rfl rfl, trivial⟩, trivial⟩

end
end Go.Proofs.YtmhnhkigbfdapaaGreatDoor

namespace Go.Proofs.YtmhnhkigbfdapaaGreatDoor
open Go.Sx Go.RowKit
noncomputable section
open Classical

/-! ### Members -/

def sameMembersS : FSpec := ⟨List MemD × List MemD, fun g vs A => ∃ x y, vs = [x, y] ∧ MemR A x g.1 ∧ MemR A y g.2, fun g _ A v A' => A' = A ∧ v = .bool (decide (g.1 = g.2))⟩

theorem mem_at2 {A : Arena} {g o n : Nat} {l : List MemD} (h : A.rd g o (n * 4) = some (memCells l)) (k : Nat) (hk : k < l.length) (hn : n = l.length) : A.rd g (o + k * 4) 4 = some [.int .i64 l[k].id, .int .u8 l[k].role, .int .i64 l[k].weight, .int .i64 l[k].group] := by
  have := rows_at (rows := l.map MemD.cells) h (memCells_rows l) k (by simpa using hk) (by simpa using hn)
  simpa [MemD.cells] using this

set_option maxRecDepth 100000 in
set_option maxHeartbeats 0 in
theorem sameMembers_ok : FOk Tryz.prog 84 sameMembersS := by
  refine fok_v mixed fun ⟨ls, bs⟩ vs A hp => ?_
  simp only [sameMembersS] at hp
  obtain ⟨x, y, rfl, ⟨⟨ao, c, rfl, hc, _, ha1, ha2, ha3⟩, hxl⟩, ⟨bo, d, rfl, hd, _, hb1, hb2, hb3⟩, hyl⟩ := hp
  refine ⟨noC, tabO Tryz.prog noC noL 60 [(84, 0)], 60, noC_sound _, tabO_sound mixed (noC_sound _) (noL_sound _) _ _, fun blk os out tape D hD => ?_⟩
  conv => lhs; whnf
  refine split_b (fun hb => ?_) (fun hb => ?_) <;> (conv => lhs; whnf)
  · refine (hD _).2 ⟨rfl, ?_⟩
    have : ls ≠ bs := fun e => by subst e; simp at hb
    simp [this]
  · have hlen : ls.length = bs.length := by
      have : (ls.length : Int) = bs.length := by simpa using hb
      omega
    refine (hD _).2 ⟨cnt A 5 [0, 1] [] ls.length fun k => ls.take k = bs.take k, ⟨(0 : Nat), ⟨Nat.zero_le _, rfl⟩, ⟨rfl, trivial⟩, trivial, rfl⟩, fun (k : Nat) hk => ⟨⟨trivial, trivial⟩, trivial, ?_⟩⟩
    simp only [cnt] at hk
    conv => lhs; whnf
    refine split_dec (fun hlt => ?_) (fun hb => ?_) <;> (conv => lhs; whnf)
    · have hlt : k < ls.length := by omega
      obtain ⟨g, o, rfl, hra⟩ := Sl.at_ hc ha1 ha2 ha3 (by omega)
      obtain ⟨g', o', rfl, hrb⟩ := Sl.at_ hd hb1 hb2 hb3 (by omega)
      conv => lhs; whnf
      refine split_in (fun _ _ => ?_) (fun h => by omega)
      conv => lhs; whnf
      refine go_rd (mem_at2 hra k hlt rfl) ?_
      conv => lhs; whnf
      refine split_in (fun _ _ => ?_) (fun h => by omega)
      conv => lhs; whnf
      refine go_rd (mem_at2 hrb k (by omega) rfl) ?_
      conv => lhs; whnf
      refine go_D hD (by kernel_rfl) ?_
      conv => lhs; whnf
      refine split_b (fun hb => ?_) (fun hb => ?_) <;> (conv => lhs; whnf)
      · refine (hD _).2 ⟨rfl, ?_⟩
        have : ls ≠ bs := fun e => by subst e; simp at hb
        simp [this]
      · have he : ls[k] = bs[k] := by
          simp only [Bool.not_eq_false', Bool.and_eq_true, decide_eq_true_eq, Bool.and_true] at hb
          obtain ⟨h1, h2, h3, h4⟩ := hb
          cases hl : ls[k]; cases hr : bs[k]
          simp only [hl, hr] at h1 h2 h3 h4
          subst h1 h2 h3 h4; rfl
        refine (hD _).2 ⟨(k + 1 : Nat), ⟨⟨by omega, ?_⟩, ⟨inc_slot (by omega), trivial⟩, trivial, rfl⟩, ?_, ⟨rfl, rfl, trivial⟩, trivial⟩
        · show ls.take (k + 1) = bs.take (k + 1)
          rw [List.take_succ_eq_append_getElem hlt, List.take_succ_eq_append_getElem (by omega), hk.2, he]
        · show ls.length - (k + 1) < ls.length - k
          omega
    · refine (hD _).2 ⟨rfl, ?_⟩
      have h1 : k = ls.length := by omega
      have : ls = bs := by
        have := hk.2
        rw [h1, List.take_length, hlen, List.take_length] at this
        exact this
      simp [this]

end
end Go.Proofs.YtmhnhkigbfdapaaGreatDoor

namespace Go.Proofs.YtmhnhkigbfdapaaGreatDoor
open Go.Sx Go.RowKit
noncomputable section
open Classical

def markMemberS : FSpec := ⟨Int × Int, fun g vs _ => vs = [.int .i64 g.1, .int .i64 g.2], fun g _ A v A' => A' = A ∧ v = mbV [.int .i64 (mkI g.1 g.2), .int .u8 0, .int .i64 0, .int .i64 0]⟩

set_option maxRecDepth 100000 in
set_option maxHeartbeats 0 in
theorem markMember_ok : FOk Tryz.prog 81 markMemberS := by
  refine fok_v mixed fun ⟨k, i⟩ vs A hp => ?_
  obtain rfl : vs = [.int .i64 k, .int .i64 i] := hp
  refine ⟨noC, noL, 60, noC_sound _, noL_sound _, fun blk os out tape D hD => ?_⟩
  conv => lhs; whnf
  exact (hD _).2 ⟨rfl, rfl⟩

theorem marksM_succ (k : Nat) : marksM (k + 1) = marksM k ++ markM 1 k := by
  unfold marksM
  rw [List.range_succ, List.flatMap_append, List.flatMap_singleton]

theorem marksM_len (k : Nat) : (marksM k).length = k * 4 := by
  induction k with
  | zero => rfl
  | succ k ih =>
    rw [marksM_succ, List.length_append, ih]
    show k * 4 + 4 = _
    omega

theorem memL_one (l : List MemD) : ∀ v ∈ memCells l, v.oneCell' = true := fun v hv => by
  unfold memCells at hv
  obtain ⟨r, hr, hv⟩ := List.mem_flatten.1 hv
  obtain ⟨y, _, rfl⟩ := List.mem_map.1 hr
  simp only [MemD.cells, List.mem_cons, List.not_mem_nil, or_false] at hv
  rcases hv with rfl | rfl | rfl | rfl <;> rfl

/-- The marks behind the end, one by one. -/
theorem markM_at {xs : List Value} {n : Nat} (hx : xs.length = n * 4) (k : Nat) (hk : k < 12) : ((xs ++ marksM 12).drop ((n + k) * 4)).take 4 = markM 1 k := by
  rw [List.drop_append, List.drop_eq_nil_of_le (by rw [hx]; omega), List.nil_append, hx]
  have e : (n + k) * 4 - n * 4 = k * 4 := by omega
  rw [e]
  have h12 : k = 0 ∨ k = 1 ∨ k = 2 ∨ k = 3 ∨ k = 4 ∨ k = 5 ∨ k = 6 ∨ k = 7 ∨ k = 8 ∨ k = 9 ∨ k = 10 ∨ k = 11 := by omega
  rcases h12 with rfl | rfl | rfl | rfl | rfl | rfl | rfl | rfl | rfl | rfl | rfl | rfl <;> rfl

def lentMembersInv (A0 : Arena) (g c : Nat) (l : List MemD) : LInv :=
  { γ := LbG, G := fun s => s.k ≤ 12 ∧ A0.Sub s.A ∧ LRow s.A g 4 119 (l.length + s.k) c (memCells l ++ marksM s.k),
    keepS := [0], keepB := [], sl := fun s => [(4, .v (.int .i64 s.k)), (3, .v (.slice (some ⟨g, 0, none⟩) (l.length + s.k) c))], bl := fun _ => [], ar := fun s => s.A, mu := fun s => 12 - s.k }

def lentMembersS : FSpec := ⟨List MemD, fun l vs A => ∃ x, vs = [x] ∧ MemR A x l,
  fun l _ A v A' => A.Sub A' ∧ ∃ g c, v = .slice (some ⟨g, 0, none⟩) l.length c ∧ A.blk g = none ∧ LRow A' g 4 119 (l.length + 12) c (memCells l ++ marksM 12)⟩

set_option maxRecDepth 100000 in
set_option maxHeartbeats 0 in
theorem lentMembers_ok : FOk Tryz.prog 57 lentMembersS := by
  refine fok_v mixed fun (l : List MemD) vs A hp => ?_
  obtain ⟨x, rfl, ⟨⟨a7, k7, rfl, hd7, hdl, hz1, hz2, hz3⟩, hdn⟩⟩ : ∃ x, vs = [x] ∧ MemR A x l := hp
  have hC : CTSound Tryz.prog (lookC [specE 81 markMemberS] noC) := lookC_sound (noC_sound _) (fun x hx => by
    simp only [List.mem_singleton] at hx
    subst hx; exact specE_ok markMember_ok)
  refine ⟨_, tabO Tryz.prog _ noL 60 [(57, 0)], 60, hC, tabO_sound mixed hC (noL_sound _) _ _, fun blk os out tape D hD => ?_⟩
  have hw : IntKind.i64.wrap ((l.length : Int) + 12) = (l.length : Int) + 12 := Sx.wrap_i64 (by omega) (by omega)
  obtain ⟨c0, hc0⟩ : ∃ c0 : Nat, c0 = (IntKind.i64.wrap ((l.length : Int) + 12)).toNat := ⟨_, rfl⟩
  have hc0e : c0 = l.length + 12 := by rw [hc0]; exact wrap12 (by omega)
  have hcs : (a7 = none ∧ l.length = 0) ∨ (∃ g7 o7 t7, a7 = some ⟨g7, o7, some t7⟩ ∧ l.length = 0) ∨ ∃ g7 o7, a7 = some ⟨g7, o7, none⟩ := by
    cases a7 with
    | none => exact .inl ⟨rfl, by have := hz1 rfl; omega⟩
    | some a =>
      obtain ⟨g7, o7, sp⟩ := a
      cases sp with
      | none => exact .inr (.inr ⟨g7, o7, rfl⟩)
      | some t7 =>
        refine .inr (.inl ⟨g7, o7, t7, rfl, ?_⟩)
        rcases Nat.eq_zero_or_pos k7 with hh | hh
        · omega
        · have := hz2 _ rfl hh
          cases this
  refine Or.elim hcs (fun e => ?_) (fun e => Or.elim e (fun e => ?_) (fun e => ?_))
  obtain ⟨e, h0⟩ := e
  subst e
  have hsrc : ∀ A1, A.Sub A1 → (if l.length = 0 then some [] else none) = some (memCells l) := fun A1 _ => by
    rw [if_pos h0, List.length_eq_zero_iff.1 h0]; rfl
  rotate_left
  obtain ⟨g7, o7, t7, e, h0⟩ := e
  subst e
  have hsrc : ∀ A1, A.Sub A1 → (if l.length = 0 then some [] else none) = some (memCells l) := fun A1 _ => by
    rw [if_pos h0, List.length_eq_zero_iff.1 h0]; rfl
  rotate_left
  obtain ⟨g7, o7, e⟩ := e
  subst e
  have hsrc : ∀ A1, A.Sub A1 → (if l.length = 0 then some [] else A1.rd g7 o7 (l.length * 4)) = some (memCells l) := fun A1 hs => by
    by_cases h0 : l.length = 0
    · rw [if_pos h0, List.length_eq_zero_iff.1 h0]; rfl
    · rw [if_neg h0]; exact rd_sub hs (hz3 (by omega) _ rfl)
  rotate_left
  all_goals
    conv => lhs; whnf
    refine (hD _).2 ⟨by omega, by rw [hw]; omega, by rw [hw]; omega, by
      rw [← hc0, hc0e]
      show 32 * (l.length + 12) ≤ _
      omega, rfl, fun g A1 cc hcl hNw => ?_⟩
    have hNw : A.New A1 g cc 119 := hNw
    have hL0 : LRow A1 g 4 119 0 c0 [] := by
      refine ⟨⟨cc, hNw.at_, ?_, by simp⟩, Nat.zero_le _, rfl⟩
      rw [← Array.length_toList, hcl, ← hc0]
      simp [List.length_flatten]
      rfl
    conv => lhs; whnf
    refine (hD _).2 ⟨[], memCells l, hL0.base, hsrc A1 hNw.sub, hdl, memL_one l, by show 0 + l.length ≤ _; omega, fun h9 => (by
      have h9 : (IntKind.i64.wrap ((l.length : Int) + 12)).toNat < 0 + l.length := h9
      omega), rfl, fun h => (by cases h), fun g' o' hb _ _ => (by
      injection hb with hb
      injection hb with e1 e2
      subst e1; subst e2
      refine hL0.room ?_
      show 0 + 0 * 4 + _ ≤ _
      rw [memCells_len]
      omega), fun v A2 hA => ?_⟩
    obtain ⟨hv, hL1, ho1⟩ := hL0.add (m := l.length) (v := v) (A2 := A2) (by omega) hdl (by rw [hc0]; exact hA)
    rw [Nat.zero_add] at hv
    subst hv
    rw [Nat.zero_add, List.nil_append] at hL1
    have hs2 : A.Sub A2 := fun k o hk => by
      rw [ho1 k fun e => (by subst e; rw [hNw.none_] at hk; cases hk)]
      exact hNw.sub _ _ hk
    conv => lhs; whnf
    refine (hD _).2 ⟨lentMembersInv A g c0 l, ⟨(⟨0, A2⟩ : LbG), ⟨Nat.zero_le _, hs2, by
      show LRow A2 g 4 119 (l.length + 0) c0 (memCells l ++ [])
      rw [Nat.add_zero, List.append_nil]
      exact hL1⟩, ⟨rfl, rfl, trivial⟩, trivial, rfl⟩, fun (s : LbG) hG => ⟨⟨trivial, trivial, trivial⟩, trivial, ?_⟩⟩
    obtain ⟨k, As⟩ := s
    obtain ⟨hk, hsA, hLs⟩ : k ≤ 12 ∧ A.Sub As ∧ LRow As g 4 119 (l.length + k) c0 (memCells l ++ marksM k) := hG
    conv => lhs; whnf
    refine split_dec (fun hlt => ?_) (fun hlt => ?_)
    rotate_left
    · have hlt : ¬ (k : Int) < 12 := hlt
      have h12 : k = 12 := by omega
      subst h12
      have hle1 : (l.length : Int) ≤ (c0 : Int) := by omega
      have hend : lentMembersS.post l [] A (.slice (some ⟨g, 0, none⟩) l.length c0) As := ⟨hsA, g, c0, rfl, hNw.none_, hLs⟩
      conv => lhs; whnf
      refine go_dec hle1 ?_
      conv => lhs; whnf
      refine (hD _).2 ?_
      show lentMembersS.post l [] A (.slice (some ⟨g, 0 + (bif c0.beq (Int.toNat 0) then 0 else Int.toNat 0 * 4), none⟩) (Int.toNat (l.length : Int) - Int.toNat 0) (c0 - Int.toNat 0)) As
      rw [win0]
      exact hend
    have hlt : (k : Int) < 12 := hlt
    conv => lhs; whnf
    refine (hD _).2 ⟨((1 : Int), (k : Int)), rfl, fun v A9 hq => ?_⟩
    obtain ⟨h9, hv⟩ : A9 = As ∧ v = mbV [.int .i64 (mkI 1 k), .int .u8 0, .int .i64 0, .int .i64 0] := hq
    subst h9; subst hv
    conv => lhs; whnf
    refine (hD _).2 fun gb A5 hN5 => ?_
    have hN5 : A9.New A5 gb #[.int .i64 (mkI 1 k), .int .u8 0, .int .i64 0, .int .i64 0] 119 := hN5
    have hrow5 : A5.rd gb 0 (1 * 4) = some (markM 1 k) := hN5.rd (o := 0) (n := 1 * 4) (by show 0 + 1 * 4 ≤ 4; omega)
    have hL5 := hLs.sub hN5.sub
    conv => lhs; whnf
    refine (hD _).2 ⟨memCells l ++ marksM k, markM 1 k, hL5.base, by
      show (if 1 * 4 = 0 then some [] else A5.rd gb 0 (1 * 4)) = _
      rw [if_neg (by omega)]; exact hrow5, rfl, fun v hv => (by
      simp only [markM, List.mem_cons, List.not_mem_nil, or_false] at hv
      rcases hv with rfl | rfl | rfl | rfl <;> rfl), by
      show l.length + k + 1 ≤ _
      omega, fun h9 => (by
      have h9 : c0 < l.length + k + 1 := h9
      omega), rfl, fun h => (by cases h), fun g' o' hb _ _ => (by
      injection hb with hb
      injection hb with e1 e2
      subst e1; subst e2
      refine hL5.room ?_
      show 0 + (l.length + k) * 4 + 4 ≤ _
      omega), fun v A6 hA6 => ?_⟩
    obtain ⟨hv, hL6, hs6, -⟩ := lent_step hsA hNw.none_ hLs hN5 (by omega) rfl hA6
    subst hv
    rw [List.append_assoc, ← marksM_succ] at hL6
    conv => lhs; whnf
    exact (hD _).2 ⟨(⟨k + 1, A6⟩ : LbG), ⟨⟨by show k + 1 ≤ 12; omega, hs6, hL6⟩, ⟨inc_slot (by omega), rfl, trivial⟩, trivial, rfl⟩, by show 12 - (k + 1) < 12 - k; omega, ⟨same1 rfl rfl, trivial⟩, trivial⟩

/-! ### Kept -/

def keptMembersS : FSpec := ⟨List MemD × Nat × Nat, fun g vs A => ∃ x, vs = [.slice (some ⟨g.2.1, 0, none⟩) g.1.length g.2.2, x] ∧ MemR A x g.1 ∧ LRow A g.2.1 4 119 (g.1.length + 12) g.2.2 (memCells g.1 ++ marksM 12),
  fun _ _ A v A' => A' = A ∧ v = .bool true⟩

set_option maxRecDepth 100000 in
set_option maxHeartbeats 0 in
theorem keptMembers_ok : FOk Tryz.prog 68 keptMembersS := by
  refine fok_v mixed fun ⟨l, g, c⟩ vs A hp => ?_
  obtain ⟨x, rfl, ⟨⟨ao, k7, rfl, hd7, hdl, hz1, hz2, hz3⟩, hdn⟩, hL⟩ : ∃ x, vs = [.slice (some ⟨g, 0, none⟩) l.length c, x] ∧ MemR A x l ∧ LRow A g 4 119 (l.length + 12) c (memCells l ++ marksM 12) := hp
  have hC : CTSound Tryz.prog (lookC [specE 81 markMemberS] noC) := lookC_sound (noC_sound _) (fun x hx => by
    simp only [List.mem_singleton] at hx
    subst hx; exact specE_ok markMember_ok)
  refine ⟨_, tabO Tryz.prog _ noL 60 [(68, 0)], 60, hC, tabO_sound mixed hC (noL_sound _) _ _, fun blk os out tape D hD => ?_⟩
  have hw : IntKind.i64.wrap ((l.length : Int) + 12) = ((l.length + 12 : Nat) : Int) := by
    rw [Sx.wrap_i64 (by omega) (by omega)]; omega
  have hwn : (IntKind.i64.wrap ((l.length : Int) + 12)).toNat = l.length + 12 := by rw [hw, Int.toNat_natCast]
  have hrow := hL.rd
  have hend : keptMembersS.post (l, g, c) [] A (.bool true) A := ⟨rfl, rfl⟩
  conv => lhs; whnf
  refine split_nd (fun _ => ?_) (fun h => absurd rfl h)
  conv => lhs; whnf
  refine go_b (lbnd_to (k := l.length + 12) hw hL.le) ?_
  conv => lhs; whnf
  refine (hD _).2 ⟨cnt A 6 [0, 1, 5] [] (l.length + 12) fun _ => True, ⟨(0 : Nat), ⟨Nat.zero_le _, trivial⟩, ⟨rfl, trivial⟩, trivial, rfl⟩, fun (k : Nat) hk => ⟨⟨trivial, trivial⟩, trivial, ?_⟩⟩
  simp only [cnt] at hk
  conv => lhs; whnf
  refine split_dec (fun hlt => ?_) (fun hlt => ?_)
  rotate_left
  · conv => lhs; whnf
    exact (hD _).2 hend
  have hlt : (k : Int) < (((IntKind.i64.wrap ((l.length : Int) + 12)).toNat : Nat) : Int) := hlt
  have hk2 : k < l.length + 12 := by
    have h9 := hlt
    rw [hwn] at h9
    omega
  have i0 : (0 : Int) ≤ (k : Int) ∧ (k : Int) < (((IntKind.i64.wrap ((l.length : Int) + 12)).toNat : Nat) : Int) := ⟨by omega, hlt⟩
  have hmu : (l.length + 12) - (k + 1) < (l.length + 12) - k := by omega
  by_cases h1 : k < l.length
  · obtain ⟨g', o', e, hrb⟩ := Sl.at_ hd7 hz1 hz2 hz3 (by omega)
    subst e
    have h1i : (k : Int) < (l.length : Int) := by omega
    have h1n : ¬ (l.length : Int) ≤ (k : Int) := by omega
    have i1 : (0 : Int) ≤ (k : Int) ∧ (k : Int) < (l.length : Int) := by omega
    have r1 : A.rd g ((0 + bif c.beq (Int.toNat 0) then 0 else Int.toNat 0 * 4) + k * 4) 4 = some [.int .i64 l[k].id, .int .u8 l[k].role, .int .i64 l[k].weight, .int .i64 l[k].group] := by
      rw [off0]
      have h9 := rd_at hrow (i := 0) (m := l.length * 4) (by omega)
      rw [List.drop_zero, List.take_left' (memCells_len l)] at h9
      exact mem_at2 h9 k h1 rfl
    have r2 := mem_at2 hrb k h1 rfl
    obtain ⟨⟨u1, u2, u3, u4⟩, hx⟩ : ∃ x, x = l[k] := ⟨_, rfl⟩
    rw [← hx] at r1 r2
    have r1 : A.rd g ((0 + bif c.beq (Int.toNat 0) then 0 else Int.toNat 0 * 4) + k * 4) 4 = some [.int .i64 u1, .int .u8 u2, .int .i64 u3, .int .i64 u4] := r1
    have r2 : A.rd g' (o' + k * 4) 4 = some [.int .i64 u1, .int .u8 u2, .int .i64 u3, .int .i64 u4] := r2
    conv => lhs; whnf
    repeat (first | refine go_dec h1i ?_ | refine go_in i0 ?_ | refine go_in i1 ?_ | refine go_rd r1 ?_ | refine go_rd r2 ?_
            conv => lhs; whnf)
    refine go_D hD (by kernel_rfl) ?_
    conv => lhs; whnf
    refine split_b (fun hb => absurd hb (by simp)) (fun _ => ?_)
    conv => lhs; whnf
    repeat (first | refine no_dec h1n ?_ | refine go_dec h1n ?_
            conv => lhs; whnf)
    exact (hD _).2 ⟨(k + 1 : Nat), ⟨⟨hk2, trivial⟩, ⟨inc_slot (by omega), trivial⟩, trivial, rfl⟩, hmu, ⟨same1 rfl rfl, same1 rfl rfl, same1 rfl rfl, trivial⟩, trivial⟩
  · have h1i : ¬ (k : Int) < (l.length : Int) := by omega
    have h1n : (l.length : Int) ≤ (k : Int) := by omega
    have hwk : IntKind.i64.wrap ((k : Int) - (l.length : Int)) = ((k - l.length : Nat) : Int) := by
      rw [Sx.wrap_i64 (by omega) (by omega)]; omega
    have r1 : A.rd g ((0 + bif c.beq (Int.toNat 0) then 0 else Int.toNat 0 * 4) + k * 4) 4 = some [.int .i64 (mkI 1 ((k - l.length : Nat) : Int)), .int .u8 0, .int .i64 0, .int .i64 0] := by
      rw [off0]
      have h9 := rd_at hrow (i := k * 4) (m := 4) (by omega)
      have h8 := markM_at (memCells_len l) (k - l.length) (by omega)
      rw [show l.length + (k - l.length) = k by omega] at h8
      rw [h8] at h9
      exact h9
    conv => lhs; whnf
    repeat (first | refine no_dec h1i ?_ | refine go_dec h1n ?_ | refine go_in i0 ?_ | refine go_rd r1 ?_
            conv => lhs; whnf)
    refine (hD _).2 ⟨((1 : Int), IntKind.i64.wrap ((k : Int) - (l.length : Int))), rfl, fun v A9 hq => ?_⟩
    obtain ⟨h9, hv⟩ : A9 = A ∧ v = mbV [.int .i64 (mkI 1 (IntKind.i64.wrap ((k : Int) - (l.length : Int)))), .int .u8 0, .int .i64 0, .int .i64 0] := hq
    subst h9
    rw [hwk] at hv
    subst hv
    conv => lhs; whnf
    repeat (first | refine no_dec h1i ?_ | refine go_dec h1n ?_ | refine go_in i0 ?_ | refine go_rd r1 ?_ | refine go_D hD rfl ?_
            conv => lhs; whnf)
    refine go_D hD (by kernel_rfl) ?_
    conv => lhs; whnf
    repeat (refine go_D hD rfl ?_
            conv => lhs; whnf)
    refine split_b (fun hb => absurd hb (by simp)) (fun _ => ?_)
    conv => lhs; whnf
    exact (hD _).2 ⟨(k + 1 : Nat), ⟨⟨hk2, trivial⟩, ⟨inc_slot (by omega), trivial⟩, trivial, rfl⟩, hmu, ⟨same1 rfl rfl, same1 rfl rfl, same1 rfl rfl, trivial⟩, trivial⟩

end
end Go.Proofs.YtmhnhkigbfdapaaGreatDoor

namespace Go.Proofs.YtmhnhkigbfdapaaGreatDoor
open Go.Sx Go.RowKit
noncomputable section
open Classical

/-! ### Bytes -/

def sameBytesS : FSpec := ⟨List UInt8 × List UInt8, fun g vs A => ∃ x y, vs = [x, y] ∧ SlB A x g.1 ∧ SlB A y g.2, fun g _ A v A' => A' = A ∧ v = .bool (decide (g.1 = g.2))⟩

set_option maxRecDepth 100000 in
set_option maxHeartbeats 0 in
theorem sameBytes_ok : FOk Tryz.prog 65 sameBytesS := by
  refine fok_v mixed fun ⟨ls, bs⟩ vs A hp => ?_
  simp only [sameBytesS] at hp
  obtain ⟨x, y, rfl, ⟨⟨ao, c, rfl, hc, _, ha1, ha2, ha3⟩, hxl⟩, ⟨bo, d, rfl, hd, _, hb1, hb2, hb3⟩, hyl⟩ := hp
  refine ⟨noC, tabO Tryz.prog noC noL 60 [(65, 0)], 60, noC_sound _, tabO_sound mixed (noC_sound _) (noL_sound _) _ _, fun blk os out tape D hD => ?_⟩
  conv => lhs; whnf
  refine split_b (fun hb => ?_) (fun hb => ?_) <;> (conv => lhs; whnf)
  · refine (hD _).2 ⟨rfl, ?_⟩
    have : ls ≠ bs := fun e => by subst e; simp at hb
    simp [this]
  · have hlen : ls.length = bs.length := by
      have : (ls.length : Int) = bs.length := by simpa using hb
      omega
    refine (hD _).2 ⟨cnt A 5 [0, 1] [] ls.length fun k => ls.take k = bs.take k, ⟨(0 : Nat), ⟨Nat.zero_le _, rfl⟩, ⟨rfl, trivial⟩, trivial, rfl⟩, fun (k : Nat) hk => ⟨⟨trivial, trivial⟩, trivial, ?_⟩⟩
    simp only [cnt] at hk
    conv => lhs; whnf
    refine split_dec (fun hlt => ?_) (fun hb => ?_) <;> (conv => lhs; whnf)
    · have hlt : k < ls.length := by omega
      obtain ⟨g, o, rfl, hra⟩ := Sl.at_ hc ha1 ha2 ha3 (by omega)
      obtain ⟨g', o', rfl, hrb⟩ := Sl.at_ hd hb1 hb2 hb3 (by omega)
      conv => lhs; whnf
      refine split_in (fun _ _ => ?_) (fun h => by omega)
      conv => lhs; whnf
      refine go_rd (byte_at hra k hlt rfl) ?_
      conv => lhs; whnf
      refine split_in (fun _ _ => ?_) (fun h => by omega)
      conv => lhs; whnf
      refine go_rd (byte_at hrb k (by omega) rfl) ?_
      conv => lhs; whnf
      refine split_b (fun hb => ?_) (fun hb => ?_) <;> (conv => lhs; whnf)
      · refine (hD _).2 ⟨rfl, ?_⟩
        have : ls ≠ bs := fun e => by subst e; simp at hb
        simp [this]
      · have he : ls[k] = bs[k] := by
          have : (ls[k].toNat : Int) = bs[k].toNat := by simpa using hb
          exact UInt8.toNat_inj.1 (by omega)
        refine (hD _).2 ⟨(k + 1 : Nat), ⟨⟨by omega, ?_⟩, ⟨inc_slot (by omega), trivial⟩, trivial, rfl⟩, ?_, ⟨rfl, rfl, trivial⟩, trivial⟩
        · show ls.take (k + 1) = bs.take (k + 1)
          rw [List.take_succ_eq_append_getElem hlt, List.take_succ_eq_append_getElem (by omega), hk.2, he]
        · show ls.length - (k + 1) < ls.length - k
          omega
    · refine (hD _).2 ⟨rfl, ?_⟩
      have h1 : k = ls.length := by omega
      have : ls = bs := by
        have := hk.2
        rw [h1, List.take_length, hlen, List.take_length] at this
        exact this
      simp [this]

end
end Go.Proofs.YtmhnhkigbfdapaaGreatDoor

namespace Go.Proofs.YtmhnhkigbfdapaaGreatDoor
open Go.Sx Go.RowKit
noncomputable section
open Classical

mutual
def dSz : DeedD → Nat
  | .mk _ parts => dSzs parts + 1
def dSzs : List DeedD → Nat
  | [] => 0
  | d :: ds => dSz d + dSzs ds
end

theorem dSz_at : ∀ {ds : List DeedD} {k : Nat} (h : k < ds.length), dSz ds[k] ≤ dSzs ds
  | d :: ds, 0, _ => by simp [dSzs]
  | d :: ds, k + 1, h => by
    have := dSz_at (ds := ds) (k := k) (by simpa using h)
    simp only [List.getElem_cons_succ, dSzs]; omega

def sameDeedsT (n : Nat) : FSpec := ⟨List DeedD, fun ds vs A => ∃ x y, vs = [x, y] ∧ (∀ d ∈ ds, dSz d < n) ∧ DeedsS A x ds ∧ DeedsS A y ds, fun _ _ A v A' => A' = A ∧ v = .bool true⟩

def sameDeedT (n : Nat) : FSpec := ⟨DeedD, fun d vs A => ∃ x y, vs = [deedV x, deedV y] ∧ dSz d < n ∧ DeedR A d x ∧ DeedR A d y, fun _ _ A v A' => A' = A ∧ v = .bool true⟩

/-- A deed's cells, all of them open. -/
theorem _root_.Go.Sx.DeedR.forms {B : Arena} {d : DeedD} {cs : List Value} (h : DeedR B d cs) : ∃ (c0 c1 c2 c3 c4 c5 : Int) (c6 : ByteArray) (a7 : Option Addr) (l7 k7 : Nat) (c8 c9 c10 c11 c12 c13 : Int) (a14 : Option Addr) (l14 k14 : Nat) (a15 : Option Addr) (l15 k15 : Nat),
    cs = [.int .i64 c0, .int .u8 c1, .int .i64 c2, .int .i64 c3, .int .i64 c4, .int .i64 c5, .string c6, .slice a7 l7 k7, .int .i64 c8, .int .i64 c9, .int .i64 c10, .int .i64 c11, .int .i64 c12, .int .i64 c13, .slice a14 l14 k14, .slice a15 l15 k15] := by
  obtain ⟨a7, l7, k7, a14, l14, k14, a15, l15, k15, rfl⟩ := h.form
  exact ⟨_, _, _, _, _, _, _, _, _, _, _, _, _, _, _, _, _, _, _, _, _, _, rfl⟩

set_option maxRecDepth 100000 in
set_option maxHeartbeats 0 in
theorem sameDeedsT_of (m : Nat) (ih : FOk Tryz.prog 36 (sameDeedT m)) : FOk Tryz.prog 67 (sameDeedsT m) := by
  refine fok_v mixed fun (ls : List DeedD) vs A hp => ?_
  simp only [sameDeedsT] at hp
  obtain ⟨x, y, rfl, hsz, ⟨r1, ⟨ao, c, rfl, hc, _, ha1, ha2, ha3⟩, hxl, hx⟩, r2, ⟨bo, d, rfl, hd, _, hb1, hb2, hb3⟩, hyl, hy⟩ := hp
  have hC : CTSound Tryz.prog (lookC [specE 36 (sameDeedT m)] noC) := lookC_sound (noC_sound _) (fun x hx => by
    simp only [List.mem_singleton] at hx
    subst hx; exact specE_ok ih)
  refine ⟨_, tabO Tryz.prog _ noL 60 [(67, 0)], 60, hC, tabO_sound mixed hC (noL_sound _) _ _, fun blk os out tape D hD => ?_⟩
  have hend : (sameDeedsT m).post ls [] A (.bool true) A := ⟨rfl, rfl⟩
  conv => lhs; whnf
  refine split_nd (fun _ => ?_) (fun h => absurd rfl h)
  conv => lhs; whnf
  refine (hD _).2 ⟨cnt A 5 [0, 1] [] ls.length fun _ => True, ⟨(0 : Nat), ⟨Nat.zero_le _, trivial⟩, ⟨rfl, trivial⟩, trivial, rfl⟩, fun (k : Nat) hk => ⟨⟨trivial, trivial⟩, trivial, ?_⟩⟩
  simp only [cnt] at hk
  conv => lhs; whnf
  refine split_dec (fun hlt => ?_) (fun hlt => ?_)
  rotate_left
  · conv => lhs; whnf
    exact (hD _).2 hend
  have hlt : (k : Int) < (ls.length : Int) := hlt
  have hkl : k < ls.length := by omega
  have i0 : (0 : Int) ≤ (k : Int) ∧ (k : Int) < (ls.length : Int) := by omega
  obtain ⟨g, o, rfl, hra⟩ := Sl.at_ hc ha1 ha2 ha3 (by omega)
  obtain ⟨g', o', rfl, hrb⟩ := Sl.at_ hd hb1 hb2 hb3 (by omega)
  obtain ⟨c1, hc1, hd1⟩ := deed_at hra hx k hkl rfl
  obtain ⟨c2, hc2, hd2⟩ := deed_at hrb hy k hkl rfl
  have hd10 := hd1
  have hd20 := hd2
  obtain ⟨_, _, _, _, _, _, _, _, _, _, _, _, _, _, _, _, _, _, _, _, _, _, rfl⟩ := hd1.forms
  obtain ⟨_, _, _, _, _, _, _, _, _, _, _, _, _, _, _, _, _, _, _, _, _, _, rfl⟩ := hd2.forms
  conv => lhs; whnf
  repeat (first | refine go_in i0 ?_ | refine go_rd hc1 ?_ | refine go_rd hc2 ?_ | refine go_D hD rfl ?_
          conv => lhs; whnf)
  refine (hD _).2 ⟨ls[k], ⟨_, _, rfl, hsz _ (List.getElem_mem _), hd10, hd20⟩, fun v A' hq => ?_⟩
  obtain ⟨e1, e2⟩ : A' = A ∧ v = .bool true := hq
  subst e1; subst e2
  conv => lhs; whnf
  exact (hD _).2 ⟨(k + 1 : Nat), ⟨⟨hkl, trivial⟩, ⟨inc_slot (by omega), trivial⟩, trivial, rfl⟩, by show ls.length - (k + 1) < ls.length - k; omega, ⟨same1 rfl rfl, same1 rfl rfl, trivial⟩, trivial⟩

set_option maxRecDepth 100000 in
set_option maxHeartbeats 0 in
theorem sameDeedT_of (m : Nat) (ih : FOk Tryz.prog 67 (sameDeedsT m)) : FOk Tryz.prog 36 (sameDeedT (m + 1)) := by
  refine fok_v mixed fun d vs A hp => ?_
  simp only [sameDeedT] at hp
  obtain ⟨x, y, rfl, hsz, hx, hy⟩ := hp
  obtain ⟨⟨zxid, kind, ses, turn, xid, time, path, data, owner, ver, cver, tmo, err, cfg, mem⟩, parts⟩ := d
  rw [DeedR] at hx hy
  obtain ⟨vd, vm, vp, rows, rfl, hx0, hx1, hx2, hx3, hx4, hx5⟩ := hx
  obtain ⟨vd', vm', vp', rows', rfl, hy0, hy1, hy2, hy3, hy4, hy5⟩ := hy
  have hC : CTSound Tryz.prog (lookC [specE 67 (sameDeedsT m), specE 65 sameBytesS, specE 84 sameMembersS] noC) := lookC_sound (noC_sound _) (fun x hx => by
    simp only [List.mem_cons, List.not_mem_nil, or_false] at hx
    rcases hx with rfl | rfl | rfl
    · exact specE_ok ih
    · exact specE_ok sameBytes_ok
    · exact specE_ok sameMembers_ok)
  have hparts : ∀ d ∈ parts, dSz d < m := fun d hd => by
    obtain ⟨k, hk, rfl⟩ := List.getElem_of_mem hd
    have := dSz_at hk
    simp only [dSz] at hsz
    omega
  obtain ⟨a7, k7, rfl⟩ := hx1.1.form
  obtain ⟨a14, k14, rfl⟩ := hx2.1.form
  obtain ⟨a15, k15, rfl⟩ := hx3.form
  obtain ⟨b7, j7, rfl⟩ := hy1.1.form
  obtain ⟨b14, j14, rfl⟩ := hy2.1.form
  obtain ⟨b15, j15, rfl⟩ := hy3.form
  have hbl : beqL path.data.toList path.data.toList = true := beqL_iff.2 rfl
  have hend : (sameDeedT (m + 1)).post (.mk ⟨zxid, kind, ses, turn, xid, time, path, data, owner, ver, cver, tmo, err, cfg, mem⟩ parts) [] A (.bool true) A := ⟨rfl, rfl⟩
  refine ⟨_, noL, 60, hC, noL_sound _, fun blk os out tape D hD => ?_⟩
  conv => lhs; whnf
  repeat (first | refine go_dec rfl ?_ | refine go_b hbl ?_
          conv => lhs; whnf)
  refine (hD _).2 ⟨(data, data), ⟨_, _, rfl, hx1, hy1⟩, fun v A' hq => ?_⟩
  obtain ⟨q1, q2⟩ : A' = A ∧ v = .bool (decide (data = data)) := hq
  rw [decide_eq_true rfl] at q2
  subst q1; subst q2
  conv => lhs; whnf
  repeat (first | refine go_dec rfl ?_ | refine go_b hbl ?_
          conv => lhs; whnf)
  refine (hD _).2 ⟨(mem, mem), ⟨_, _, rfl, hx2, hy2⟩, fun v A1 hq => ?_⟩
  obtain ⟨q1, q2⟩ : A1 = A' ∧ v = .bool (decide (mem = mem)) := hq
  rw [decide_eq_true rfl] at q2
  subst q1; subst q2
  conv => lhs; whnf
  repeat (first | refine go_dec rfl ?_ | refine go_b hbl ?_
          conv => lhs; whnf)
  refine (hD _).2 ⟨parts, ⟨_, _, rfl, hparts, ⟨rows, hx3, hx4, hx5⟩, rows', hy3, hy4, hy5⟩, fun v A2 hq => ?_⟩
  obtain ⟨q1, q2⟩ : A2 = A1 ∧ v = .bool true := hq
  subst q1; subst q2
  conv => lhs; whnf
  exact (hD _).2 hend

theorem sameDeedT_all : ∀ m, FOk Tryz.prog 36 (sameDeedT m)
  | 0 => fun g vs A w _ hp => by obtain ⟨_, _, _, h, _⟩ := hp; omega
  | m + 1 => sameDeedT_of m (sameDeedsT_of m (sameDeedT_all m))

def sameDeedT' : FSpec := ⟨DeedD, fun d vs A => ∃ x y, vs = [deedV x, deedV y] ∧ DeedR A d x ∧ DeedR A d y, fun _ _ A v A' => A' = A ∧ v = .bool true⟩

theorem sameDeedT_ok : FOk Tryz.prog 36 sameDeedT' := fun d vs A w hA ⟨x, y, h1, h2, h3⟩ =>
  sameDeedT_all (dSz d + 1) d vs A w hA ⟨x, y, h1, Nat.lt_succ_self _, h2, h3⟩

end
end Go.Proofs.YtmhnhkigbfdapaaGreatDoor

namespace Go.Proofs.YtmhnhkigbfdapaaGreatDoor
open Go.Sx Go.RowKit
noncomputable section
open Classical

def lentDeedsS (n : Nat) : FSpec := ⟨List DeedD, fun ds vs A => ∃ x, vs = [x] ∧ (∀ d ∈ ds, dSz d < n) ∧ DeedsS A x ds,
  fun ds _ A v A' => A.Sub A' ∧ ∃ g c rows L, v = .slice (some ⟨g, 0, none⟩) ds.length c ∧ A.blk g = none ∧ LRow A' g 16 36 (ds.length + 12) c (rows.flatten ++ marksD 12) ∧ LentDsR A' ds rows L ∧ (∀ k ∈ L, A.blk k = none) ∧ (g :: L).Nodup⟩

def lentDeedS (n : Nat) : FSpec := ⟨DeedD, fun d vs A => ∃ cs, vs = [deedV cs] ∧ dSz d < n ∧ DeedR A d cs,
  fun d _ A v A' => A.Sub A' ∧ ∃ cs L, v = deedV cs ∧ LentDR A' d cs L ∧ ∀ k ∈ L, A.blk k = none⟩

theorem fresh_neD {A : Arena} {L : List Nat} {g : Nat} {o : Obj} (hL : ∀ k ∈ L, A.blk k = none) (hg : A.blk g = some o) : g ∉ L := fun h => by
  have := hL g h
  rw [hg] at this; cases this

set_option maxRecDepth 100000 in
set_option maxHeartbeats 0 in
theorem lentDeed_of (m : Nat) (ih : FOk Tryz.prog 33 (lentDeedsS m)) : FOk Tryz.prog 18 (lentDeedS (m + 1)) := by
  refine fok_v mixed fun d vs A hp => ?_
  simp only [lentDeedS] at hp
  obtain ⟨x, rfl, hsz, hx⟩ := hp
  obtain ⟨⟨zxid, kind, ses, turn, xid, time, path, data, owner, ver, cver, tmo, err, cfg, mem⟩, parts⟩ := d
  rw [DeedR] at hx
  obtain ⟨vd, vm, vp, rows, rfl, hx0, hx1, hx2, hx3, hx4, hx5⟩ := hx
  have hC : CTSound Tryz.prog (lookC [specE 33 (lentDeedsS m), specE 31 lentBytesS, specE 57 lentMembersS] noC) := lookC_sound (noC_sound _) (fun x hx => by
    simp only [List.mem_cons, List.not_mem_nil, or_false] at hx
    rcases hx with rfl | rfl | rfl
    · exact specE_ok ih
    · exact specE_ok lentBytes_ok
    · exact specE_ok lentMembers_ok)
  have hparts : ∀ d ∈ parts, dSz d < m := fun d hd => by
    obtain ⟨k, hk, rfl⟩ := List.getElem_of_mem hd
    have := dSz_at hk
    simp only [dSz] at hsz
    omega
  refine ⟨_, noL, 60, hC, noL_sound _, fun blk os out tape D hD => ?_⟩
  conv => lhs; whnf
  refine (hD _).2 ⟨data, ⟨vd, rfl, hx1⟩, fun v A1 hq => ?_⟩
  have hq : A.Sub A1 ∧ ∃ g c, v = .slice (some ⟨g, 0, none⟩) data.length c ∧ A.blk g = none ∧ LRow A1 g 1 5 (data.length + 12) c (data.map bv ++ marksB 12) := hq
  obtain ⟨s1, g1, c1, hv, hg1, hL1⟩ := hq
  subst hv
  conv => lhs; whnf
  repeat (refine go_D hD rfl ?_
          conv => lhs; whnf)
  refine (hD _).2 ⟨mem, ⟨vm, rfl, hx2.sub s1⟩, fun v A2 hq => ?_⟩
  have hq : A1.Sub A2 ∧ ∃ g c, v = .slice (some ⟨g, 0, none⟩) mem.length c ∧ A1.blk g = none ∧ LRow A2 g 4 119 (mem.length + 12) c (memCells mem ++ marksM 12) := hq
  obtain ⟨s2, g2, c2, hv, hg2, hL2⟩ := hq
  subst hv
  have s12 := s1.trans s2
  conv => lhs; whnf
  repeat (refine go_D hD rfl ?_
          conv => lhs; whnf)
  refine (hD _).2 ⟨parts, ⟨vp, rfl, hparts, rows, hx3.sub s12, hx4, DeedsR.sub s12 _ _ hx5⟩, fun v A3 hq => ?_⟩
  have hq : A2.Sub A3 ∧ ∃ g c rows L, v = .slice (some ⟨g, 0, none⟩) parts.length c ∧ A2.blk g = none ∧ LRow A3 g 16 36 (parts.length + 12) c (rows.flatten ++ marksD 12) ∧ LentDsR A3 parts rows L ∧ (∀ k ∈ L, A2.blk k = none) ∧ (g :: L).Nodup := hq
  obtain ⟨s3, g3, c3, rows3, L3, hv, hg3, hL3, hLs, hLn, hnd⟩ := hq
  subst hv
  have up : ∀ {X Y : Arena} {k : Nat}, X.Sub Y → Y.blk k = none → X.blk k = none := fun {X Y k} hs h => by
    cases hX : X.blk k with
    | none => rfl
    | some o => rw [hs k o hX] at h; cases h
  have hend : (lentDeedS (m + 1)).post (.mk ⟨zxid, kind, ses, turn, xid, time, path, data, owner, ver, cver, tmo, err, cfg, mem⟩ parts) [] A (deedV [.int .i64 zxid, .int .u8 kind, .int .i64 ses, .int .i64 turn, .int .i64 xid, .int .i64 time, .string path, .slice (some ⟨g1, 0, none⟩) data.length c1, .int .i64 owner, .int .i64 ver, .int .i64 cver, .int .i64 tmo, .int .i64 err, .int .i64 cfg, .slice (some ⟨g2, 0, none⟩) mem.length c2, .slice (some ⟨g3, 0, none⟩) parts.length c3]) A3 := by
    obtain ⟨b1, hb1, _⟩ := hL1.at_
    obtain ⟨b2, hb2, _⟩ := hL2.at_
    have n12 : g1 ≠ g2 := fun e => by rw [← e, hb1] at hg2; cases hg2
    have n13 : g1 ≠ g3 := fun e => by rw [← e, s2 _ _ hb1] at hg3; cases hg3
    have n23 : g2 ≠ g3 := fun e => by rw [← e, hb2] at hg3; cases hg3
    have m1 := fresh_neD hLn (s2 _ _ hb1)
    have m2 := fresh_neD hLn hb2
    refine ⟨s12.trans s3, _, g1 :: g2 :: g3 :: L3, rfl, ?_, fun k hk => ?_⟩
    · rw [LentDR]
      refine ⟨g1, g2, g3, c1, c2, c3, rows3, L3, rfl, hx0, hL1.sub (s2.trans s3), hL2.sub s3, hL3, hx1.2, hx2.2, hx4, hLs, rfl, ?_⟩
      simp only [List.nodup_cons, List.mem_cons, not_or] at hnd ⊢
      exact ⟨⟨n12, n13, m1⟩, ⟨n23, m2⟩, hnd⟩
    · simp only [List.mem_cons] at hk
      rcases hk with rfl | rfl | rfl | hk
      · exact hg1
      · exact up s1 hg2
      · exact up s12 hg3
      · exact up s12 (hLn k hk)
  conv => lhs; whnf
  repeat (refine go_D hD rfl ?_
          conv => lhs; whnf)
  exact (hD _).2 hend

structure LdG where
  k : Nat
  A : Arena
  rows : List (List Value)
  L : List Nat

structure LdI (A0 : Arena) (g c : Nat) (ds : List DeedD) (s : LdG) : Prop where
  le : s.k ≤ ds.length
  sub : A0.Sub s.A
  row : LRow s.A g 16 36 s.k c s.rows.flatten
  lents : LentDsR s.A (ds.take s.k) s.rows s.L
  new : ∀ j ∈ s.L, A0.blk j = none
  nd : (g :: s.L).Nodup

def lentDeedsInv1 (A0 : Arena) (g c : Nat) (ds : List DeedD) : LInv :=
  { γ := LdG, G := LdI A0 g c ds, keepS := [0], keepB := [], sl := fun s => [(4, .v (.int .i64 s.k)), (3, .v (.slice (some ⟨g, 0, none⟩) s.k c))], bl := fun _ => [], ar := fun s => s.A, mu := fun s => ds.length - s.k }

def lentDeedsInv2 (A0 : Arena) (g c : Nat) (ds : List DeedD) (rows : List (List Value)) (L : List Nat) : LInv :=
  { γ := LbG, G := fun s => s.k ≤ 12 ∧ A0.Sub s.A ∧ LRow s.A g 16 36 (ds.length + s.k) c (rows.flatten ++ marksD s.k) ∧ LentDsR s.A ds rows L,
    keepS := [0], keepB := [], sl := fun s => [(6, .v (.int .i64 s.k)), (3, .v (.slice (some ⟨g, 0, none⟩) (ds.length + s.k) c))], bl := fun _ => [], ar := fun s => s.A, mu := fun s => 12 - s.k }

/-- A mark's cells. -/
def markK (k i : Int) : List Value := [.int .i64 (mkI k i), .int .u8 0, .int .i64 0, .int .i64 0, .int .i64 0, .int .i64 0, .string ⟨#[]⟩, .slice none 0 0, .int .i64 0, .int .i64 0, .int .i64 0, .int .i64 0, .int .i64 0, .int .i64 0, .slice none 0 0, .slice none 0 0]

def markDeedS : FSpec := ⟨Int × Int, fun g vs _ => vs = [.int .i64 g.1, .int .i64 g.2], fun g _ A v A' => A' = A ∧ v = deedV (markK g.1 g.2)⟩

set_option maxRecDepth 100000 in
set_option maxHeartbeats 0 in
theorem markDeed_ok : FOk Tryz.prog 58 markDeedS := by
  refine fok_v mixed fun ⟨k, i⟩ vs A hp => ?_
  obtain rfl : vs = [.int .i64 k, .int .i64 i] := hp
  refine ⟨noC, noL, 60, noC_sound _, noL_sound _, fun blk os out tape D hD => ?_⟩
  conv => lhs; whnf
  exact (hD _).2 ⟨rfl, rfl⟩

theorem markK_one (k i : Int) : ∀ v ∈ markK k i, v.oneCell' = true := fun v hv => by
  simp only [markK, List.mem_cons, List.not_mem_nil, or_false] at hv
  rcases hv with rfl | rfl | rfl | rfl | rfl | rfl | rfl | rfl | rfl | rfl | rfl | rfl | rfl | rfl | rfl | rfl <;> rfl

theorem LentDR.nodup {A : Arena} {d : DeedD} {cs : List Value} {L : List Nat} (h : LentDR A d cs L) : L.Nodup := by
  cases d
  rw [LentDR] at h
  obtain ⟨_, _, _, _, _, _, _, _, _, _, _, _, _, _, _, _, _, _, h⟩ := h
  exact h

theorem marksD_succ (k : Nat) : marksD (k + 1) = marksD k ++ markDd 1 k := by
  unfold marksD
  rw [List.range_succ, List.flatMap_append, List.flatMap_singleton]

theorem keep_sameD {A A2 A3 : Arena} {g : Nat} (hs : A.Sub A2) (ho : ∀ k, k ≠ g → A3.blk k = A2.blk k) {L : List Nat} (hl : ∀ k ∈ L, ∃ o, A.blk k = some o) (hg : g ∉ L) : ∀ k ∈ L, A3.blk k = A.blk k := fun k hk => by
  obtain ⟨o, h⟩ := hl k hk
  rw [ho k fun e => hg (e ▸ hk), hs k o h, h]

set_option maxRecDepth 100000 in
set_option maxHeartbeats 0 in
theorem lentDeeds_of (m : Nat) (ih : FOk Tryz.prog 18 (lentDeedS m)) : FOk Tryz.prog 33 (lentDeedsS m) := by
  refine fok_v mixed fun (ds : List DeedD) vs A hp => ?_
  obtain ⟨x, rfl, hsz, rows0, hS, hlen, hR⟩ : ∃ x, vs = [x] ∧ (∀ d ∈ ds, dSz d < m) ∧ DeedsS A x ds := hp
  obtain ⟨ao, c1, rfl, hc, hl, ha1, ha2, ha3⟩ := hS
  have hC : CTSound Tryz.prog (lookC [specE 18 (lentDeedS m), specE 58 markDeedS] noC) := lookC_sound (noC_sound _) (fun x hx => by
    simp only [List.mem_cons, List.not_mem_nil, or_false] at hx
    rcases hx with rfl | rfl
    · exact specE_ok ih
    · exact specE_ok markDeed_ok)
  refine ⟨_, tabO Tryz.prog _ noL 60 [(33, 0), (33, 2)], 60, hC, tabO_sound mixed hC (noL_sound _) _ _, fun blk os out tape D hD => ?_⟩
  have hw : IntKind.i64.wrap ((ds.length : Int) + 12) = ((ds.length + 12 : Nat) : Int) := by
    rw [Sx.wrap_i64 (by omega) (by omega)]; omega
  obtain ⟨c, hcd⟩ : ∃ c : Nat, c = (IntKind.i64.wrap ((ds.length : Int) + 12)).toNat := ⟨_, rfl⟩
  have hce : c = ds.length + 12 := by rw [hcd, hw, Int.toNat_natCast]
  have hsl : ds.length * 184 ≤ 140737488351232 := hlen
  conv => lhs; whnf
  refine (hD _).2 ⟨by omega, by rw [hw]; omega, by rw [hw]; omega, by
    rw [← hcd, hce]
    show 184 * (ds.length + 12) ≤ _
    omega, rfl, fun g A1 cc hcl hNw => ?_⟩
  have hNw : A.New A1 g cc 36 := hNw
  have hL0 : LRow A1 g 16 36 0 c [] := by
    refine ⟨⟨cc, hNw.at_, ?_, by simp⟩, Nat.zero_le _, rfl⟩
    rw [← Array.length_toList, hcl, ← hcd]
    simp [List.length_flatten]
    rfl
  conv => lhs; whnf
  refine (hD _).2 ⟨lentDeedsInv1 A g c ds, ⟨(⟨0, A1, [], []⟩ : LdG), ⟨Nat.zero_le _, hNw.sub, hL0, by
    show LentDsR A1 [] [] []
    rw [LentDsR]; exact ⟨rfl, rfl⟩, fun _ h => (by cases h), List.nodup_cons.2 ⟨List.not_mem_nil, List.nodup_nil⟩⟩, ⟨rfl, by rw [hcd]; rfl, trivial⟩, trivial, rfl⟩, fun (s : LdG) hG => ⟨⟨trivial, trivial, trivial⟩, trivial, ?_⟩⟩
  obtain ⟨k, As, rs, L⟩ := s
  obtain ⟨hk, hsA, hrow, hlents, hnew, hnd⟩ : LdI A g c ds ⟨k, As, rs, L⟩ := hG
  dsimp only at hk hsA hrow hlents hnew hnd
  have hgAs : ∃ o, As.blk g = some o := by
    obtain ⟨cc, h1, _⟩ := hrow.at_
    exact ⟨_, h1⟩
  obtain ⟨og, hgAs⟩ := hgAs
  have hgL : g ∉ L := (List.nodup_cons.1 hnd).1
  conv => lhs; whnf
  refine split_dec (fun hlt => ?_) (fun hlt => ?_)
  rotate_left
  · have hlt : ¬ (k : Int) < (ds.length : Int) := hlt
    obtain rfl : k = ds.length := by omega
    rw [List.take_length] at hlents
    conv => lhs; whnf
    refine (hD _).2 ⟨lentDeedsInv2 A g c ds rs L, ⟨(⟨0, As⟩ : LbG), ⟨Nat.zero_le _, hsA, by
      show LRow As g 16 36 (ds.length + 0) c (rs.flatten ++ [])
      rw [Nat.add_zero, List.append_nil]
      exact hrow, hlents⟩, ⟨rfl, rfl, trivial⟩, trivial, rfl⟩, fun (s : LbG) hG => ⟨⟨trivial, trivial, trivial⟩, trivial, ?_⟩⟩
    obtain ⟨j, At⟩ := s
    obtain ⟨hj, hsT, hrowT, hlentsT⟩ : j ≤ 12 ∧ A.Sub At ∧ LRow At g 16 36 (ds.length + j) c (rs.flatten ++ marksD j) ∧ LentDsR At ds rs L := hG
    conv => lhs; whnf
    refine split_dec (fun hlt2 => ?_) (fun hlt2 => ?_)
    rotate_left
    · have hlt2 : ¬ (j : Int) < 12 := hlt2
      have h12 : j = 12 := by omega
      subst h12
      have hle1 : (ds.length : Int) ≤ (c : Int) := by omega
      have hend : (lentDeedsS m).post ds [] A (.slice (some ⟨g, 0, none⟩) ds.length c) At := ⟨hsT, g, c, rs, L, rfl, hNw.none_, hrowT, hlentsT, hnew, hnd⟩
      conv => lhs; whnf
      refine go_dec hle1 ?_
      conv => lhs; whnf
      refine (hD _).2 ?_
      show (lentDeedsS m).post ds [] A (.slice (some ⟨g, 0 + (bif c.beq (Int.toNat 0) then 0 else Int.toNat 0 * 16), none⟩) (Int.toNat (ds.length : Int) - Int.toNat 0) (c - Int.toNat 0)) At
      rw [win0]
      exact hend
    have hlt2 : (j : Int) < 12 := hlt2
    conv => lhs; whnf
    refine (hD _).2 ⟨((1 : Int), (j : Int)), rfl, fun v A9 hq => ?_⟩
    obtain ⟨h9, hv⟩ : A9 = At ∧ v = deedV (markK 1 j) := hq
    subst h9; subst hv
    conv => lhs; whnf
    refine (hD _).2 fun gb A5 hN5 => ?_
    have hN5 : A9.New A5 gb (markK 1 j).toArray 36 := hN5
    have hrow5 : A5.rd gb 0 (1 * 16) = some (markK 1 j) := hN5.rd (o := 0) (n := 1 * 16) (by show 0 + 1 * 16 ≤ 16; omega)
    have hL5 := hrowT.sub hN5.sub
    conv => lhs; whnf
    refine (hD _).2 ⟨rs.flatten ++ marksD j, markK 1 j, hL5.base, by
      show (if 1 * 16 = 0 then some [] else A5.rd gb 0 (1 * 16)) = _
      rw [if_neg (by omega)]; exact hrow5, rfl, markK_one 1 j, by
      show ds.length + j + 1 ≤ _
      omega, fun h9 => (by
      have h9 : c < ds.length + j + 1 := h9
      omega), rfl, fun h => (by cases h), fun g' o' hb _ _ => (by
      injection hb with hb
      injection hb with e1 e2
      subst e1; subst e2
      refine hL5.room ?_
      show 0 + (ds.length + j) * 16 + 16 ≤ _
      omega), fun v A6 hA6 => ?_⟩
    obtain ⟨hv, hL6, hs6, ho6⟩ := lent_step hsT hNw.none_ hrowT hN5 (by omega) rfl hA6
    subst hv
    have e6 : rs.flatten ++ marksD (j + 1) = rs.flatten ++ marksD j ++ markK 1 j := by rw [marksD_succ, List.append_assoc]; rfl
    rw [← e6] at hL6
    conv => lhs; whnf
    exact (hD _).2 ⟨(⟨j + 1, A6⟩ : LbG), ⟨⟨by show j + 1 ≤ 12; omega, hs6, hL6, hlentsT.keep fun q hq => by
      obtain ⟨o, ho⟩ := hlentsT.live q hq
      rw [ho, ho6 q o (fun e => hgL (e ▸ hq)) ho]⟩, ⟨inc_slot (by omega), rfl, trivial⟩, trivial, rfl⟩, by show 12 - (j + 1) < 12 - j; omega, ⟨same1 rfl rfl, trivial⟩, trivial⟩
  have hlt : (k : Int) < (ds.length : Int) := hlt
  have hkl : k < ds.length := by omega
  obtain ⟨g', o', e, hra⟩ := Sl.at_ hc ha1 ha2 ha3 (by omega)
  subst e
  obtain ⟨ce, hce1, hde⟩ := deed_at hra hR k hkl rfl
  have hce2 := rd_sub hsA hce1
  have hde := DeedR.sub hsA _ _ hde
  have hde0 := hde
  obtain ⟨p0, p1, p2, p3, p4, p5, p6, q7, u7, n7, p8, p9, p10, p11, p12, p13, q14, u14, n14, q15, u15, n15, rfl⟩ := hde.forms
  have i0 : (0 : Int) ≤ (k : Int) ∧ (k : Int) < (ds.length : Int) := by omega
  conv => lhs; whnf
  repeat (first | refine go_in i0 ?_ | refine go_rd hce2 ?_
          conv => lhs; whnf)
  refine (hD _).2 ⟨ds[k], ⟨_, rfl, hsz _ (List.getElem_mem _), hde0⟩, fun v A2 hq => ?_⟩
  have hq : As.Sub A2 ∧ ∃ cs L, v = deedV cs ∧ LentDR A2 ds[k] cs L ∧ ∀ k ∈ L, As.blk k = none := hq
  obtain ⟨s2, cs2, L2, hv, hlr, hn2⟩ := hq
  subst hv
  obtain ⟨p0, p1, p2, p3, p4, p5, p6, q7, u7, n7, p8, p9, p10, p11, p12, p13, q14, u14, n14, q15, u15, n15, hcs2⟩ := hlr.ask.forms
  subst hcs2
  obtain ⟨cs2, hcs2⟩ : ∃ cs2 : List Value, cs2 = [.int .i64 p0, .int .u8 p1, .int .i64 p2, .int .i64 p3, .int .i64 p4, .int .i64 p5, .string p6, .slice q7 u7 n7, .int .i64 p8, .int .i64 p9, .int .i64 p10, .int .i64 p11, .int .i64 p12, .int .i64 p13, .slice q14 u14 n14, .slice q15 u15 n15] := ⟨_, rfl⟩
  rw [← hcs2] at hlr
  have hone := hlr.one
  have hlen16 := hlr.len
  conv => lhs; whnf
  refine (hD _).2 fun gb A5 hN5 => ?_
  have hN5 : A2.New A5 gb #[.int .i64 p0, .int .u8 p1, .int .i64 p2, .int .i64 p3, .int .i64 p4, .int .i64 p5, .string p6, .slice q7 u7 n7, .int .i64 p8, .int .i64 p9, .int .i64 p10, .int .i64 p11, .int .i64 p12, .int .i64 p13, .slice q14 u14 n14, .slice q15 u15 n15] 36 := hN5
  have hrow5 : A5.rd gb 0 (1 * 16) = some cs2 := by
    rw [hcs2]
    exact hN5.rd (o := 0) (n := 1 * 16) (by show 0 + 1 * 16 ≤ 16; omega)
  have hrow2 := hrow.sub s2
  have hL5 := hrow2.sub hN5.sub
  conv => lhs; whnf
  refine (hD _).2 ⟨rs.flatten, cs2, hL5.base, by
    show (if 1 * 16 = 0 then some [] else A5.rd gb 0 (1 * 16)) = _
    rw [if_neg (by omega)]; exact hrow5, hlen16, hone, by
    show k + 1 ≤ _
    omega, fun h9 => (by
    have h9 : c < k + 1 := h9
    omega), rfl, fun h => (by cases h), fun g' o' hb _ _ => (by
    injection hb with hb
    injection hb with e1 e2
    subst e1; subst e2
    refine hL5.room ?_
    show 0 + k * 16 + cs2.length ≤ _
    omega), fun v A6 hA6 => ?_⟩
  obtain ⟨hv, hL6, hs6, ho6⟩ := lent_step (hsA.trans s2) hNw.none_ hrow2 hN5 (by omega) hlen16 hA6
  subst hv
  have hgL2 : g ∉ L2 := fresh_neD hn2 hgAs
  have hG' : LdI A g c ds ⟨k + 1, A6, rs ++ [cs2], L ++ L2⟩ := by
    refine ⟨hkl, hs6, ?_, ?_, fun q hq => ?_, ?_⟩
    · show LRow A6 g 16 36 (k + 1) c (rs ++ [cs2]).flatten
      rw [List.flatten_append, List.flatten_singleton]
      exact hL6
    · show LentDsR A6 (ds.take (k + 1)) (rs ++ [cs2]) (L ++ L2)
      rw [List.take_succ_eq_append_getElem hkl]
      refine (hlents.keep fun q hq => ?_).snoc (hlr.keep fun q hq => ?_)
      · obtain ⟨o, ho⟩ := hlents.live q hq
        rw [ho, ho6 q o (fun e => hgL (e ▸ hq)) (s2 q o ho)]
      · obtain ⟨o, ho⟩ := hlr.live q hq
        rw [ho, ho6 q o (fun e => hgL2 (e ▸ hq)) ho]
    · rcases List.mem_append.1 hq with hq | hq
      · exact hnew q hq
      · cases hA : A.blk q with
        | none => rfl
        | some o => have := hn2 q hq; rw [hsA q o hA] at this; cases this
    · show (g :: (L ++ L2)).Nodup
      rw [List.nodup_cons]
      refine ⟨fun h => ?_, List.nodup_append.2 ⟨(List.nodup_cons.1 hnd).2, hlr.nodup, fun a ha b hb e => ?_⟩⟩
      · rcases List.mem_append.1 h with h | h
        · exact hgL h
        · exact hgL2 h
      · subst e
        obtain ⟨o, ho⟩ := hlents.live a ha
        have := hn2 a hb
        rw [ho] at this; cases this
  conv => lhs; whnf
  exact (hD _).2 ⟨(⟨k + 1, A6, rs ++ [cs2], L ++ L2⟩ : LdG), ⟨hG', ⟨inc_slot (by omega), rfl, trivial⟩, trivial, rfl⟩, by show ds.length - (k + 1) < ds.length - k; omega, ⟨same1 rfl rfl, trivial⟩, trivial⟩

theorem lentDeed_all : ∀ m, FOk Tryz.prog 18 (lentDeedS m)
  | 0 => fun g vs A w _ hp => by obtain ⟨_, _, h, _⟩ := hp; omega
  | m + 1 => lentDeed_of m (lentDeeds_of m (lentDeed_all m))

def lentDeedS' : FSpec := ⟨DeedD, fun d vs A => ∃ cs, vs = [deedV cs] ∧ DeedR A d cs,
  fun d _ A v A' => A.Sub A' ∧ ∃ cs L, v = deedV cs ∧ LentDR A' d cs L ∧ ∀ k ∈ L, A.blk k = none⟩

theorem lentDeed_ok : FOk Tryz.prog 18 lentDeedS' := fun d vs A w hA ⟨x, h1, h2⟩ =>
  lentDeed_all (dSz d + 1) d vs A w hA ⟨x, h1, Nat.lt_succ_self _, h2⟩

end
end Go.Proofs.YtmhnhkigbfdapaaGreatDoor

namespace Go.Proofs.YtmhnhkigbfdapaaGreatDoor
open Go.Sx Go.RowKit
noncomputable section
open Classical

theorem LentDsR.at_ {A : Arena} : ∀ {ds : List DeedD} {rows : List (List Value)} {L : List Nat}, LentDsR A ds rows L → ∀ k (hk : k < ds.length) (hr : k < rows.length), ∃ Lk, LentDR A ds[k] rows[k] Lk
  | [], _, _, _, k, hk, _ => absurd hk (Nat.not_lt_zero _)
  | d :: ds, rows, L, h, k, hk, hr => by
    obtain ⟨r, rs, L1, L2, rfl, h1, h2, rfl⟩ := h.head
    cases k with
    | zero => exact ⟨L1, h1⟩
    | succ k => exact LentDsR.at_ h2 k (by simpa using hk) (by simpa using hr)

theorem lentDs_flat {A : Arena} {ds : List DeedD} {rows : List (List Value)} {L : List Nat} (h : LentDsR A ds rows L) : rows.flatten.length = ds.length * 16 := by
  have key : ∀ rows : List (List Value), (∀ r ∈ rows, r.length = 16) → rows.flatten.length = rows.length * 16 := fun rows => by
    induction rows with
    | nil => intro _; rfl
    | cons r rows ih =>
      intro h
      rw [List.flatten_cons, List.length_append, h r (by simp), ih fun x hx => h x (List.mem_cons_of_mem _ hx), List.length_cons]
      omega
  rw [key rows h.lens, h.length]

/-- The k-th call of a row that is lent. -/
theorem lentD_at {A : Arena} {g c : Nat} {ds : List DeedD} {rows : List (List Value)} {L : List Nat} {ys : List Value} (h : LRow A g 16 36 (ds.length + 12) c (rows.flatten ++ ys)) (hr : LentDsR A ds rows L) (k : Nat) (hk : k < ds.length) : ∃ cs Lk, A.rd g (0 + k * 16) 16 = some cs ∧ LentDR A ds[k] cs Lk := by
  have hl := hr.length
  obtain ⟨Lk, hLk⟩ := hr.at_ k hk (by omega)
  have h1 := rd_at h.rd (i := 0) (m := ds.length * 16) (by omega)
  rw [List.drop_zero, List.take_left' (lentDs_flat hr)] at h1
  exact ⟨_, Lk, rows_at h1 hr.lens k (by omega) (by omega), hLk⟩

theorem marksD_len (k : Nat) : (marksD k).length = k * 16 := by
  induction k with
  | zero => rfl
  | succ k ih =>
    rw [marksD_succ, List.length_append, ih]
    show k * 16 + 16 = _
    omega

theorem markDd_at {xs : List Value} {n : Nat} (hx : xs.length = n * 16) (k : Nat) (hk : k < 12) : ((xs ++ marksD 12).drop ((n + k) * 16)).take 16 = markK 1 k := by
  rw [List.drop_append, List.drop_eq_nil_of_le (by rw [hx]; omega), List.nil_append, hx]
  have e : (n + k) * 16 - n * 16 = k * 16 := by omega
  rw [e]
  have h12 : k = 0 ∨ k = 1 ∨ k = 2 ∨ k = 3 ∨ k = 4 ∨ k = 5 ∨ k = 6 ∨ k = 7 ∨ k = 8 ∨ k = 9 ∨ k = 10 ∨ k = 11 := by omega
  rcases h12 with rfl | rfl | rfl | rfl | rfl | rfl | rfl | rfl | rfl | rfl | rfl | rfl <;> rfl

/-- A mark as plain data. -/
def markDD (k i : Int) : DeedD := .mk ⟨mkI k i, 0, 0, 0, 0, 0, ⟨#[]⟩, [], 0, 0, 0, 0, 0, 0, []⟩ []

theorem markDD_ok (A : Arena) (k i : Int) : DeedR A (markDD k i) (markK k i) := by
  unfold markDD 
  rw [DeedR]
  exact ⟨_, _, _, [], rfl, by show (0 : Nat) ≤ _; omega, ⟨Sl.nil _ _, by simp⟩, ⟨Sl.nil _ _, by simp⟩, Sl.nil _ _, by simp, by rw [DeedsR]⟩

def keptDeedsS (n : Nat) : FSpec := ⟨List DeedD × List (List Value) × List Nat × Nat × Nat, fun x vs A => ∃ y, vs = [.slice (some ⟨x.2.2.2.1, 0, none⟩) x.1.length x.2.2.2.2, y] ∧ (∀ d ∈ x.1, dSz d < n) ∧ LRow A x.2.2.2.1 16 36 (x.1.length + 12) x.2.2.2.2 (x.2.1.flatten ++ marksD 12) ∧ LentDsR A x.1 x.2.1 x.2.2.1 ∧ DeedsS A y x.1,
  fun _ _ A v A' => A' = A ∧ v = .bool true⟩

def keptDeedS (n : Nat) : FSpec := ⟨DeedD × List Nat, fun x vs A => ∃ cs ds, vs = [deedV cs, deedV ds] ∧ dSz x.1 < n ∧ LentDR A x.1 cs x.2 ∧ DeedR A x.1 ds,
  fun _ _ A v A' => A' = A ∧ v = .bool true⟩

set_option maxRecDepth 100000 in
set_option maxHeartbeats 0 in
theorem keptDeed_of (m : Nat) (ih : FOk Tryz.prog 39 (keptDeedsS m)) : FOk Tryz.prog 21 (keptDeedS (m + 1)) := by
  refine fok_v mixed fun ⟨d, L⟩ vs A hp => ?_
  obtain ⟨x, y, rfl, hsz, hx, hy⟩ : ∃ cs ds, vs = [deedV cs, deedV ds] ∧ dSz d < m + 1 ∧ LentDR A d cs L ∧ DeedR A d ds := hp
  have hxa := hx.ask
  have hya := hy
  obtain ⟨⟨zxid, kind, ses, turn, xid, time, path, data, owner, ver, cver, tmo, err, cfg, mem⟩, parts⟩ := d
  rw [DeedR] at hy
  rw [LentDR] at hx
  obtain ⟨vd, vm, vp, rows, rfl, hy0, hy1, hy2, hy3, hy4, hy5⟩ := hy
  obtain ⟨gd, gm, gp, cd, cm, cp, rows', Lp, rfl, h0, h2, h3, h4, b1, b2, b3, h5, h6, h7⟩ := hx
  have hC : CTSound Tryz.prog (lookC [specE 39 (keptDeedsS m), specE 37 keptBytesS, specE 68 keptMembersS, specE 36 sameDeedT', specE 84 sameMembersS] noC) := lookC_sound (noC_sound _) (fun x hx => by
    simp only [List.mem_cons, List.not_mem_nil, or_false] at hx
    rcases hx with rfl | rfl | rfl | rfl | rfl
    · exact specE_ok ih
    · exact specE_ok keptBytes_ok
    · exact specE_ok keptMembers_ok
    · exact specE_ok sameDeedT_ok
    · exact specE_ok sameMembers_ok)
  have hxm : MemR A (.slice (some ⟨gm, 0, none⟩) mem.length cm) mem := ⟨h3.sl (memCells_len _), b2⟩
  have hparts : ∀ d ∈ parts, dSz d < m := fun d hd => by
    obtain ⟨k, hk, rfl⟩ := List.getElem_of_mem hd
    have := dSz_at hk
    simp only [dSz] at hsz
    omega
  obtain ⟨a5, k5, rfl⟩ := hy1.1.form
  obtain ⟨a13, k13, rfl⟩ := hy2.1.form
  obtain ⟨a14, k14, rfl⟩ := hy3.form
  refine ⟨_, noL, 60, hC, noL_sound _, fun blk os out tape D hD => ?_⟩
  conv => lhs; whnf
  refine (hD _).2 ⟨DeedD.mk ⟨zxid, kind, ses, turn, xid, time, path, data, owner, ver, cver, tmo, err, cfg, mem⟩ parts, ⟨_, _, rfl, hxa, hya⟩, fun v A1 hq => ?_⟩
  obtain ⟨h9, hv⟩ : A1 = A ∧ v = .bool true := hq
  subst h9; subst hv
  conv => lhs; whnf
  refine (hD _).2 ⟨(data, gd, cd), ⟨_, rfl, hy1, h2⟩, fun v A2 hq => ?_⟩
  obtain ⟨h9, hv⟩ : A2 = A1 ∧ v = .bool true := hq
  subst h9; subst hv
  conv => lhs; whnf
  refine go_dec rfl ?_
  conv => lhs; whnf
  refine (hD _).2 ⟨(mem, mem), ⟨_, _, rfl, hxm, hy2⟩, fun v A3 hq => ?_⟩
  obtain ⟨h9, hv⟩ : A3 = A2 ∧ v = .bool (decide (mem = mem)) := hq
  rw [decide_eq_true rfl] at hv
  subst h9; subst hv
  conv => lhs; whnf
  refine (hD _).2 ⟨(mem, gm, cm), ⟨_, rfl, hy2, h3⟩, fun v A9 hq => ?_⟩
  obtain ⟨h9, hv⟩ : A9 = A3 ∧ v = .bool true := hq
  subst h9; subst hv
  conv => lhs; whnf
  refine (hD _).2 ⟨(parts, rows', Lp, gp, cp), ⟨_, rfl, hparts, h4, h5, rows, hy3, hy4, hy5⟩, fun v A4 hq => ?_⟩
  obtain ⟨h9, hv⟩ : A4 = A9 ∧ v = .bool true := hq
  subst h9; subst hv
  have hend : (keptDeedS (m + 1)).post (DeedD.mk ⟨zxid, kind, ses, turn, xid, time, path, data, owner, ver, cver, tmo, err, cfg, mem⟩ parts, L) [] A4 (.bool true) A4 := ⟨rfl, rfl⟩
  conv => lhs; whnf
  exact (hD _).2 hend

set_option maxRecDepth 100000 in
set_option maxHeartbeats 0 in
theorem keptDeeds_of (m : Nat) (ih : FOk Tryz.prog 21 (keptDeedS m)) : FOk Tryz.prog 39 (keptDeedsS m) := by
  refine fok_v mixed fun ⟨ds, rows, L, g, c⟩ vs A hp => ?_
  obtain ⟨x, rfl, hsz, hL, hLs, rows0, ⟨ao, k7, rfl, hd7, hdl, hz1, hz2, hz3⟩, hdn, hR⟩ : ∃ y, vs = [.slice (some ⟨g, 0, none⟩) ds.length c, y] ∧ (∀ d ∈ ds, dSz d < m) ∧ LRow A g 16 36 (ds.length + 12) c (rows.flatten ++ marksD 12) ∧ LentDsR A ds rows L ∧ DeedsS A y ds := hp
  have hC : CTSound Tryz.prog (lookC [specE 21 (keptDeedS m), specE 58 markDeedS, specE 36 sameDeedT'] noC) := lookC_sound (noC_sound _) (fun x hx => by
    simp only [List.mem_cons, List.not_mem_nil, or_false] at hx
    rcases hx with rfl | rfl | rfl
    · exact specE_ok ih
    · exact specE_ok markDeed_ok
    · exact specE_ok sameDeedT_ok)
  refine ⟨_, tabO Tryz.prog _ noL 60 [(39, 0)], 60, hC, tabO_sound mixed hC (noL_sound _) _ _, fun blk os out tape D hD => ?_⟩
  have hw : IntKind.i64.wrap ((ds.length : Int) + 12) = ((ds.length + 12 : Nat) : Int) := by
    rw [Sx.wrap_i64 (by omega) (by omega)]; omega
  have hwn : (IntKind.i64.wrap ((ds.length : Int) + 12)).toNat = ds.length + 12 := by rw [hw, Int.toNat_natCast]
  have hrow := hL.rd
  have hend : (keptDeedsS m).post (ds, rows, L, g, c) [] A (.bool true) A := ⟨rfl, rfl⟩
  conv => lhs; whnf
  refine split_nd (fun _ => ?_) (fun h => absurd rfl h)
  conv => lhs; whnf
  refine go_b (lbnd_to (k := ds.length + 12) hw hL.le) ?_
  conv => lhs; whnf
  refine (hD _).2 ⟨cnt A 6 [0, 1, 5] [] (ds.length + 12) fun _ => True, ⟨(0 : Nat), ⟨Nat.zero_le _, trivial⟩, ⟨rfl, trivial⟩, trivial, rfl⟩, fun (k : Nat) hk => ⟨⟨trivial, trivial⟩, trivial, ?_⟩⟩
  simp only [cnt] at hk
  conv => lhs; whnf
  refine split_dec (fun hlt => ?_) (fun hlt => ?_)
  rotate_left
  · conv => lhs; whnf
    exact (hD _).2 hend
  have hlt : (k : Int) < (((IntKind.i64.wrap ((ds.length : Int) + 12)).toNat : Nat) : Int) := hlt
  have hk2 : k < ds.length + 12 := by
    have h9 := hlt
    rw [hwn] at h9
    omega
  have i0 : (0 : Int) ≤ (k : Int) ∧ (k : Int) < (((IntKind.i64.wrap ((ds.length : Int) + 12)).toNat : Nat) : Int) := ⟨by omega, hlt⟩
  have hmu : (ds.length + 12) - (k + 1) < (ds.length + 12) - k := by omega
  by_cases h1 : k < ds.length
  · obtain ⟨g', o', e, hrb⟩ := Sl.at_ hd7 hz1 hz2 hz3 (by omega)
    subst e
    have h1i : (k : Int) < (ds.length : Int) := by omega
    have h1n : ¬ (ds.length : Int) ≤ (k : Int) := by omega
    have i1 : (0 : Int) ≤ (k : Int) ∧ (k : Int) < (ds.length : Int) := by omega
    obtain ⟨ca, Lk, r1, hlk⟩ := lentD_at hL hLs k h1
    obtain ⟨cb, r2, hbk⟩ := deed_at hrb hR k h1 rfl
    have r1 : A.rd g ((0 + bif c.beq (Int.toNat 0) then 0 else Int.toNat 0 * 16) + k * 16) 16 = some ca := by
      rw [off0]
      exact r1
    have hlk0 := hlk
    have hbk0 := hbk
    obtain ⟨p0, p1, p2, p3, p4, p5, p6, q7, u7, n7, p8, p9, p10, p11, p12, p13, q14, u14, n14, q15, u15, n15, hca⟩ := hlk.ask.forms
    subst hca
    obtain ⟨p0, p1, p2, p3, p4, p5, p6, q7, u7, n7, p8, p9, p10, p11, p12, p13, q14, u14, n14, q15, u15, n15, hcb⟩ := hbk.forms
    subst hcb
    conv => lhs; whnf
    repeat (first | refine go_dec h1i ?_ | refine go_in i0 ?_ | refine go_in i1 ?_ | refine go_rd r1 ?_ | refine go_rd r2 ?_
            conv => lhs; whnf)
    refine (hD _).2 ⟨(ds[k], Lk), ⟨_, _, rfl, hsz _ (List.getElem_mem _), hlk0, hbk0⟩, fun v A4 hq => ?_⟩
    obtain ⟨h9, hv⟩ : A4 = A ∧ v = .bool true := hq
    subst h9; subst hv
    conv => lhs; whnf
    repeat (first | refine no_dec h1n ?_ | refine go_dec h1n ?_
            conv => lhs; whnf)
    exact (hD _).2 ⟨(k + 1 : Nat), ⟨⟨hk2, trivial⟩, ⟨inc_slot (by omega), trivial⟩, trivial, rfl⟩, hmu, ⟨same1 rfl rfl, same1 rfl rfl, same1 rfl rfl, trivial⟩, trivial⟩
  · have h1i : ¬ (k : Int) < (ds.length : Int) := by omega
    have h1n : (ds.length : Int) ≤ (k : Int) := by omega
    have hwk : IntKind.i64.wrap ((k : Int) - (ds.length : Int)) = ((k - ds.length : Nat) : Int) := by
      rw [Sx.wrap_i64 (by omega) (by omega)]; omega
    have r1 : A.rd g ((0 + bif c.beq (Int.toNat 0) then 0 else Int.toNat 0 * 16) + k * 16) 16 = some (markK 1 ((k - ds.length : Nat) : Int)) := by
      rw [off0]
      have h9 := rd_at hrow (i := k * 16) (m := 16) (by omega)
      have h8 := markDd_at (lentDs_flat hLs) (k - ds.length) (by omega)
      rw [show ds.length + (k - ds.length) = k by omega] at h8
      rw [h8] at h9
      exact h9
    conv => lhs; whnf
    repeat (first | refine no_dec h1i ?_ | refine go_dec h1n ?_ | refine go_in i0 ?_ | refine go_rd r1 ?_
            conv => lhs; whnf)
    refine (hD _).2 ⟨((1 : Int), IntKind.i64.wrap ((k : Int) - (ds.length : Int))), rfl, fun v A9 hq => ?_⟩
    obtain ⟨h9, hv⟩ : A9 = A ∧ v = deedV (markK 1 (IntKind.i64.wrap ((k : Int) - (ds.length : Int)))) := hq
    subst h9
    rw [hwk] at hv
    subst hv
    conv => lhs; whnf
    repeat (first | refine no_dec h1i ?_ | refine go_dec h1n ?_ | refine go_in i0 ?_ | refine go_rd r1 ?_ | refine go_D hD rfl ?_
            conv => lhs; whnf)
    refine (hD _).2 ⟨markDD 1 ((k - ds.length : Nat) : Int), ⟨_, _, rfl, markDD_ok _ _ _, markDD_ok _ _ _⟩, fun v A4 hq => ?_⟩
    obtain ⟨h9, hv⟩ : A4 = A9 ∧ v = .bool true := hq
    subst h9; subst hv
    conv => lhs; whnf
    repeat (first | refine no_dec h1i ?_ | refine go_dec h1n ?_ | refine go_in i0 ?_ | refine go_rd r1 ?_ | refine go_D hD rfl ?_
            conv => lhs; whnf)
    exact (hD _).2 ⟨(k + 1 : Nat), ⟨⟨hk2, trivial⟩, ⟨inc_slot (by omega), trivial⟩, trivial, rfl⟩, hmu, ⟨same1 rfl rfl, same1 rfl rfl, same1 rfl rfl, trivial⟩, trivial⟩

theorem keptDeed_all : ∀ m, FOk Tryz.prog 21 (keptDeedS m)
  | 0 => fun g vs A w _ hp => by obtain ⟨_, _, _, h, _⟩ := hp; omega
  | m + 1 => keptDeed_of m (keptDeeds_of m (keptDeed_all m))

def keptDeedS' : FSpec := ⟨DeedD × List Nat, fun x vs A => ∃ cs ds, vs = [deedV cs, deedV ds] ∧ LentDR A x.1 cs x.2 ∧ DeedR A x.1 ds,
  fun _ _ A v A' => A' = A ∧ v = .bool true⟩

theorem keptDeed_ok : FOk Tryz.prog 21 keptDeedS' := fun d vs A w hA ⟨x, y, h1, h2, h3⟩ =>
  keptDeed_all (dSz d.1 + 1) d vs A w hA ⟨x, y, h1, Nat.lt_succ_self _, h2, h3⟩

end
end Go.Proofs.YtmhnhkigbfdapaaGreatDoor

namespace Go.Proofs.YtmhnhkigbfdapaaGreatDoor
open Go.Sx Go.RowKit
noncomputable section
open Classical

/-- Pick: a number below n. -/
def pickS : FSpec := ⟨Int × Nat, fun g vs _ => vs = [.int .i64 g.1, .int .i64 g.2] ∧ 1 ≤ g.2 ∧ g.2 ≤ 1000000, fun g _ A v A' => A' = A ∧ ∃ k : Nat, k < g.2 ∧ v = .int .i64 k⟩

set_option maxRecDepth 100000 in
set_option maxHeartbeats 0 in
theorem pick_ok : FOk Tryz.prog 16 pickS := by
  refine fok_v mixed fun ⟨x, n⟩ vs A hp => ?_
  obtain ⟨rfl, h1, h2⟩ : vs = [.int .i64 x, .int .i64 n] ∧ 1 ≤ n ∧ n ≤ 1000000 := hp
  refine ⟨noC, noL, 60, noC_sound _, noL_sound _, fun blk os out tape D hD => ?_⟩
  conv => lhs; whnf
  refine split_dec (fun h => ?_) (fun h => ?_) <;> (conv => lhs; whnf)
  · omega
  have hn0 : ¬ (n : Int) = 0 := by omega
  have hlo : -(n : Int) < Int.tmod x n := by
    have := Int.lt_tmod_of_pos x (b := (n : Int)) (by omega)
    omega
  have hhi : Int.tmod x n < n := Int.tmod_lt_of_pos x (by omega)
  have hend : ∀ z : Int, 0 ≤ z → z < n → pickS.post (x, n) [.int .i64 x, .int .i64 n] A (.int .i64 z) A := fun z h0 h1 => ⟨rfl, z.toNat, by show z.toNat < n; omega, by rw [Int.toNat_of_nonneg h0]⟩
  refine split_b (fun _ => ?_) (fun hb => absurd hb (by rw [decide_eq_false hn0]; decide)) <;> (conv => lhs; whnf)
  refine split_dec (fun h0 => ?_) (fun h0 => ?_) <;> (conv => lhs; whnf)
  · have hend1 := hend (IntKind.i64.wrap (Int.tmod x n + n)) (by rw [Sx.wrap_i64 (by omega) (by omega)]; omega) (by rw [Sx.wrap_i64 (by omega) (by omega)]; omega)
    exact (hD _).2 hend1
  · exact (hD _).2 (hend (Int.tmod x n) (by omega) hhi)

end
end Go.Proofs.YtmhnhkigbfdapaaGreatDoor

namespace Go.Proofs.YtmhnhkigbfdapaaGreatDoor
open Go.Sx Go.RowKit
noncomputable section
open Classical

/-- A step, as plain data. -/
structure DoD where
  op : Int
  w : WatchD
  deed : DeedD
  last : Int
  node : NdD
  there : Bool

def DoR (A : Arena) (d : DoD) (cs : List Value) : Prop := ∃ dc a l k, cs = [.int .i64 d.op, .int .i64 d.w.conn, .int .u8 d.w.sort, .string d.w.path] ++ dc ++ [.int .i64 d.last] ++ d.node.cells (.slice a l k) ++ [.bool d.there] ∧ DeedR A d.deed dc ∧ d.w.path.data.toList.length ≤ 140737488351232

theorem DoR.len {A : Arena} {d : DoD} {cs : List Value} (h : DoR A d cs) : cs.length = 34 := by
  obtain ⟨dc, a, l, k, rfl, h, _⟩ := h
  simp [h.len, NdD.cells]

theorem DoR.sub {A B : Arena} (hs : B.Sub A) {d : DoD} {cs : List Value} (h : DoR B d cs) : DoR A d cs := by
  obtain ⟨dc, a, l, k, h1, h2, h3⟩ := h
  exact ⟨dc, a, l, k, h1, DeedR.sub hs _ _ h2, h3⟩

/-- The program's tower and the document's. -/
structure BoAt (A0 A : Arena) (t m : Nat) (ws : List WatchD) (S : Arena) (r : Nat) (l : List WatchD) : Prop where
  sub : A0.Sub A
  tw : TowerAt A t m ws
  rt : RtAt A S r l
  rel : RelW ws l
  t0 : A0.blk t = none
  m0 : A0.blk m = none
  r0 : A0.blk r = none
  sm : S.blk m = none
  rt' : r ≠ t
  rm : r ≠ m

/-- The program's tower changes. -/
theorem BoAt.tstep {A0 A A' S : Arena} {t m r : Nat} {ws ws' l l' : List WatchD} (h : BoAt A0 A t m ws S r l) (k : TwTo A ⟨t, m, ws⟩ ws' A') (hl : RelW ws' l') : (RelW ws' l → BoAt A0 A' t m ws' S r l) ∧ (∀ A2, RtTo A' S r l' A2 → ∃ S', BoAt A0 A2 t m ws' S' r l') := by
  have hrt : RtAt A' S r l := by
    obtain ⟨v, E, h1, h2⟩ := h.rt.row
    exact ⟨⟨v, E, h1.sub fun o ho => k.keep r o h.rm ho, h2⟩, fun b o hb => k.keep b o (fun e => (by
      have e : b = m := e
      rw [e, h.sm] at hb; cases hb)) (h.rt.sub b o hb), h.rt.off, h.rt.le⟩
  have hsub : A0.Sub A' := fun b o hb => k.keep b o (fun e => (by
    have e : b = m := e
    rw [e, h.m0] at hb; cases hb)) (h.sub b o hb)
  refine ⟨fun hr => ⟨hsub, k.tower, hrt, hr, h.t0, h.m0, h.r0, h.sm, h.rt', h.rm⟩, fun A2 k2 => ?_⟩
  obtain ⟨S', h3, h4⟩ := k2.at_
  refine ⟨S', fun b o hb => k2.keep b o (fun e => (by rw [e, h.r0] at hb; cases hb)) (hsub b o hb), ?_, h3, hl, h.t0, h.m0, h.r0, ?_, h.rt', h.rm⟩
  · obtain ⟨ot, hot⟩ := k.tower.top.dom
    obtain ⟨em, cm, hom, _⟩ := k.tower.map
    refine ⟨k.tower.top.sub fun o ho => k2.keep t o h.rt'.symm ho, k.tower.map.sub fun o ho => k2.keep m o h.rm.symm ho, k.tower.nd, k.tower.ne⟩
  · cases hb : S'.blk m with
    | none => rfl
    | some o =>
      rcases h4 m o hb with h5 | h5
      · rw [h.sm] at h5; cases h5
      · obtain ⟨em, cm, hom, _⟩ := k.tower.map
        rw [hom] at h5; cases h5

theorem BoAt.rtAfter {A0 A A' S : Arena} {t m r : Nat} {ws ws' l : List WatchD} (h : BoAt A0 A t m ws S r l) (k : TwTo A ⟨t, m, ws⟩ ws' A') : RtAt A' S r l := by
  obtain ⟨v, E, h1, h2⟩ := h.rt.row
  exact ⟨⟨v, E, h1.sub fun o ho => k.keep r o h.rm ho, h2⟩, fun b o hb => k.keep b o (fun e => (by
    have e : b = m := e
    rw [e, h.sm] at hb; cases hb)) (h.rt.sub b o hb), h.rt.off, h.rt.le⟩

theorem BoAt.more {A0 A A' S : Arena} {t m r : Nat} {ws l : List WatchD} (h : BoAt A0 A t m ws S r l) (s : A.Sub A') : BoAt A0 A' t m ws S r l :=
  ⟨h.sub.trans s, ⟨h.tw.top.sub fun _ ho => s _ _ ho, h.tw.map.sub fun _ ho => s _ _ ho, h.tw.nd, h.tw.ne⟩, h.rt.up s, h.rel, h.t0, h.m0, h.r0, h.sm, h.rt', h.rm⟩

structure StG where
  A0 : Arena
  t : Nat
  m : Nat
  ws : List WatchD
  S : Arena
  r : Nat
  l : List WatchD
  d : DoD

def stepS : FSpec := ⟨StG, fun g vs A => ∃ cs, vs = [.pointer (some ⟨g.t, 0, none⟩), .pointer (some ⟨g.r, 0, none⟩), .agg cs.toArray] ∧ BoAt g.A0 A g.t g.m g.ws g.S g.r g.l ∧ DoR g.A0 g.d cs ∧ HasA g.A0 ∧ g.l.length < 1000,
  fun g _ _ v A' => v = .bool true ∧ ∃ ws' S' l', BoAt g.A0 A' g.t g.m ws' S' g.r l' ∧ l'.length ≤ g.l.length + 1⟩

set_option maxRecDepth 100000 in
set_option maxHeartbeats 0 in
theorem step_ok : FOk Tryz.prog 7 stepS := by
  refine fok_v mixed fun ⟨A0, t, m, ws, S, r, l, ⟨op, ⟨conn, sort, p⟩, d, last, ⟨np, cz, mz, pz, ct, mt, ve, cv, ow, le, ki⟩, there⟩⟩ vs A hp => ?_
  obtain ⟨cs, rfl, hB, hDo, hHas, hl⟩ : ∃ cs : List Value, vs = [.pointer (some ⟨t, 0, none⟩), .pointer (some ⟨r, 0, none⟩), .agg cs.toArray] ∧ BoAt A0 A t m ws S r l ∧ DoR A0 ⟨op, ⟨conn, sort, p⟩, d, last, ⟨np, cz, mz, pz, ct, mt, ve, cv, ow, le, ki⟩, there⟩ cs ∧ HasA A0 ∧ l.length < 1000 := hp
  obtain ⟨dc, na, nl, nk, rfl, hDd, hpl⟩ := hDo
  have hDA := DeedR.sub hB.sub _ _ hDd
  obtain ⟨a7, l7, k7, a14, l14, k14, a15, l15, k15, hdc⟩ := hDd.form
  subst hdc
  have hC : CTSound Tryz.prog (lookC [specE 16 pickS, specE 10 bellAddS, specE 11 bellRingS, specE 13 bellAgainS, specE 23 bellDropS,
      specE 17 rAddS, specE 20 rRingS, specE 22 rAgainS, specE 24 rDropCS, specE 18 lentDeedS', specE 21 keptDeedS', specE 19 ringsEqS] noC) := lookC_sound (noC_sound _) (fun x hx => by
    simp only [List.mem_cons, List.not_mem_nil, or_false] at hx
    rcases hx with rfl | rfl | rfl | rfl | rfl | rfl | rfl | rfl | rfl | rfl | rfl | rfl
    · exact specE_ok pick_ok
    · exact specE_ok bellAdd_ok
    · exact specE_ok bellRing_ok
    · exact specE_ok bellAgain_ok
    · exact specE_ok bellDrop_ok
    · exact specE_ok rAdd_ok
    · exact specE_ok rRing_ok
    · exact specE_ok rAgain_ok
    · exact specE_ok rDropC_ok
    · exact specE_ok lentDeed_ok
    · exact specE_ok keptDeed_ok
    · exact specE_ok ringsEq_ok)
  refine ⟨_, noL, 60, hC, noL_sound _, fun blk os out tape D hD => ?_⟩
  conv => lhs; whnf
  refine (hD _).2 ⟨(op, 6), ⟨rfl, by show (1 : Nat) ≤ 6; omega, by show (6 : Nat) ≤ 1000000; omega⟩, fun v A1 hq => ?_⟩
  obtain ⟨h9, k, hk, hv⟩ : A1 = A ∧ ∃ k : Nat, k < 6 ∧ v = .int .i64 k := hq
  subst h9; subst hv
  have hend : ∀ ws' l' S' A', BoAt A0 A' t m ws' S' r l' → l'.length ≤ l.length + 1 → stepS.post ⟨A0, t, m, ws, S, r, l, ⟨op, ⟨conn, sort, p⟩, d, last, ⟨np, cz, mz, pz, ct, mt, ve, cv, ow, le, ki⟩, there⟩⟩ [] A1 (.bool true) A' := fun ws' l' S' A' h1 h2 => ⟨rfl, ws', S', l', h1, h2⟩
  have hk6 : k = 0 ∨ k = 1 ∨ k = 2 ∨ k = 3 ∨ k = 4 ∨ k = 5 := by omega
  rcases hk6 with rfl | rfl | rfl | rfl | rfl | rfl
  iterate 2
    · conv => lhs; whnf
      refine (hD _).2 ⟨((⟨t, m, ws⟩ : TwG), (⟨conn, sort, p⟩ : WatchD)), ⟨rfl, hB.tw⟩, fun v A2 hq => ?_⟩
      have hq : TwTo A1 ⟨t, m, ws⟩ (if mayD sort p = true then wPut (⟨conn, sort, p⟩ : WatchD) ws else ws) A2 := hq
      have hrel : RelW (if mayD sort p = true then wPut (⟨conn, sort, p⟩ : WatchD) ws else ws) (if mayD sort p = true then addW (⟨conn, sort, p⟩ : WatchD) l else l) := by
        by_cases hm : mayD sort p = true
        · rw [if_pos hm, if_pos hm]
          exact hB.rel.add (mayD_sort hm)
        · rw [if_neg hm, if_neg hm]
          exact hB.rel
      have hlen : (if mayD sort p = true then addW (⟨conn, sort, p⟩ : WatchD) l else l).length ≤ l.length + 1 := by
        split
        · exact addW_len _ _
        · exact Nat.le_succ _
      conv => lhs; whnf
      repeat (refine go_D hD rfl ?_
              conv => lhs; whnf)
      refine (hD _).2 ⟨(S, r, l, (⟨conn, sort, p⟩ : WatchD)), ⟨rfl, hB.rtAfter hq, hpl, by show l.length < 1000000; omega⟩, fun v A3 hq2 => ?_⟩
      obtain ⟨S', hB'⟩ := (hB.tstep hq hrel).2 A3 hq2
      have hend := hend _ _ S' A3 hB' hlen
      conv => lhs; whnf
      repeat (refine go_D hD rfl ?_
              conv => lhs; whnf)
      exact (hD _).2 hend
  iterate 2
    · conv => lhs; whnf
      refine (hD _).2 ⟨d, ⟨_, rfl, hDA⟩, fun v A2 hq => ?_⟩
      obtain ⟨s2, c2, L, hv, hlr, hLn⟩ : A1.Sub A2 ∧ ∃ cs L, v = deedV cs ∧ LentDR A2 d cs L ∧ ∀ k ∈ L, A1.blk k = none := hq
      subst hv
      have hB2 := hB.more s2
      obtain ⟨em, cm, hom, _⟩ := hB.tw.map
      obtain ⟨orr, hor⟩ := hB.rt.live
      have hLm : ∀ k ∈ L, k ≠ m ∧ k ≠ r := fun k hk => ⟨fun e => (by rw [← e, hLn k hk] at hom; cases hom), fun e => (by rw [← e, hLn k hk] at hor; cases hor)⟩
      have hmin : DeedR (A2.minus A1) d c2 := (hlr.keep fun k hk => by
        obtain ⟨o, ho⟩ := hlr.live k hk
        rw [ho]
        exact minus_mk (hLn k hk) ho).ask
      obtain ⟨b7, x7, y7, b14, x14, y14, b15, x15, y15, hc2⟩ := hlr.ask.form
      subst hc2
      have hHas2 := hHas.sub hB2.sub
      have hwl : ws.length ≤ 1000000 := by
        have := hB.rel.len
        omega
      conv => lhs; whnf
      repeat (refine go_D hD rfl ?_
              conv => lhs; whnf)
      refine (hD _).2 ⟨((⟨t, m, ws⟩ : TwG), d, A2.minus A1), ⟨_, rfl, hB2.tw, hB.rel.ok, hwl, hmin, minus_sub _ _, minus_none _ hom, hHas2⟩, fun v A3 hq => ?_⟩
      obtain ⟨hT3, hG3⟩ : TwTo A2 ⟨t, m, ws⟩ (ringsW d ws).2 A3 ∧ GrowR A2 A3 5 65 (ringsW d ws).1.length v ((ringsW d ws).1.flatMap RingD.cells) := hq
      obtain ⟨hr1, hr2⟩ := hB.rel.ring d
      have hrl := rRings_len d l
      rw [hr1] at hG3
      obtain ⟨q3, cp3, hv3, hq3, -⟩ := hG3.formN
      subst hv3
      have hD3 : A0.Sub A3 := fun b o hb => hT3.keep b o (fun e => by
        have e : b = m := e
        rw [e, hB.m0] at hb; cases hb) (hB2.sub b o hb)
      have hst := (hB2.tstep hT3 hr2).2
      conv => lhs; whnf
      repeat (refine go_D hD rfl ?_
              conv => lhs; whnf)
      refine (hD _).2 ⟨((S, r, l), d, A0), ⟨_, rfl, hB2.rtAfter hT3, hDd, hD3, hB.r0⟩, fun v A4 hq => ?_⟩
      obtain ⟨hT4, hG4⟩ : RtTo A3 S r (rRingsW d l).2 A4 ∧ GrowR A3 A4 5 86 (rRingsW d l).1.length v ((rRingsW d l).1.flatMap RingD.cells) := hq
      obtain ⟨q4, cp4, hv4, hq4, -⟩ := hG4.formN
      subst hv4
      obtain ⟨S', hB'⟩ := hst A4 hT4
      have hend := hend _ _ S' A4 hB' (Nat.le_succ_of_le hrl)
      have hr2l := s2 r orr hor
      have hG34 := grow_stay hG3 fun b o h1 h2 => hT4.keep b o (fun e => by
        rw [e, hr2l] at h1; cases h1) h2
      have hnr : (rRingsW d l).1.length ≤ 1000000000 := by
        have h1 := rRings_tot d l
        omega
      have hl4 : LentDR A4 d _ L := hlr.keep fun k hk => by
        obtain ⟨o, ho⟩ := hlr.live k hk
        rw [ho]
        exact hT4.keep k o (hLm k hk).2 (hT3.keep k o (hLm k hk).1 ho)
      have hD4 := DeedR.sub (fun b o hb => hT4.keep b o (fun e => by
        rw [e, hB.r0] at hb; cases hb) (hD3 b o hb) : A0.Sub A4) _ _ hDd
      have hs3 := hG34.sl
      have hs4 := hG4.sl
      clear hG3 hG4 hG34 hT3 hT4
      conv => lhs; whnf
      repeat (refine go_D hD rfl ?_
              conv => lhs; whnf)
      refine (hD _).2 ⟨(rRingsW d l).1, ⟨_, _, rfl, hs3, hs4, hnr⟩, fun v A5 hq => ?_⟩
      obtain ⟨h5, hv⟩ : A5 = A4 ∧ v = .bool true := hq
      subst h5; subst hv
      conv => lhs; whnf
      repeat (refine go_D hD rfl ?_
              conv => lhs; whnf)
      refine (hD _).2 ⟨(d, L), ⟨_, _, rfl, hl4, hD4⟩, fun v A6 hq => ?_⟩
      obtain ⟨h6, hv⟩ : A6 = A5 ∧ v = .bool true := hq
      subst h6; subst hv
      conv => lhs; whnf
      repeat (refine go_D hD rfl ?_
              conv => lhs; whnf)
      exact (hD _).2 hend
  · conv => lhs; whnf
    refine (hD _).2 ⟨((⟨t, m, ws⟩ : TwG), (⟨conn, sort, p⟩ : WatchD), last, (⟨np, cz, mz, pz, ct, mt, ve, cv, ow, le, ki⟩ : NdD), there), ⟨_, _, _, rfl, hB.tw⟩, fun v A2 hq => ?_⟩
    obtain ⟨hv, hq⟩ : v = .tuple #[.agg (againW (⟨conn, sort, p⟩ : WatchD) last ⟨np, cz, mz, pz, ct, mt, ve, cv, ow, le, ki⟩ there ws).1.cells.toArray, .bool (againW (⟨conn, sort, p⟩ : WatchD) last ⟨np, cz, mz, pz, ct, mt, ve, cv, ow, le, ki⟩ there ws).2.1] ∧ TwTo A1 ⟨t, m, ws⟩ (againW (⟨conn, sort, p⟩ : WatchD) last ⟨np, cz, mz, pz, ct, mt, ve, cv, ow, le, ki⟩ there ws).2.2 A2 := hq
    obtain ⟨e1, e2, hrel⟩ := hB.rel.again (⟨conn, sort, p⟩ : WatchD) last ⟨np, cz, mz, pz, ct, mt, ve, cv, ow, le, ki⟩ there
    have hlen := rAgain_len (⟨conn, sort, p⟩ : WatchD) last ⟨np, cz, mz, pz, ct, mt, ve, cv, ow, le, ki⟩ there l
    have hrt := hB.rtAfter hq
    have hst := (hB.tstep hq hrel).2
    generalize againW (⟨conn, sort, p⟩ : WatchD) last ⟨np, cz, mz, pz, ct, mt, ve, cv, ow, le, ki⟩ there ws = X at hv hq e1 e2 hrel hst
    obtain ⟨⟨ek, es, ep, ez⟩, eb, ws'⟩ := X
    dsimp only at hv e1 e2
    subst hv
    conv => lhs; whnf
    repeat (refine go_D hD rfl ?_
            conv => lhs; whnf)
    refine (hD _).2 ⟨((S, r, l), (⟨conn, sort, p⟩ : WatchD), last, (⟨np, cz, mz, pz, ct, mt, ve, cv, ow, le, ki⟩ : NdD), there), ⟨_, _, _, rfl, hrt, hpl, by show l.length < 1000000; omega⟩, fun v A3 hq2 => ?_⟩
    obtain ⟨hv, hq2⟩ : v = .tuple #[.agg (rAgainW (⟨conn, sort, p⟩ : WatchD) last ⟨np, cz, mz, pz, ct, mt, ve, cv, ow, le, ki⟩ there l).1.cells.toArray, .bool (rAgainW (⟨conn, sort, p⟩ : WatchD) last ⟨np, cz, mz, pz, ct, mt, ve, cv, ow, le, ki⟩ there l).2.1] ∧ RtTo A2 S r (rAgainW (⟨conn, sort, p⟩ : WatchD) last ⟨np, cz, mz, pz, ct, mt, ve, cv, ow, le, ki⟩ there l).2.2 A3 := hq2
    obtain ⟨S', hB'⟩ := hst A3 hq2
    have hend := hend _ _ S' A3 hB' hlen
    rw [← e1, ← e2] at hv
    subst hv
    conv => lhs; whnf
    repeat (first | refine go_D hD rfl ?_ | refine go_D hD (by kernel_rfl) ?_
            conv => lhs; whnf)
    have hbb : beqL ep.data.toList ep.data.toList = true := beqL_iff.2 rfl
    refine split_b (fun _ => ?_) (fun hb => ?_)
    rotate_left
    · rw [hbb] at hb
      simp at hb
    conv => lhs; whnf
    repeat (first | refine go_D hD rfl ?_ | refine go_D hD (by kernel_rfl) ?_
            conv => lhs; whnf)
    have e9 : (eb == eb) = true := by cases eb <;> rfl
    rw [← e9] at hend
    exact (hD _).2 hend
  · conv => lhs; whnf
    refine (hD _).2 ⟨((⟨t, m, ws⟩ : TwG), conn), ⟨rfl, hB.tw⟩, fun v A2 hq => ?_⟩
    have hq : TwTo A1 ⟨t, m, ws⟩ (ws.filter fun w => !decide (w.conn = conn)) A2 := hq
    have hrel := hB.rel.filter fun w => !decide (w.conn = conn)
    conv => lhs; whnf
    repeat (refine go_D hD rfl ?_
            conv => lhs; whnf)
    refine (hD _).2 ⟨(S, r, l, conn), ⟨rfl, hB.rtAfter hq⟩, fun v A3 hq2 => ?_⟩
    obtain ⟨S', hB'⟩ := (hB.tstep hq hrel).2 A3 hq2
    have hend := hend _ _ S' A3 hB' (Nat.le_succ_of_le (List.length_filter_le _ _))
    conv => lhs; whnf
    repeat (refine go_D hD rfl ?_
            conv => lhs; whnf)
    exact (hD _).2 hend

end
end Go.Proofs.YtmhnhkigbfdapaaGreatDoor

namespace Go.Sx
noncomputable section
open Go.RowKit Go.ChangeShapes Go.WideShapes

theorem list1 {α : Type} {l : List α} (h : l.length = 1) : ∃ v0, l = [v0] := by
  match l, h with
  | [v0], _ => exact ⟨v0, rfl⟩

theorem list2 {α : Type} {l : List α} (h : l.length = 2) : ∃ v0 v1, l = [v0, v1] := by
  match l, h with
  | [v0, v1], _ => exact ⟨v0, v1, rfl⟩

theorem list3 {α : Type} {l : List α} (h : l.length = 3) : ∃ v0 v1 v2, l = [v0, v1, v2] := by
  match l, h with
  | [v0, v1, v2], _ => exact ⟨v0, v1, v2, rfl⟩

theorem list4 {α : Type} {l : List α} (h : l.length = 4) : ∃ v0 v1 v2 v3, l = [v0, v1, v2, v3] := by
  match l, h with
  | [v0, v1, v2, v3], _ => exact ⟨v0, v1, v2, v3, rfl⟩

theorem list5 {α : Type} {l : List α} (h : l.length = 5) : ∃ v0 v1 v2 v3 v4, l = [v0, v1, v2, v3, v4] := by
  match l, h with
  | [v0, v1, v2, v3, v4], _ => exact ⟨v0, v1, v2, v3, v4, rfl⟩

theorem list6 {α : Type} {l : List α} (h : l.length = 6) : ∃ v0 v1 v2 v3 v4 v5, l = [v0, v1, v2, v3, v4, v5] := by
  match l, h with
  | [v0, v1, v2, v3, v4, v5], _ => exact ⟨v0, v1, v2, v3, v4, v5, rfl⟩

theorem list7 {α : Type} {l : List α} (h : l.length = 7) : ∃ v0 v1 v2 v3 v4 v5 v6, l = [v0, v1, v2, v3, v4, v5, v6] := by
  match l, h with
  | [v0, v1, v2, v3, v4, v5, v6], _ => exact ⟨v0, v1, v2, v3, v4, v5, v6, rfl⟩

theorem list8 {α : Type} {l : List α} (h : l.length = 8) : ∃ v0 v1 v2 v3 v4 v5 v6 v7, l = [v0, v1, v2, v3, v4, v5, v6, v7] := by
  match l, h with
  | [v0, v1, v2, v3, v4, v5, v6, v7], _ => exact ⟨v0, v1, v2, v3, v4, v5, v6, v7, rfl⟩

theorem list15 {α : Type} {l : List α} (h : l.length = 15) : ∃ v0 v1 v2 v3 v4 v5 v6 v7 v8 v9 v10 v11 v12 v13 v14, l = [v0, v1, v2, v3, v4, v5, v6, v7, v8, v9, v10, v11, v12, v13, v14] := by
  match l, h with
  | [v0, v1, v2, v3, v4, v5, v6, v7, v8, v9, v10, v11, v12, v13, v14], _ => exact ⟨v0, v1, v2, v3, v4, v5, v6, v7, v8, v9, v10, v11, v12, v13, v14, rfl⟩

theorem list16 {α : Type} {l : List α} (h : l.length = 16) : ∃ v0 v1 v2 v3 v4 v5 v6 v7 v8 v9 v10 v11 v12 v13 v14 v15, l = [v0, v1, v2, v3, v4, v5, v6, v7, v8, v9, v10, v11, v12, v13, v14, v15] := by
  match l, h with
  | [v0, v1, v2, v3, v4, v5, v6, v7, v8, v9, v10, v11, v12, v13, v14, v15], _ => exact ⟨v0, v1, v2, v3, v4, v5, v6, v7, v8, v9, v10, v11, v12, v13, v14, v15, rfl⟩

theorem list18 {α : Type} {l : List α} (h : l.length = 18) : ∃ v0 v1 v2 v3 v4 v5 v6 v7 v8 v9 v10 v11 v12 v13 v14 v15 v16 v17, l = [v0, v1, v2, v3, v4, v5, v6, v7, v8, v9, v10, v11, v12, v13, v14, v15, v16, v17] := by
  match l, h with
  | [v0, v1, v2, v3, v4, v5, v6, v7, v8, v9, v10, v11, v12, v13, v14, v15, v16, v17], _ => exact ⟨v0, v1, v2, v3, v4, v5, v6, v7, v8, v9, v10, v11, v12, v13, v14, v15, v16, v17, rfl⟩

/-- All memory that lay, as an arena. -/
def allOf (W : World) : Arena := Arena.of fun k => W.heap[k]?

theorem cells_spot {W : World} {a : Addr} {n : Nat} {cs : List Value} (h : W.cells? 0 a n = some cs) (hn : 0 < n) : a.spot = none := by
  unfold World.cells? at h
  rw [if_pos (Nat.zero_le _)] at h
  have h1 := mapM_some_get h 0 0 (by simp [hn])
  have hl := mapM_some_length h
  rw [List.length_range] at hl
  have h2 : cs[0]? = some cs[0] := List.getElem?_eq_getElem (by omega)
  rw [h2] at h1
  unfold World.cell? Addr.add at h1
  simp only [if_true] at h1
  split at h1
  · split at h1
    · cases h1
    · rename_i h3
      cases hs : a.spot with
      | none => rfl
      | some s => rw [hs] at h3; simp at h3
  · cases h1

theorem cells_rd {W : World} {g o : Nat} {n : Nat} {cs : List Value} (h : W.cells? 0 ⟨g, o, none⟩ n = some cs) (hn : 0 < n) : (allOf W).rd g o n = some cs := by
  unfold World.cells? at h
  rw [if_pos (Nat.zero_le _)] at h
  have hl := mapM_some_length h
  rw [List.length_range] at hl
  have key : ∀ i, i < n → ∃ c t fz, W.heap[g]? = some (.cells c t fz) ∧ c[o + i]? = cs[i]? := fun i hi => by
    have h1 := mapM_some_get h i i (by simp [hi])
    have h2 : cs[i]? = some cs[i] := List.getElem?_eq_getElem (by omega)
    rw [h2] at h1
    unfold World.cell? at h1
    rw [add_none] at h1
    simp only at h1
    split at h1
    · rename_i c t fz hb
      simp only [Option.isSome_none, Bool.false_eq_true, if_false] at h1
      exact ⟨c, t, fz, hb, by rw [h1, h2]⟩
    · cases h1
  obtain ⟨c, t, fz, hb, _⟩ := key 0 hn
  have hle : o + n ≤ c.size := by
    obtain ⟨c', t', fz', hb', h3⟩ := key (n - 1) (by omega)
    rw [hb] at hb'
    injection hb' with hb'
    injection hb' with e1 e2 e3
    subst e1
    have h4 : cs[n - 1]? = some cs[n - 1] := List.getElem?_eq_getElem (by omega)
    rw [h4] at h3
    have := (Array.getElem?_eq_some_iff.1 h3).1
    omega
  rw [rd_mk (A := allOf W) (c := c) (t := t) (fz := fz) hb hle]
  congr 1
  refine List.ext_getElem? fun i => ?_
  by_cases hi : i < n
  · obtain ⟨c', t', fz', hb', h3⟩ := key i hi
    rw [hb] at hb'
    injection hb' with hb'
    injection hb' with e1 e2 e3
    subst e1
    rw [List.getElem?_take_of_lt hi, List.getElem?_drop, Array.getElem?_toList, h3]
  · rw [List.getElem?_eq_none (by simp; omega), List.getElem?_eq_none (by omega)]

theorem rd_join {A : Arena} {g o n m : Nat} {xs ys : List Value} (h1 : A.rd g o n = some xs) (h2 : A.rd g (o + n) m = some ys) : A.rd g o (n + m) = some (xs ++ ys) := by
  obtain ⟨c, t, fz, hb, hle, rfl⟩ := rd_some h1
  obtain ⟨c', t', fz', hb', hle', rfl⟩ := rd_some h2
  rw [hb] at hb'
  injection hb' with hb'
  injection hb' with e1 e2 e3
  subst e1
  rw [rd_mk hb (by omega), List.take_add, List.drop_drop]

section
variable {H : Type} {enc : TypeId × Value → H} {P : Program} {W : World}

/-- How cells are read here. -/
abbrev trodA (enc : TypeId × Value → H) (P : Program) (W : World) (n : Nat) (t : TypeId) (cs : List Value) : Option (DataW H × List MemPlace) := DataW.trod enc P W 0 (fun _ => true) true n t cs

/-- No row in it is longer than what can be reached. -/
def RFits (P : Program) (t : TypeId) (d : DataW H) : Prop := ∀ z ∈ d.weights P t, z ≤ 140737488351232

theorem weightsAll_mem {e : TypeId} : ∀ {l : List (DataW H)} {d : DataW H}, d ∈ l → ∀ z ∈ d.weights P e, z ∈ DataW.weightsAll P e l
  | [], d, h => by cases h
  | x :: l, d, h => fun z hz => by
    simp only [DataW.weightsAll, List.mem_append]
    rcases List.mem_cons.1 h with rfl | h
    · exact .inl hz
    · exact .inr (weightsAll_mem h z hz)

theorem weightsEach_mem : ∀ {ts : List TypeId} {l : List (DataW H)} {i : Nat} {t : TypeId} {d : DataW H}, ts[i]? = some t → l[i]? = some d → ∀ z ∈ d.weights P t, z ∈ DataW.weightsEach P ts l
  | [], _, _, _, _, h1, _ => by simp at h1
  | _ :: _, [], _, _, _, _, h2 => by simp at h2
  | t' :: ts, d' :: l, 0, t, d, h1, h2 => fun z hz => by
    simp only [List.getElem?_cons_zero, Option.some.injEq] at h1 h2
    subst h1; subst h2
    simp only [DataW.weightsEach, List.mem_append]
    exact .inl hz
  | t' :: ts, d' :: l, i + 1, t, d, h1, h2 => fun z hz => by
    simp only [List.getElem?_cons_succ] at h1 h2
    simp only [DataW.weightsEach, List.mem_append]
    exact .inr (weightsEach_mem h1 h2 z hz)

theorem rfits_at {ts : List TypeId} {l : List (DataW H)} (h : (DataW.weightsEach P ts l).all (· ≤ reachBytes) = true) (i : Nat) {t : TypeId} {d : DataW H} (h1 : ts[i]? = some t) (h2 : l[i]? = some d) : RFits P t d := fun z hz => by
  have h3 := List.all_eq_true.1 h z (weightsEach_mem h1 h2 z hz)
  have h4 : z ≤ reachBytes := by simpa using h3
  exact h4

/-- A slice's cell. -/
theorem slice_cell {t e : TypeId} (ht : P.underlying t = some (.slice e)) {r : Reach} {b : Nat} {v : Value} (h : Value.okWide P W r b t v) : v.cells.toList = [v] := by
  unfold Value.okWide at h
  rw [ht] at h
  simp only [Cell.okWide, Cell.ok, ht] at h
  cases v with
  | slice a l c => rfl
  | _ => exact h.elim

/-- A slice: its row, and each of its elements. -/
theorem slice_up {t e : TypeId} {es B : Nat} (ht : P.underlying t = some (.slice e)) (hes : P.cellsOf e = es) (hes0 : 0 < es) (hB : P.bytesOf e = B) {n : Nat} {x : DataW H × List MemPlace} {v : Value} (h : trodA enc P W n t [v] = some x) (hw : RFits P t x.1) :
    ∃ rows : List (List Value), Sl (allOf W) es rows.length v rows.flatten ∧ rows.length * B ≤ 140737488351232 ∧ ∀ r ∈ rows, r.length = es ∧ ∃ m y, m < n ∧ trodA enc P W m e r = some y ∧ RFits P e y.1 := by
  rcases DataW.trod_slice ht h with ⟨hn, _⟩ | ⟨a, len, cap, elems, rest, m, hm, hn, hx, _, hle, _, hel, hrd, hsp, _⟩
  · obtain rfl : v = .slice none 0 0 := by simpa using hn
    exact ⟨[], Sl.nil _ _, by simp, by simp⟩
  · obtain rfl : v = .slice (some a) len cap := by simpa using hn
    obtain ⟨hr1, hr2⟩ := hsp rfl
    subst hes
    have hone : ∀ i, i < len → ∃ cs y, W.cells? 0 (a.add (i * P.cellsOf e)) (P.cellsOf e) = some cs ∧ trodA enc P W m e cs = some y ∧ elems[i]? = some y := fun i hi => by
      have h1 := hrd i hi
      have h2 : elems[i]? = some elems[i] := List.getElem?_eq_getElem (by omega)
      rw [h2, Option.bind_eq_some_iff] at h1
      obtain ⟨cs, h3, h4⟩ := h1
      exact ⟨cs, _, h3, h4, h2⟩
    have hspot : 0 < cap → a.spot = none := fun hc => by
      by_cases h0 : 0 < len
      · obtain ⟨cs, y, h1, _⟩ := hone 0 h0
        rw [Nat.zero_mul] at h1
        exact cells_spot (a := a) (by simpa [Addr.add] using h1) hes0
      · have h1 := hr2 0 (by omega)
        have h2 : rest[0]? = some rest[0] := List.getElem?_eq_getElem (by omega)
        rw [h2, Option.bind_eq_some_iff] at h1
        obtain ⟨cs, h3, _⟩ := h1
        have h0 : len = 0 := by omega
        subst h0
        exact cells_spot (a := a) (by simpa [Addr.add] using h3) hes0
    have hfit : ∀ y ∈ elems, RFits P e y.1 := fun y hy z hz => by
      refine hw z ?_
      rw [hx]
      simp only [DataW.weights, ht, List.mem_cons, List.mem_append]
      exact .inr (.inl (weightsAll_mem (List.mem_map.2 ⟨y, hy, rfl⟩) z hz))
    have hrows : ∀ k, k ≤ len → ∃ rows : List (List Value), rows.length = k ∧ (0 < k → (allOf W).rd a.block a.off (k * P.cellsOf e) = some rows.flatten) ∧ ∀ r ∈ rows, r.length = P.cellsOf e ∧ ∃ m y, m < n ∧ trodA enc P W m e r = some y ∧ RFits P e y.1 := fun k => by
      induction k with
      | zero => exact fun _ => ⟨[], rfl, fun h => (by omega), by simp⟩
      | succ k ih =>
        intro hk
        obtain ⟨rows, r1, r2, r3⟩ := ih (by omega)
        obtain ⟨cs, y, h1, h2, h3⟩ := hone k (by omega)
        obtain ⟨g, o, s⟩ := a
        have hs := hspot (by omega)
        simp only at hs
        subst hs
        rw [add_none] at h1
        have h4 := cells_rd h1 hes0
        refine ⟨rows ++ [cs], by simp [r1], fun _ => ?_, fun r hr => ?_⟩
        · rw [List.flatten_append, Nat.succ_mul]
          simp only [List.flatten_cons, List.flatten_nil, List.append_nil]
          by_cases h0 : 0 < k
          · exact rd_join (r2 h0) h4
          · have h0 : k = 0 := by omega
            subst h0
            have : rows = [] := List.length_eq_zero_iff.1 r1
            subst this
            simpa using h4
        · rcases List.mem_append.1 hr with hr | hr
          · exact r3 r hr
          · rw [List.mem_singleton] at hr
            subst hr
            exact ⟨rd_len h4, m, y, by omega, h2, hfit y (List.mem_of_getElem? h3)⟩
    obtain ⟨rows, r1, r2, r3⟩ := hrows len (Nat.le_refl _)
    refine ⟨rows, ⟨some a, cap, by rw [r1], by omega, ?_, fun h => (by cases h), fun b hb hc => (by injection hb with hb; subst hb; exact hspot hc), fun h0 b hb => (by injection hb with hb; subst hb; rw [r1]; exact r2 (by omega))⟩, ?_, r3⟩
    · clear r1 r2
      induction rows with
      | nil => simp
      | cons r rows ih =>
        rw [List.flatten_cons, List.length_append, ih (fun x hx => r3 x (List.mem_cons_of_mem _ hx)), (r3 r (by simp)).1, List.length_cons, Nat.succ_mul]; omega
    · have h1 : (elems.length + rest.length) * P.bytesOf e ≤ 140737488351232 := by
        refine hw _ ?_
        rw [hx]
        simp [DataW.weights, ht]
      rw [hB] at h1
      refine Nat.le_trans (Nat.mul_le_mul_right B ?_) h1
      omega

/-- A struct: each of its fields. -/
theorem fields_up {t : TypeId} {fs : Array Field} (ht : P.underlying t = some (.struct fs)) {n : Nat} {x : DataW H × List MemPlace} {cs : List Value} (h : trodA enc P W n t cs = some x) (hw : RFits P t x.1) :
    cs.length = P.cellsOf t ∧ ∃ m, m < n ∧ ∀ (i : Nat) (f : Field), fs[i]? = some f → ∃ y, trodA enc P W m f.type ((cs.drop f.offset).take (P.cellsOf f.type)) = some y ∧ RFits P f.type y.1 := by
  obtain ⟨xs, m, hm, hx, hl, hlen, hf⟩ := DataW.trod_struct ht h
  refine ⟨hl, m, by omega, fun i f hi => ?_⟩
  have hi' : i < fs.size := (Array.getElem?_eq_some_iff.1 hi).1
  have h2 : xs[i]? = some xs[i] := List.getElem?_eq_getElem (by omega)
  refine ⟨xs[i], (hf i f hi).trans h2, fun z hz => hw z ?_⟩
  rw [hx]
  simp only [DataW.weights, ht]
  exact weightsEach_mem (i := i) (t := f.type) (d := xs[i].1) (by simp [hi]) (by simp [h2]) z hz

variable {n : Nat} {t : TypeId} {v : Value} {l : List Value}

/-- A field of one cell. -/
theorem up_one (hc : P.cellsOf t = 1) (h : ∃ y, trodA enc P W n t ((v :: l).take (P.cellsOf t)) = some y ∧ RFits P t y.1) : ∃ y, trodA enc P W n t [v] = some y ∧ RFits P t y.1 := by
  rw [hc] at h
  exact h

theorem up_int {k : IntKind} (ht : P.underlying t = some (.int k)) (hc : P.cellsOf t = 1) (h : ∃ y, trodA enc P W n t ((v :: l).take (P.cellsOf t)) = some y ∧ RFits P t y.1) : ∃ x, v = .int k x ∧ (Lit.int k x).wf = true := by
  obtain ⟨y, h, _⟩ := up_one hc h
  obtain ⟨x, hx, _, hw⟩ := DataW.trod_int ht h
  exact ⟨x, by simpa using hx, hw⟩

theorem up_bool (ht : P.underlying t = some .bool) (hc : P.cellsOf t = 1) (h : ∃ y, trodA enc P W n t ((v :: l).take (P.cellsOf t)) = some y ∧ RFits P t y.1) : ∃ x, v = .bool x := by
  obtain ⟨y, h, _⟩ := up_one hc h
  obtain ⟨x, hx, _⟩ := DataW.trod_bool ht h
  exact ⟨x, by simpa using hx⟩

theorem up_string (ht : P.underlying t = some .string) (hc : P.cellsOf t = 1) (h : ∃ y, trodA enc P W n t ((v :: l).take (P.cellsOf t)) = some y ∧ RFits P t y.1) : ∃ x : ByteArray, v = .string x ∧ x.data.toList.length ≤ 140737488351232 := by
  obtain ⟨y, h, hf⟩ := up_one hc h
  obtain ⟨x, hx, hy, _⟩ := DataW.trod_string ht h
  refine ⟨x, by simpa using hx, hf _ ?_⟩
  rw [hy]
  simp [DataW.weights]

theorem up_bytes {e : TypeId} (ht : P.underlying t = some (.slice e)) (he : P.underlying e = some (.int .u8)) (hc : P.cellsOf e = 1) (hb : P.bytesOf e = 1) (ht1 : P.cellsOf t = 1) (h : ∃ y, trodA enc P W n t ((v :: l).take (P.cellsOf t)) = some y ∧ RFits P t y.1) : ∃ bs, SlB (allOf W) v bs := by
  obtain ⟨y, h, hf⟩ := up_one ht1 h
  obtain ⟨rows, h1, h2, h3⟩ := slice_up ht hc (by omega) hb h hf
  have key : ∀ rows : List (List Value), (∀ r ∈ rows, r.length = 1 ∧ ∃ m y, m < n ∧ trodA enc P W m e r = some y ∧ RFits P e y.1) → ∃ bs : List UInt8, rows.flatten = bs.map bv ∧ bs.length = rows.length := by
    intro rows
    induction rows with
    | nil => exact fun _ => ⟨[], rfl, rfl⟩
    | cons r rows ih =>
      intro h
      obtain ⟨bs, k1, k2⟩ := ih fun x hx => h x (List.mem_cons_of_mem _ hx)
      obtain ⟨_, m, y, _, h5, _⟩ := h r (by simp)
      obtain ⟨x, hx, _, hwf⟩ := DataW.trod_int he h5
      have hr : 0 ≤ x ∧ x < 256 := by
        simp only [Lit.wf, Bool.and_eq_true, decide_eq_true_eq] at hwf
        have h8 : IntKind.u8.min = 0 := rfl
        have h9 : IntKind.u8.max = 255 := rfl
        omega
      refine ⟨UInt8.ofNat x.toNat :: bs, ?_, by simp [k2]⟩
      rw [List.flatten_cons, k1, hx, List.map_cons]
      simp only [bv, List.cons_append, List.nil_append, List.cons.injEq, and_true]
      congr 1
      simp only [UInt8.toNat_ofNat']
      omega
  obtain ⟨bs, k1, k2⟩ := key rows h3
  refine ⟨bs, ?_, by omega⟩
  rw [k2, ← k1]
  exact h1

end

/-- A contract whose arena is all that lay: what lay lies as it lay. -/
theorem below_of_moves {A' : Arena} {w w' : World} (hs : (allOf w).Sub A') (hm : Moves (allOf w) A' w w') : Below w.heap.size w w' := by
  have hb : ∀ k, k < w.heap.size → w'.heap[k]? = w.heap[k]? := fun k hk => by
    have h0 : w.heap[k]? = some w.heap[k] := Array.getElem?_eq_getElem hk
    rw [hm.sub k _ (hs k _ h0)]
    exact h0.symm
  refine ⟨hm.os, hm.tape, hm.out, ?_, hb⟩
  rcases Nat.eq_zero_or_pos w.heap.size with h0 | h0
  · omega
  · have h1 := hb (w.heap.size - 1) (by omega)
    have h2 : (w.heap[w.heap.size - 1]?) = some w.heap[w.heap.size - 1] := Array.getElem?_eq_getElem (by omega)
    rw [h2] at h1
    have := (Array.getElem?_eq_some_iff.1 h1).1
    omega

/-- A contract, as what a call shows. -/
theorem calls_of_fok {P : Program} {f : FuncId} {S : FSpec} (h : FOk P f S) {fn : Func} (hf : P.funcs[f]? = some fn) (hn : (fn.name == "runtime.NumGoroutine") = false) (hb : fn.body.isSome = true) (g : S.γ) (vs : List Value) (w : World) (hp : S.pre g vs (allOf w))
    (hs : ∀ v A', S.post g vs (allOf w) v A' → (allOf w).Sub A') : Calls P f vs.toArray w fun e w' => ∃ v, e = .returned v ∧ (∃ A', S.post g vs (allOf w) v A') ∧ Below w.heap.size w w' :=
  (calls_of_goes (h g vs (allOf w) w (fun _ _ h => h) hp) hf hn hb).mono fun _ _ ⟨v, he, A', h1, h2⟩ => ⟨v, he, ⟨A', h1⟩, below_of_moves (hs v A' h1) h2⟩

end
end Go.Sx

namespace Go.Proofs.YtmhnhkigbfdapaaGreatDoor
open Go.Sx Go.RowKit Go.ChangeShapes Go.WideShapes
noncomputable section

section
variable {H : Type} {enc : TypeId × Value → H} {W : World}

theorem member_up {n : Nat} {cs : List Value} (h : ∃ y, trodA enc Tryz.prog W n 119 cs = some y ∧ RFits Tryz.prog 119 y.1) : ∃ m : MemD, cs = m.cells := by
  obtain ⟨y, h, hf⟩ := h
  obtain ⟨hl, m, _, hx⟩ := fields_up (P := Tryz.prog) Tryz.underlying119 h hf
  have hl : cs.length = 4 := hl.trans (by kernel_rfl)
  obtain ⟨v0, v1, v2, v3, rfl⟩ := list4 hl
  obtain ⟨c0, rfl, _⟩ := up_int (v := v0) (l := [v1, v2, v3]) Tryz.underlying3 (by kernel_rfl) (hx 0 _ rfl)
  obtain ⟨c1, rfl, _⟩ := up_int (v := v1) (l := [v2, v3]) Tryz.underlying117 (by kernel_rfl) (hx 1 _ rfl)
  obtain ⟨c2, rfl, _⟩ := up_int (v := v2) (l := [v3]) Tryz.underlying3 (by kernel_rfl) (hx 2 _ rfl)
  obtain ⟨c3, rfl, _⟩ := up_int (v := v3) (l := []) Tryz.underlying3 (by kernel_rfl) (hx 3 _ rfl)
  exact ⟨⟨c0, c1, c2, c3⟩, rfl⟩

theorem members_up {n : Nat} {v : Value} {l : List Value} (h : ∃ y, trodA enc Tryz.prog W n 31 ((v :: l).take (Tryz.prog.cellsOf 31)) = some y ∧ RFits Tryz.prog 31 y.1) : ∃ ms, MemR (allOf W) v ms := by
  obtain ⟨y, h, hf⟩ := up_one (by kernel_rfl) h
  obtain ⟨rows, h1, h2, h3⟩ := slice_up (es := 4) (B := 32) Tryz.underlying31 (by kernel_rfl) (by decide) (by kernel_rfl) h hf
  have key : ∀ rows : List (List Value), (∀ r ∈ rows, r.length = 4 ∧ ∃ m y, m < n ∧ trodA enc Tryz.prog W m 119 r = some y ∧ RFits Tryz.prog 119 y.1) → ∃ ms : List MemD, rows = ms.map MemD.cells := by
    intro rows
    induction rows with
    | nil => exact fun _ => ⟨[], rfl⟩
    | cons r rows ih =>
      intro h
      obtain ⟨ms, rfl⟩ := ih fun x hx => h x (List.mem_cons_of_mem _ hx)
      obtain ⟨_, m, y, _, h5, h6⟩ := h r (by simp)
      obtain ⟨d, rfl⟩ := member_up ⟨y, h5, h6⟩
      exact ⟨d :: ms, rfl⟩
  obtain ⟨ms, rfl⟩ := key rows h3
  rw [List.length_map] at h1 h2
  exact ⟨ms, h1, h2⟩

theorem deeds_rows {n : Nat} (ih : ∀ m, m < n → ∀ cs, (∃ y, trodA enc Tryz.prog W m 36 cs = some y ∧ RFits Tryz.prog 36 y.1) → ∃ d, DeedR (allOf W) d cs) :
    ∀ rows : List (List Value), (∀ r ∈ rows, r.length = 16 ∧ ∃ m y, m < n ∧ trodA enc Tryz.prog W m 36 r = some y ∧ RFits Tryz.prog 36 y.1) → ∃ ds, DeedsR (allOf W) ds rows
  | [], _ => ⟨[], rfl⟩
  | r :: rows, h => by
    obtain ⟨ds, hd⟩ := deeds_rows ih rows fun x hx => h x (List.mem_cons_of_mem _ hx)
    obtain ⟨_, m, y, h4, h5, h6⟩ := h r (by simp)
    obtain ⟨d, hr⟩ := ih m h4 r ⟨y, h5, h6⟩
    exact ⟨d :: ds, r, rows, rfl, hr, hd⟩

theorem deed_up (n : Nat) : ∀ cs, (∃ y, trodA enc Tryz.prog W n 36 cs = some y ∧ RFits Tryz.prog 36 y.1) → ∃ d, DeedR (allOf W) d cs := by
  induction n using Nat.strongRecOn with
  | _ n ih =>
    intro cs ⟨y, h, hf⟩
    obtain ⟨hl, m, hm, hx⟩ := fields_up (P := Tryz.prog) Tryz.underlying36 h hf
    have hl : cs.length = 16 := hl.trans (by kernel_rfl)
    obtain ⟨v0, v1, v2, v3, v4, v5, v6, v7, v8, v9, v10, v11, v12, v13, v14, v15, rfl⟩ := list16 hl
    obtain ⟨c0, rfl, _⟩ := up_int (v := v0) (l := [v1, v2, v3, v4, v5, v6, v7, v8, v9, v10, v11, v12, v13, v14, v15]) Tryz.underlying27 (by kernel_rfl) (hx 0 _ rfl)
    obtain ⟨c1, rfl, _⟩ := up_int (v := v1) (l := [v2, v3, v4, v5, v6, v7, v8, v9, v10, v11, v12, v13, v14, v15]) Tryz.underlying28 (by kernel_rfl) (hx 1 _ rfl)
    obtain ⟨c2, rfl, _⟩ := up_int (v := v2) (l := [v3, v4, v5, v6, v7, v8, v9, v10, v11, v12, v13, v14, v15]) Tryz.underlying2 (by kernel_rfl) (hx 2 _ rfl)
    obtain ⟨c3, rfl, _⟩ := up_int (v := v3) (l := [v4, v5, v6, v7, v8, v9, v10, v11, v12, v13, v14, v15]) Tryz.underlying3 (by kernel_rfl) (hx 3 _ rfl)
    obtain ⟨c4, rfl, _⟩ := up_int (v := v4) (l := [v5, v6, v7, v8, v9, v10, v11, v12, v13, v14, v15]) Tryz.underlying3 (by kernel_rfl) (hx 4 _ rfl)
    obtain ⟨c5, rfl, _⟩ := up_int (v := v5) (l := [v6, v7, v8, v9, v10, v11, v12, v13, v14, v15]) Tryz.underlying2 (by kernel_rfl) (hx 5 _ rfl)
    obtain ⟨c6, rfl, hc6⟩ := up_string (v := v6) (l := [v7, v8, v9, v10, v11, v12, v13, v14, v15]) Tryz.underlying9 (by kernel_rfl) (hx 6 _ rfl)
    obtain ⟨bs, hbs⟩ := up_bytes (v := v7) (l := [v8, v9, v10, v11, v12, v13, v14, v15]) Tryz.underlying29 Tryz.underlying5 (by kernel_rfl) (by kernel_rfl) (by kernel_rfl) (hx 7 _ rfl)
    obtain ⟨c8, rfl, _⟩ := up_int (v := v8) (l := [v9, v10, v11, v12, v13, v14, v15]) Tryz.underlying2 (by kernel_rfl) (hx 8 _ rfl)
    obtain ⟨c9, rfl, _⟩ := up_int (v := v9) (l := [v10, v11, v12, v13, v14, v15]) Tryz.underlying3 (by kernel_rfl) (hx 9 _ rfl)
    obtain ⟨c10, rfl, _⟩ := up_int (v := v10) (l := [v11, v12, v13, v14, v15]) Tryz.underlying3 (by kernel_rfl) (hx 10 _ rfl)
    obtain ⟨c11, rfl, _⟩ := up_int (v := v11) (l := [v12, v13, v14, v15]) Tryz.underlying3 (by kernel_rfl) (hx 11 _ rfl)
    obtain ⟨c12, rfl, _⟩ := up_int (v := v12) (l := [v13, v14, v15]) Tryz.underlying30 (by kernel_rfl) (hx 12 _ rfl)
    have he : ∃ y, trodA enc Tryz.prog W m 33 ([v13, v14, v15].take (Tryz.prog.cellsOf 33)) = some y ∧ RFits Tryz.prog 33 y.1 := hx 13 _ rfl
    rw [show Tryz.prog.cellsOf 33 = 2 by kernel_rfl] at he
    obtain ⟨ye, he, hfe⟩ := he
    obtain ⟨_, me, _, hxe⟩ := fields_up (P := Tryz.prog) Tryz.underlying33 he hfe
    obtain ⟨c13, rfl, _⟩ := up_int (v := v13) (l := [v14]) Tryz.underlying27 (by kernel_rfl) (hxe 0 _ rfl)
    have h14 := hxe 1 _ rfl
    obtain ⟨ms, hms⟩ := members_up (v := v14) (l := []) h14
    obtain ⟨y, h, hf⟩ := up_one (P := Tryz.prog) (t := 34) (v := v15) (l := []) (by kernel_rfl) (hx 14 _ rfl)
    obtain ⟨rows, h1, h2, h3⟩ := slice_up (es := 16) (B := 184) Tryz.underlying34 (by kernel_rfl) (by decide) (by kernel_rfl) h hf
    obtain ⟨ds, hds⟩ := deeds_rows (n := m) (fun k hk => ih k (by omega)) rows h3
    have hlen := hds.length
    rw [hlen] at h1 h2
    exact ⟨.mk ⟨c0, c1, c2, c3, c4, c5, c6, bs, c8, c9, c10, c11, c12, c13, ms⟩ ds, v7, v14, v15, rows, rfl, hc6, hbs, hms, h1, h2, hds⟩

theorem deeds_up {v : Value} {d : DataW H} {ps : List MemPlace} (h : DataW.Trod enc Tryz.prog W 0 (fun _ => true) true 34 v d ps) (hf : RFits Tryz.prog 34 d) (hv : v.cells.toList = [v]) : ∃ ds, DeedsS (allOf W) v ds := by
  obtain ⟨n, h⟩ := h
  rw [hv] at h
  obtain ⟨rows, h1, h2, h3⟩ := slice_up (es := 16) (B := 184) Tryz.underlying34 (by kernel_rfl) (by decide) (by kernel_rfl) h hf
  obtain ⟨ds, hds⟩ := deeds_rows (n := n) (fun k _ => deed_up k) rows h3
  have hlen := hds.length
  rw [hlen] at h1 h2
  exact ⟨ds, rows, h1, h2, hds⟩

end

end
end Go.Proofs.YtmhnhkigbfdapaaGreatDoor
