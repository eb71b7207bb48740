/-
  The program's writer: bytes more.
  A list in a block that is new; frames, plain.
  Contracts: bytes in a row of their own.
  Readers in a block: what is left lies in rows that stay.
  Frames taken off: plain; parts of a slice of bytes.
  Plain: an image out of bytes.
  Rows of nodes that are made by append, with their data; readers beside them.
  wire.Reader: fail, take.
  wire.Reader: Int.
  wire.Reader: Count, Byte, Text, Bytes, NewReader.
  New readers: the program's.
  ensemble.Get.
  What a get of an image gives.
  wire.Writer: Byte, Int.
-/
import Derived.Test.YtiabopbigplklaaDoorG08
import Derived.Test.YtiabopbigplklaaDoorG07
namespace Go.Proofs.YtiabopbigplklaaDoor
open Go.Sx Go.RowKit
noncomputable section
open Classical

theorem src_none {h : HS} {ao : Option Addr} {n m c : Nat} (hn : n = 0) : srcA h 1 n (.v (.slice ao m c)) = some [] := by
  rcases ao with _ | ⟨g, o, _ | sp⟩ <;> exact if_pos hn

theorem src_row {h : HS} {g o n m c : Nat} {ys : List Value} (hn : n ≠ 0) (hr : h.M.A.rd g o (n * 1) = some ys) : srcA h 1 n (.v (.slice (some ⟨g, o, none⟩) m c)) = some ys :=
  (if_neg hn).trans hr

structure BwG where
  w : Nat
  L : LsD
  l : List UInt8
  s : List UInt8
  C : Arena

def bfWrS : FSpec := ⟨BwG, fun g vs A => ∃ x, vs = [.pointer (some ⟨g.w, 0, none⟩), x] ∧ BfR A g.w g.L g.l ∧ g.l.length + g.s.length ≤ 890000000 ∧ Sl g.C 1 g.s.length x (g.s.map bv) ∧ ∀ k o, g.C.blk k = some o → A.blk k = some o ∧ k ≠ g.w ∧ g.L.g ≠ some k, fun g _ A v A' => v = .tuple #[.int .i64 g.s.length, .nilIface] ∧ BfTo A g.w g.L (g.l ++ g.s) A'⟩

set_option maxRecDepth 100000 in
set_option maxHeartbeats 0 in
theorem bfWr_ok : FOk Tryd.prog 38 bfWrS := by
  refine fok_v mixed fun ⟨w, L, l, s, C⟩ vs A hp => ?_
  obtain ⟨x, rfl, hW, hlen, hX, hCA⟩ : ∃ x, vs = [.pointer (some ⟨w, 0, none⟩), x] ∧ BfR A w L l ∧ l.length + s.length ≤ 890000000 ∧ Sl C 1 s.length x (s.map bv) ∧ ∀ k o, C.blk k = some o → A.blk k = some o ∧ k ≠ w ∧ L.g ≠ some k := hp
  obtain ⟨ao, cx, rfl, hcx, hlx, ha1, ha2, ha3⟩ := hX
  have hC : CTSound Tryd.prog (lookC [specE 49 bfGrowS] noC) := lookC_sound (noC_sound _) (fun x hx => by
    simp only [List.mem_singleton] at hx
    subst hx
    exact specE_ok bfGrow_ok)
  have hform : s = [] ∨ ∃ gs o9, ao = some ⟨gs, o9, none⟩ ∧ C.rd gs o9 (s.length * 1) = some (s.map bv) := by
    by_cases h : s = []
    · exact .inl h
    · refine .inr (Sl.at_ hcx ha1 ha2 ha3 ?_)
      cases s with
      | nil => exact absurd rfl h
      | cons y ys => simp
  refine ⟨_, noL, 60, hC, noL_sound _, fun blk os out tape D hD => ?_⟩
  have hL := hW.len
  have hcp := hW.cap
  obtain ⟨lr, htop⟩ := hW.top
  have hroom : A.Room w 2 1 := htop.room (by show 2 + 1 ≤ 3; omega)
  conv => lhs; whnf
  repeat (first | refine go_D hD rfl ?_
          conv => lhs; whnf)
  refine (hD _).2 ⟨hroom, fun A1 hP1 => ?_⟩
  have hP1 : A.Put A1 w 2 [.int .i8 0] := hP1
  have hW1 := hW.put2 hP1
  have ht1 : CellsAt A1 w [L.v, .int .i64 0, .int .i8 0] := htop.put hP1 (by show 2 + 1 ≤ 3; omega)
  have hrow := hW.row
  by_cases hs0 : s = []
  · subst hs0
    rcases hrow with ⟨k1, k2, k3, k4, -⟩ | ⟨g, k1, k2, k3, k5⟩
    · have hnil := hW.nil k1
      rw [hnil] at ht1
      have r1 : A1.rd w 0 1 = some [.slice none 0 0] := ht1.rd (o := 0) (n := 1) (by show 0 + 1 ≤ 3; omega)
      conv => lhs; whnf
      repeat (first | refine go_rd r1 ?_ | refine go_D hD rfl ?_
              conv => lhs; whnf)
      refine (hD _).2 ⟨ht1.room (by show 0 + 1 ≤ 3; omega), fun A2 hP2 => ?_⟩
      have hP2 : A1.Put A2 w 0 [.slice none 0 0] := hP2
      have ht2 : CellsAt A2 w [.slice none 0 0, .int .i64 0, .int .i8 0] := ht1.put hP2 (by show 0 + 1 ≤ 3; omega)
      have r2 : A2.rd w 0 1 = some [.slice none 0 0] := ht2.rd (o := 0) (n := 1) (by show 0 + 1 ≤ 3; omega)
      have hW2 : BfR A2 w L (l ++ []) := by
        rw [List.append_nil]
        exact ⟨⟨0, by rw [hnil]; exact ht2⟩, hW.row.keep fun g o hg _ => (by rw [k1] at hg; cases hg), hW.ne, hW.nil, hW.cap⟩
      have hfin : BfTo A w L (l ++ []) A2 := ⟨L, hW2, fun k o hk hw _ => by rw [hP2.other k hw, hP1.other k hw]; exact hk, fun g hg => .inl hg⟩
      have hend : bfWrS.post ⟨w, L, l, [], C⟩ [] A (.tuple #[.int .i64 0, .nilIface]) A2 := ⟨rfl, hfin⟩
      conv => lhs; whnf
      repeat (first | refine go_rd r2 ?_ | refine go_D hD rfl ?_
              conv => lhs; whnf)
      exact (hD _).2 hend
    · rw [k2] at ht1
      have r1 : A1.rd w 0 1 = some [.slice (some ⟨g, 0, none⟩) L.n L.c] := ht1.rd (o := 0) (n := 1) (by show 0 + 1 ≤ 3; omega)
      conv => lhs; whnf
      repeat (first | refine go_rd r1 ?_ | refine go_D hD rfl ?_
              conv => lhs; whnf)
      have e1 : IntKind.i64.wrap ((L.c : Int) - (L.n : Int)) = (L.c : Int) - (L.n : Int) := i64_in (by omega) (by omega)
      have hle : L.n ≤ L.c := k5.le
      refine split_dec (fun h1 => ?_) (fun h1 => absurd h1 (by intro h9; exact h9 (by rw [e1]; show (0 : Int) ≤ _; omega)))
      conv => lhs; whnf
      repeat (first | refine go_rd r1 ?_ | refine go_D hD rfl ?_
              conv => lhs; whnf)
      have e6 : IntKind.i64.wrap ((L.n : Int) + ((0 : Nat) : Int)) = (L.n : Int) := by
        rw [i64_in (by omega) (by omega)]
        omega
      refine go_b (bnd_upto e6 hle) ?_
      conv => lhs; whnf
      repeat (first | refine go_rd r1 ?_ | refine go_D hD rfl ?_
              conv => lhs; whnf)
      refine (hD _).2 ⟨ht1.room (by show 0 + 1 ≤ 3; omega), fun A2 hP2 => ?_⟩
      have hP2 : A1.Put A2 w 0 [.slice (some ⟨g, 0 + (bif L.c.beq (Int.toNat 0) then 0 else Int.toNat 0 * 1), none⟩) ((IntKind.i64.wrap ((L.n : Int) + ((0 : Nat) : Int))).toNat - Int.toNat 0) (L.c - Int.toNat 0)] := hP2
      have e8 : (bif L.c.beq (Int.toNat 0) then 0 else Int.toNat 0 * 1) = 0 := by cases L.c.beq (Int.toNat 0) <;> rfl
      rw [e6, e8] at hP2
      have hP2 : A1.Put A2 w 0 [.slice (some ⟨g, 0, none⟩) L.n L.c] := hP2
      have ht2 : CellsAt A2 w [.slice (some ⟨g, 0, none⟩) L.n L.c, .int .i64 0, .int .i8 0] := ht1.put hP2 (by show 0 + 1 ≤ 3; omega)
      have hgw : g ≠ w := fun e => hW.ne (by rw [k1, e])
      have hr2 : LRow A2 g 1 5 L.n L.c (l.map bv) := k5.keep (by rw [hP2.other g hgw, hP1.other g hgw])
      have r2 : A2.rd w 0 1 = some [.slice (some ⟨g, 0, none⟩) L.n L.c] := ht2.rd (o := 0) (n := 1) (by show 0 + 1 ≤ 3; omega)
      conv => lhs; whnf
      repeat (first | refine go_rd r2 ?_ | refine go_D hD rfl ?_
              conv => lhs; whnf)
      refine go_b (bnd_down (k := L.n) (c := L.n) rfl (Nat.le_refl _)) ?_
      conv => lhs; whnf
      repeat (first | refine go_rd r2 ?_ | refine go_rd r1 ?_ | refine go_D hD rfl ?_
              conv => lhs; whnf)
      have e9 : (bif L.c.beq ((L.n : Int).toNat) then 0 else (L.n : Int).toNat * 1) ≤ L.c := by
        cases L.c.beq ((L.n : Int).toNat)
        · show (L.n : Int).toNat * 1 ≤ L.c
          omega
        · exact Nat.zero_le _
      have e10 : Nat.min 0 ((L.n : Int).toNat - (L.n : Int).toNat) = 0 := Nat.zero_min _
      refine (hD _).2 ⟨[], src_none e10, fun v hv => (by cases hv), hr2.room (by show 0 + (bif L.c.beq ((L.n : Int).toNat) then 0 else (L.n : Int).toNat * 1) + 0 ≤ L.c * 1; omega), fun A3 hP3 => ?_⟩
      have hn3 := put_nil hP3
      have hW3 : BfR A3 w L (l ++ []) := by
        rw [List.append_nil]
        exact ⟨⟨0, by rw [k2]; exact ht2.sub fun o ho => (hn3 w).trans ho⟩, .inr ⟨g, k1, k2, k3, hr2.keep (hn3 g)⟩, hW.ne, hW.nil, hW.cap⟩
      have hfin : BfTo A w L (l ++ []) A3 := ⟨L, hW3, fun k o hk hw _ => by rw [hn3 k]; show A2.blk k = some o; rw [hP2.other k hw, hP1.other k hw]; exact hk, fun g hg => .inl hg⟩
      have hend : bfWrS.post ⟨w, L, l, [], C⟩ [] A (.tuple #[.int .i64 (Nat.min 0 ((L.n : Int).toNat - (L.n : Int).toNat) : Nat), .nilIface]) A3 := ⟨by rw [e10]; rfl, hfin⟩
      conv => lhs; whnf
      repeat (first | refine go_D hD rfl ?_
              conv => lhs; whnf)
      exact (hD _).2 hend
  have hpos : 0 < s.length := by
    cases s with
    | nil => exact absurd rfl hs0
    | cons x xs => simp
  have hform := hform.resolve_left hs0
  obtain ⟨gs, o9, rfl, hrd⟩ := hform
  rcases hrow with ⟨k1, k2, k3, k4, -⟩ | ⟨g, k1, k2, k3, k5⟩
  · rw [hW.nil k1] at ht1
    have r1 : A1.rd w 0 1 = some [.slice none 0 0] := ht1.rd (o := 0) (n := 1) (by show 0 + 1 ≤ 3; omega)
    conv => lhs; whnf
    repeat (first | refine go_rd r1 ?_ | refine go_D hD rfl ?_
            conv => lhs; whnf)
    refine split_dec (fun h => absurd h (by show ¬ ((s.length : Int) ≤ 0); omega)) (fun _ => ?_)
    conv => lhs; whnf
    repeat (first | refine go_rd r1 ?_ | refine go_D hD rfl ?_
            conv => lhs; whnf)
    refine (hD _).2 ⟨(⟨w, L, l, s.length⟩ : BfG), ⟨rfl, hW1, hpos, by show l.length + s.length ≤ 900000000; omega, by show L.c < l.length + s.length; omega⟩, fun v A2 hq => ?_⟩
    obtain ⟨hv, kb, c, zs, ⟨lr2, ht2⟩, hr2, hz, hc0, hcm, hkw, hg, hk2⟩ : v = .int .i64 l.length ∧ BfRoom A1 w L l s.length A2 := hq
    subst hv
    have r2 : A2.rd w 0 1 = some [.slice (some ⟨kb, 0, none⟩) (l.length + s.length) c] := ht2.rd (o := 0) (n := 1) (by show 0 + 1 ≤ 3; omega)
    have hcl := hr2.le
    conv => lhs; whnf
    repeat (first | refine go_rd r2 ?_ | refine go_D hD rfl ?_
            conv => lhs; whnf)
    have hC2 : C.Sub A2 := fun k o hk => hk2 k o (by rw [hP1.other k (hCA k o hk).2.1]; exact (hCA k o hk).1) (hCA k o hk).2.1 (hCA k o hk).2.2
    have hrd2 := rd_sub hC2 hrd
    refine go_b (bnd_down (k := l.length) (c := l.length + s.length) rfl (by omega)) ?_
    conv => lhs; whnf
    repeat (first | refine go_rd r2 ?_ | refine go_rd r1 ?_ | refine go_D hD rfl ?_
            conv => lhs; whnf)
    have e9 : (bif (c).beq ((l.length : Int).toNat) then 0 else (l.length : Int).toNat * 1) = l.length := by
      rw [show (c).beq ((l.length : Int).toNat) = false from beq_ne (by omega)]
      exact Nat.mul_one _
    have e10 : Nat.min s.length ((((l.length + s.length : Nat) : Int)).toNat - (l.length : Int).toNat) = s.length := Nat.min_eq_left (by omega)
    refine (hD _).2 ⟨s.map bv, src_row (by rw [e10]; omega) (by rw [e10]; exact hrd2), bv_one s, hr2.room (by show 0 + (bif (c).beq ((l.length : Int).toNat) then 0 else (l.length : Int).toNat * 1) + (s.map bv).length ≤ c * 1; rw [e9, List.length_map]; omega), fun A3 hP3 => ?_⟩
    have hP3 : A2.Put A3 kb (0 + (bif (c).beq ((l.length : Int).toNat) then 0 else (l.length : Int).toNat * 1)) (s.map bv) := hP3
    rw [e9, Nat.zero_add] at hP3
    have hfin := (bf_fill (ys := s) ht2 hr2 hz hc0 hcm hkw hg hk2 hP3 rfl).ahead hP1
    have hend : bfWrS.post ⟨w, L, l, s, C⟩ [] A (.tuple #[.int .i64 (Nat.min s.length (((l.length + s.length : Nat) : Int).toNat - (l.length : Int).toNat) : Nat), .nilIface]) A3 := ⟨by rw [e10], hfin⟩
    conv => lhs; whnf
    repeat (first | refine go_D hD rfl ?_
            conv => lhs; whnf)
    exact (hD _).2 hend
  · rw [k2] at ht1
    have r1 : A1.rd w 0 1 = some [.slice (some ⟨g, 0, none⟩) L.n L.c] := ht1.rd (o := 0) (n := 1) (by show 0 + 1 ≤ 3; omega)
    conv => lhs; whnf
    repeat (first | refine go_rd r1 ?_ | refine go_D hD rfl ?_
            conv => lhs; whnf)
    have e1 : IntKind.i64.wrap ((L.c : Int) - (L.n : Int)) = (L.c : Int) - (L.n : Int) := i64_in (by omega) (by omega)
    refine split_dec (fun h1 => ?_) (fun h1 => ?_)
    · rw [e1] at h1
      have h1 : (s.length : Int) ≤ (L.c : Int) - (L.n : Int) := h1
      conv => lhs; whnf
      repeat (first | refine go_rd r1 ?_ | refine go_D hD rfl ?_
              conv => lhs; whnf)
      have hle : L.n + s.length ≤ L.c := by omega
      have e6 : IntKind.i64.wrap ((L.n : Int) + (s.length : Int)) = ((L.n + s.length : Nat) : Int) := by
        rw [i64_in (by omega) (by omega)]
        omega
      refine go_b (bnd_upto e6 hle) ?_
      conv => lhs; whnf
      repeat (first | refine go_rd r1 ?_ | refine go_D hD rfl ?_
              conv => lhs; whnf)
      refine (hD _).2 ⟨ht1.room (by show 0 + 1 ≤ 3; omega), fun A2 hP2 => ?_⟩
      have hP2 : A1.Put A2 w 0 [.slice (some ⟨g, 0 + (bif L.c.beq (Int.toNat 0) then 0 else Int.toNat 0 * 1), none⟩) ((IntKind.i64.wrap ((L.n : Int) + (s.length : Int))).toNat - Int.toNat 0) (L.c - Int.toNat 0)] := hP2
      have e8 : (bif L.c.beq (Int.toNat 0) then 0 else Int.toNat 0 * 1) = 0 := by cases L.c.beq (Int.toNat 0) <;> rfl
      rw [e6, e8] at hP2
      have hP2 : A1.Put A2 w 0 [.slice (some ⟨g, 0, none⟩) (L.n + s.length) L.c] := hP2
      have ht2 : CellsAt A2 w [.slice (some ⟨g, 0, none⟩) (L.n + s.length) L.c, .int .i64 0, .int .i8 0] := ht1.put hP2 (by show 0 + 1 ≤ 3; omega)
      have hgw : g ≠ w := fun e => hW.ne (by rw [k1, e])
      have hr1 : LRow A2 g 1 5 L.n L.c (l.map bv) := k5.keep (by rw [hP2.other g hgw, hP1.other g hgw])
      have hwide := hr1.wide hle
      obtain ⟨zs, hz, hr2⟩ := hwide
      have hk2 : ∀ k' o, A1.blk k' = some o → k' ≠ w → L.g ≠ some k' → A2.blk k' = some o := fun k' o hk hw _ => by
        rw [hP2.other k' hw]
        exact hk
      have r2 : A2.rd w 0 1 = some [.slice (some ⟨g, 0, none⟩) (L.n + s.length) L.c] := ht2.rd (o := 0) (n := 1) (by show 0 + 1 ≤ 3; omega)
      conv => lhs; whnf
      repeat (first | refine go_rd r2 ?_ | refine go_D hD rfl ?_
              conv => lhs; whnf)
      have hC2 : C.Sub A2 := fun k o hk => hk2 k o (by rw [hP1.other k (hCA k o hk).2.1]; exact (hCA k o hk).1) (hCA k o hk).2.1 (hCA k o hk).2.2
      have hrd2 := rd_sub hC2 hrd
      refine go_b (bnd_down (k := L.n) (c := L.n + s.length) rfl (by omega)) ?_
      conv => lhs; whnf
      repeat (first | refine go_rd r2 ?_ | refine go_rd r1 ?_ | refine go_D hD rfl ?_
              conv => lhs; whnf)
      have e9 : (bif (L.c).beq ((L.n : Int).toNat) then 0 else (L.n : Int).toNat * 1) = L.n := by
        rw [show (L.c).beq ((L.n : Int).toNat) = false from beq_ne (by omega)]
        exact Nat.mul_one _
      have e10 : Nat.min s.length ((((L.n + s.length : Nat) : Int)).toNat - (L.n : Int).toNat) = s.length := Nat.min_eq_left (by omega)
      refine (hD _).2 ⟨s.map bv, src_row (by rw [e10]; omega) (by rw [e10]; exact hrd2), bv_one s, hr2.room (by show 0 + (bif (L.c).beq ((L.n : Int).toNat) then 0 else (L.n : Int).toNat * 1) + (s.map bv).length ≤ L.c * 1; rw [e9, List.length_map]; omega), fun A3 hP3 => ?_⟩
      have hP3 : A2.Put A3 g (0 + (bif (L.c).beq ((L.n : Int).toNat) then 0 else (L.n : Int).toNat * 1)) (s.map bv) := hP3
      rw [e9, Nat.zero_add] at hP3
      rw [hL] at hP3
      rw [hL] at ht2 hr2
      have hfin := (bf_fill (ys := s) ht2 hr2 hz k3 hcp hgw (.inl k1) hk2 hP3 rfl).ahead hP1
      have hend : bfWrS.post ⟨w, L, l, s, C⟩ [] A (.tuple #[.int .i64 (Nat.min s.length (((L.n + s.length : Nat) : Int).toNat - (L.n : Int).toNat) : Nat), .nilIface]) A3 := ⟨by rw [e10], hfin⟩
      conv => lhs; whnf
      repeat (first | refine go_D hD rfl ?_
              conv => lhs; whnf)
      exact (hD _).2 hend
    · rw [e1] at h1
      have h1 : ¬ (s.length : Int) ≤ (L.c : Int) - (L.n : Int) := h1
      conv => lhs; whnf
      repeat (first | refine go_rd r1 ?_ | refine go_D hD rfl ?_
              conv => lhs; whnf)
      refine (hD _).2 ⟨(⟨w, L, l, s.length⟩ : BfG), ⟨rfl, hW1, hpos, by show l.length + s.length ≤ 900000000; omega, by show L.c < l.length + s.length; omega⟩, fun v A2 hq => ?_⟩
      obtain ⟨hv, kb, c, zs, ⟨lr2, ht2⟩, hr2, hz, hc0, hcm, hkw, hg, hk2⟩ : v = .int .i64 l.length ∧ BfRoom A1 w L l s.length A2 := hq
      subst hv
      have r2 : A2.rd w 0 1 = some [.slice (some ⟨kb, 0, none⟩) (l.length + s.length) c] := ht2.rd (o := 0) (n := 1) (by show 0 + 1 ≤ 3; omega)
      have hcl := hr2.le
      conv => lhs; whnf
      repeat (first | refine go_rd r2 ?_ | refine go_D hD rfl ?_
              conv => lhs; whnf)
      have hC2 : C.Sub A2 := fun k o hk => hk2 k o (by rw [hP1.other k (hCA k o hk).2.1]; exact (hCA k o hk).1) (hCA k o hk).2.1 (hCA k o hk).2.2
      have hrd2 := rd_sub hC2 hrd
      refine go_b (bnd_down (k := l.length) (c := l.length + s.length) rfl (by omega)) ?_
      conv => lhs; whnf
      repeat (first | refine go_rd r2 ?_ | refine go_rd r1 ?_ | refine go_D hD rfl ?_
              conv => lhs; whnf)
      have e9 : (bif (c).beq ((l.length : Int).toNat) then 0 else (l.length : Int).toNat * 1) = l.length := by
        rw [show (c).beq ((l.length : Int).toNat) = false from beq_ne (by omega)]
        exact Nat.mul_one _
      have e10 : Nat.min s.length ((((l.length + s.length : Nat) : Int)).toNat - (l.length : Int).toNat) = s.length := Nat.min_eq_left (by omega)
      refine (hD _).2 ⟨s.map bv, src_row (by rw [e10]; omega) (by rw [e10]; exact hrd2), bv_one s, hr2.room (by show 0 + (bif (c).beq ((l.length : Int).toNat) then 0 else (l.length : Int).toNat * 1) + (s.map bv).length ≤ c * 1; rw [e9, List.length_map]; omega), fun A3 hP3 => ?_⟩
      have hP3 : A2.Put A3 kb (0 + (bif (c).beq ((l.length : Int).toNat) then 0 else (l.length : Int).toNat * 1)) (s.map bv) := hP3
      rw [e9, Nat.zero_add] at hP3
      have hfin := (bf_fill (ys := s) ht2 hr2 hz hc0 hcm hkw hg hk2 hP3 rfl).ahead hP1
      have hend : bfWrS.post ⟨w, L, l, s, C⟩ [] A (.tuple #[.int .i64 (Nat.min s.length (((l.length + s.length : Nat) : Int).toNat - (l.length : Int).toNat) : Nat), .nilIface]) A3 := ⟨by rw [e10], hfin⟩
      conv => lhs; whnf
      repeat (first | refine go_D hD rfl ?_
              conv => lhs; whnf)
      exact (hD _).2 hend

end
end Go.Proofs.YtiabopbigplklaaDoor

namespace Go.Proofs.YtiabopbigplklaaDoor
open Go.Sx Go.RowKit
noncomputable section
open Classical

theorem four_at0 (n : Nat) : Value.int .u8 (IntKind.u8.wrap (n : Int)) = bv (UInt8.ofNat (n % 256)) := by
  rw [bv_ofNat (Nat.mod_lt _ (by decide)), u8_wrap]

def frameL (l : List UInt8) : List UInt8 := fourL l.length ++ fourL (crcSum l).toNat ++ l

/-- A list of bytes that is new behind A. -/
def LsN (A A' : Arena) (L : LsD) (cs : List Value) : Prop := LsR A' 1 5 L cs ∧ ∀ g, L.g = some g → A.blk g = none

theorem none_of {A B : Arena} (h : A.Sub B) {g : Nat} (hg : B.blk g = none) : A.blk g = none := by
  cases hA : A.blk g with
  | none => rfl
  | some o => rw [h g o hA] at hg; cases hg

/-- A list that is new may grow: all else stays. -/
theorem LsN.more {A A3 A4 : Arena} {L L4 : LsD} {cs ys : List Value} (hs : A.Sub A3) (hg : ∀ g, L.g = some g → A.blk g = none) (q3 : LsR A4 1 5 L4 (cs ++ ys)) (q4 : ∀ g, L4.g = some g → L.g = some g ∨ A3.blk g = none) (q5 : ∀ k o, A3.blk k = some o → L.g ≠ some k → A4.blk k = some o) :
    A.Sub A4 ∧ LsN A A4 L4 (cs ++ ys) :=
  ⟨fun k o hk => q5 k o (hs k o hk) fun e => (by rw [hg k e] at hk; cases hk), q3, fun g h => (q4 g h).elim (hg g) fun h => none_of hs h⟩

theorem g4_of {A : Arena} {es : Nat} {e : TypeId} {L : LsD} {cs : List Value} {g : Nat} (h : LsR A es e L cs) (hv : L.v = .slice (some ⟨g, 0, none⟩) L.n L.c) (hn : 0 < L.n) : L.g = some g := by
  rcases h with ⟨_, h0, _⟩ | ⟨g', h1, h2, _⟩
  · omega
  · rw [hv] at h2
    injection h2 with h2
    injection h2 with h2
    injection h2 with h2
    rw [h1, h2]

theorem lsn_slb {A A' : Arena} {L : LsD} {l : List UInt8} (h : LsN A A' L (l.map bv)) (hl : l.length ≤ 140737488351232) : SlB A' L.v l := by
  refine ⟨?_, hl⟩
  have hn := h.1.len
  rw [List.length_map, Nat.mul_one] at hn
  rcases h.1 with ⟨h1, h2, h3, h4, base, h5⟩ | ⟨g, h1, h2, h3, h4⟩
  · have : l = [] := List.length_eq_zero_iff.1 (by omega)
    subst this
    rw [h5]
    exact Sl.zero _ _ (fun _ => rfl) (fun a ha h0 => absurd h0 (Nat.lt_irrefl _))
  · rw [h2, hn]
    have h9 : Sl A' 1 L.n (.slice (some ⟨g, 0, none⟩) L.n L.c) (l.map bv) := Sl.row h4.le h4.rd
    exact h9

theorem lsn_new {A A' : Arena} {L : LsD} {l : List UInt8} (h : LsN A A' L (l.map bv)) (hl : l.length ≤ 140737488351232) : SlB (A'.minus A) L.v l := by
  refine ⟨?_, hl⟩
  have hn := h.1.len
  rw [List.length_map, Nat.mul_one] at hn
  rcases h.1 with ⟨h1, h2, h3, h4, base, h5⟩ | ⟨g, h1, h2, h3, h4⟩
  · have : l = [] := List.length_eq_zero_iff.1 (by omega)
    subst this
    rw [h5]
    exact Sl.zero _ _ (fun _ => rfl) (fun a ha h0 => absurd h0 (Nat.lt_irrefl _))
  · rw [h2, hn]
    have h9 : Sl (A'.minus A) 1 L.n (.slice (some ⟨g, 0, none⟩) L.n L.c) (l.map bv) := Sl.row h4.le (rd_minus h4.rd (h.2 g h1))
    exact h9

end
end Go.Proofs.YtiabopbigplklaaDoor

namespace Go.Proofs.YtiabopbigplklaaDoor
open Go.Sx Go.RowKit
noncomputable section
open Classical

def cloneBytesS : FSpec := ⟨List UInt8, fun g vs A => ∃ x, vs = [x] ∧ SlB A x g, fun g _ A v A' => A.Sub A' ∧ SlB (A'.minus A) v g⟩

theorem nextcap0 {n : Nat} (h : 0 < 0 + n) : Builtin.nextslicecap (0 + n) 0 = n := by
  unfold Builtin.nextslicecap
  rw [if_pos (by omega)]; omega

set_option maxRecDepth 100000 in
set_option maxHeartbeats 0 in
theorem cloneBytes_ok : FOk Tryd.prog 41 cloneBytesS := by
  refine fok_v mixed fun bs vs A hp => ?_
  simp only [cloneBytesS] at hp
  obtain ⟨x, rfl, ⟨ao, c, rfl, hc, hl, ha1, ha2, ha3⟩, hxl⟩ := hp
  refine ⟨noC, noL, 60, noC_sound _, noL_sound _, fun blk os out tape D hD => ?_⟩
  conv => lhs; whnf
  refine split_b (fun hb => ?_) (fun hb => ?_) <;> (conv => lhs; whnf)
  · have h0 : ao = none := by simpa using hb
    have h1 := ha1 h0
    have h2 : bs = [] := List.length_eq_zero_iff.1 (by omega)
    subst h2
    exact (hD _).2 ⟨Arena.Sub.refl _, Sl.nil _ _, by simp⟩
  · have h0 : ∃ a, ao = some a := by cases ao with
      | none => simp at hb
      | some a => exact ⟨a, rfl⟩
    obtain ⟨⟨g, o, sp⟩, rfl⟩ := h0
    have hsp : sp = none ∨ bs.length = 0 := by
      rcases Nat.eq_zero_or_pos c with h | h
      · right; omega
      · left; exact ha2 _ rfl h
    rcases sp with _ | sp
    all_goals
      refine (hD _).2 fun g1 A1 hN => ?_
      conv => lhs; whnf
      refine (hD _).2 ⟨[], bs.map bv, rfl, ?_, hl, ?_, by omega, ?_, rfl, fun h => (by cases h), fun _ _ _ h1 h2 => ?_, fun v A2 hA => ?_⟩
      · first
        | (show (if bs.length = 0 then some [] else A1.rd g o (bs.length * 1)) = _
           by_cases h0 : bs.length = 0
           · rw [if_pos h0, List.length_eq_zero_iff.1 h0]; rfl
           · rw [if_neg h0]; exact rd_sub hN.sub (ha3 (by omega) _ rfl))
        | (have h9 : bs.length = 0 := hsp.resolve_left (by simp)
           show (if bs.length = 0 then some [] else none) = _
           (rw [if_pos h9, List.length_eq_zero_iff.1 h9]; rfl))
      · intro v hv
        obtain ⟨b, _, rfl⟩ := List.mem_map.1 hv; rfl
      · intro h0
        rw [nextcap0 h0]
        show bs.length * 1 ≤ _
        omega
      · exfalso
        have : bs.length = 0 := by omega
        exact h2 (by rw [List.length_eq_zero_iff.1 this]; rfl)
      · obtain ⟨k1, k2⟩ := clone_end hN.sub hA hl
        conv => lhs; whnf
        exact (hD _).2 ⟨k1, k2, hxl⟩

end
end Go.Proofs.YtiabopbigplklaaDoor

namespace Go.Proofs.YtiabopbigplklaaDoor
open Go.Sx Go.RowKit
noncomputable section
open Classical

theorem nbeq_ne {a b : Nat} (h : a ≠ b) : a.beq b = false := by
  cases e : a.beq b with
  | false => rfl
  | true => exact absurd (Nat.eq_of_beq_eq_true e) h

def stL : RdSt → List UInt8
  | some l => l
  | none => []

/-- In block r, what is left lies in D; f tells what the second cell says. -/
def RdG (f : RdSt → Bool) (D A : Arena) (r : Nat) (st : RdSt) : Prop :=
  ∃ v : Value, CellsAt A r [v, .bool (f st)] ∧ D.Sub A ∧ D.blk r = none ∧ Sl D 1 (stL st).length v ((stL st).map bv) ∧ (st = none → v = .slice none 0 0)

/-- All but block r stays. -/
def KeepR (A A' : Arena) (r : Nat) : Prop := ∀ k o, A.blk k = some o → k ≠ r → A'.blk k = some o

theorem KeepR.refl (A : Arena) (r : Nat) : KeepR A A r := fun _ _ h _ => h
theorem KeepR.trans {A B C : Arena} {r : Nat} (h : KeepR A B r) (k : KeepR B C r) : KeepR A C r := fun i o ho hi => k i o (h i o ho hi) hi
theorem KeepR.of_sub {A B : Arena} (h : A.Sub B) (r : Nat) : KeepR A B r := fun k o hk _ => h k o hk
theorem KeepR.sub {A B C : Arena} {r : Nat} (h : KeepR A B r) (hs : C.Sub A) (hr : C.blk r = none) : C.Sub B := fun k o hk => h k o (hs k o hk) fun e => by rw [e, hr] at hk; cases hk
theorem KeepR.put {A B : Arena} {r o : Nat} {vs : List Value} (h : A.Put B r o vs) : KeepR A B r := fun k ob hk hr => by rw [h.other k hr]; exact hk

/-- Something else changes. -/
theorem RdG.keep {f : RdSt → Bool} {D A B : Arena} {r : Nat} {st : RdSt} (h : RdG f D A r st) (hs : A.Sub B) : RdG f D B r st := by
  obtain ⟨v, h1, h2, h3, h4⟩ := h
  exact ⟨v, h1.sub fun o ho => hs r o ho, h2.trans hs, h3, h4⟩

theorem RdG.dsub {f : RdSt → Bool} {D A : Arena} {r : Nat} {st : RdSt} (h : RdG f D A r st) : D.Sub A := by
  obtain ⟨v, _, h2, _⟩ := h
  exact h2

/-- Something else is stored. -/
theorem RdG.other {f : RdSt → Bool} {D A B : Arena} {r : Nat} {st : RdSt} (h : RdG f D A r st) (hs : D.Sub B) (hr : B.blk r = A.blk r) : RdG f D B r st := by
  obtain ⟨v, h1, h2, h3, h4⟩ := h
  exact ⟨v, h1.sub fun o ho => hr.trans ho, hs, h3, h4⟩

theorem RdG.live2 {f : RdSt → Bool} {D A : Arena} {r : Nat} {st : RdSt} (h : RdG f D A r st) : ∃ o, A.blk r = some o := by
  obtain ⟨v, h1, _⟩ := h
  exact h1.dom

theorem minus_keep {A A1 A2 : Arena} {r : Nat} (h : KeepR A A1 r) (hr : ∃ o, A1.blk r = some o) : (A2.minus A1).Sub (A2.minus A) := fun k o hk => by
  obtain ⟨h1, h2⟩ := minus_blk hk
  refine minus_mk ?_ h2
  cases hA : A.blk k with
  | none => rfl
  | some ob =>
    by_cases e : k = r
    · obtain ⟨o', ho⟩ := hr
      rw [e, ho] at h1; cases h1
    · rw [h k ob hA e] at h1; cases h1

/-- The rest of a slice. -/
theorem Sl.tail {D : Arena} {l : List UInt8} {n : Nat} {ao : Option Addr} {m c : Nat} (h : Sl D 1 l.length (.slice ao m c) (l.map bv)) (hn : n ≤ l.length) :
    m = l.length ∧ l.length ≤ c ∧ Sl D 1 n (.slice ao n n) ((l.take n).map bv) ∧ (0 < c → ∃ g o, ao = some ⟨g, o, none⟩ ∧ ∀ ao', (n < c → ao' = some ⟨g, o + n, none⟩) → (n = c → ∃ g' o', ao' = some ⟨g', o', none⟩) → Sl D 1 (l.length - n) (.slice ao' (l.length - n) (c - n)) ((l.drop n).map bv)) ∧ (c = 0 → l = []) := by
  obtain ⟨ao0, c0, e, h0, h1, h2, h3, h4⟩ := h
  injection e with e1 e2 e3
  subst e1; subst e2; subst e3
  refine ⟨rfl, h0, ⟨ao, n, rfl, Nat.le_refl _, by rw [List.length_map, List.length_take]; omega, ?_, ?_, ?_⟩, fun hc => ?_, fun hc => List.length_eq_zero_iff.1 (by omega)⟩
  · intro e
    have := h2 e
    omega
  · intro a ha hn0
    exact h3 a ha (by omega)
  · intro hn0 a ha
    have h5 := h4 (by omega) a ha
    have h6 := rd_at h5 (i := 0) (m := n * 1) (by omega)
    rw [Nat.add_zero, List.drop_zero, ← List.map_take, Nat.mul_one] at h6
    rw [Nat.mul_one]
    exact h6
  · obtain ⟨⟨g, o, sp⟩, rfl⟩ : ∃ a, ao = some a := by
      cases ao with
      | none => have := h2 rfl; omega
      | some a => exact ⟨a, rfl⟩
    have hsp := h3 _ rfl hc
    simp only at hsp
    subst hsp
    refine ⟨g, o, rfl, fun ao' k1 k2 => ?_⟩
    refine ⟨ao', c - n, rfl, by omega, by rw [List.length_map, List.length_drop]; omega, fun e => ?_, fun a ha hc' => ?_, fun hpos a ha => ?_⟩
    · by_cases hlt : n < c
      · rw [k1 hlt] at e; cases e
      · obtain ⟨g', o', e'⟩ := k2 (by omega)
        rw [e'] at e; cases e
    · rw [k1 (by omega)] at ha
      injection ha with ha
      subst ha
      rfl
    · rw [k1 (by omega)] at ha
      injection ha with ha
      subst ha
      have h5 := h4 (by omega) _ rfl
      have h6 := rd_at h5 (i := n) (m := (l.length - n) * 1) (by omega)
      rw [← List.map_drop, List.take_of_length_le (by rw [List.length_map, List.length_drop]; omega)] at h6
      exact h6

end
end Go.Proofs.YtiabopbigplklaaDoor

namespace Go.Proofs.YtiabopbigplklaaDoor
open Go.Sx Go.RowKit
noncomputable section
open Classical

/-- A number of four bytes. -/
def numL (l : List UInt8) : Nat := (l.getD 0 0).toNat + (l.getD 1 0).toNat * 256 + (l.getD 2 0).toNat * 65536 + (l.getD 3 0).toNat * 16777216

theorem numL_lt (l : List UInt8) : numL l < 4294967296 := by
  unfold numL
  have h0 := (l.getD 0 0).toNat_lt
  have h1 := (l.getD 1 0).toNat_lt
  have h2 := (l.getD 2 0).toNat_lt
  have h3 := (l.getD 3 0).toNat_lt
  omega

/-- What is in a frame, and its length. -/
def unfrL (l : List UInt8) : Option (List UInt8 × Nat) :=
  if l.length < 8 ∨ 1048576 < numL l ∨ l.length < 8 + numL l ∨ (crcSum ((l.drop 8).take (numL l))).toNat ≠ numL (l.drop 4) then none else some ((l.drop 8).take (numL l), 8 + numL l)

theorem Sl.part {A : Arena} {l : List UInt8} {g o c lo hi : Nat} (h : Sl A 1 l.length (.slice (some ⟨g, o, none⟩) l.length c) (l.map bv)) (h1 : lo ≤ hi) (h2 : hi ≤ l.length) :
    Sl A 1 (hi - lo) (.slice (some ⟨g, o + (bif c.beq lo then 0 else lo * 1), none⟩) (hi - lo) (c - lo)) (((l.drop lo).take (hi - lo)).map bv) := by
  obtain ⟨ao0, c0, e, k0, k1, k2, k3, k4⟩ := h
  injection e with e1 e2 e3
  subst e1; subst e3
  refine ⟨_, _, rfl, by omega, by rw [List.length_map, List.length_take, List.length_drop]; omega, fun e => (by cases e), fun a ha _ => (by injection ha with ha; subst ha; rfl), fun hpos a ha => ?_⟩
  injection ha with ha
  subst ha
  have h5 := k4 (by omega) _ rfl
  have h6 := rd_at h5 (i := lo) (m := (hi - lo) * 1) (by omega)
  rw [nbeq_ne (show c ≠ lo by omega)]
  show A.rd g (o + lo * 1) ((hi - lo) * 1) = _
  rw [Nat.mul_one lo, h6, ← List.map_drop, ← List.map_take, Nat.mul_one]

/-! ### As the programs reckon -/

theorem or_u32 (a b : BitVec 32) : bitsOf .or .u32 (u32v a) (u32v b) = u32v (a ||| b) := by
  show IntKind.u32.wrap (((BitVec.ofInt IntKind.u32.bits (u32v a) ||| BitVec.ofInt IntKind.u32.bits (u32v b)).toNat : Nat) : Int) = _
  rw [ofInt_u32, ofInt_u32, u32_wrap (BitVec.isLt _)]
  rfl

theorem or_disj {a b k : Nat} (ha : a < 2 ^ k) (h : a + b * 2 ^ k < 4294967296) : bitsOf .or .u32 (a : Int) ((b * 2 ^ k : Nat) : Int) = ((a + b * 2 ^ k : Nat) : Int) := by
  show IntKind.u32.wrap (((BitVec.ofInt 32 ((a : Nat) : Int) ||| BitVec.ofInt 32 ((b * 2 ^ k : Nat) : Int)).toNat : Nat) : Int) = _
  rw [BitVec.ofInt_natCast, BitVec.ofInt_natCast, BitVec.toNat_or, BitVec.toNat_ofNat, BitVec.toNat_ofNat, Nat.mod_eq_of_lt (by omega), Nat.mod_eq_of_lt (by omega)]
  have hor : a ||| b * 2 ^ k = a + b * 2 ^ k := by
    rw [Nat.or_comm, ← Nat.shiftLeft_eq, ← Nat.shiftLeft_add_eq_or_of_lt ha, Nat.add_comm]
  rw [hor, u32_wrap h]

theorem shl_u32 {x k : Nat} (hx : x < 256) (hk : k ≤ 24) : IntKind.u32.wrap (IntKind.u32.wrap (x : Int) * 2 ^ (min (k : Int).toNat IntKind.u32.bits)) = ((x * 2 ^ k : Nat) : Int) := by
  have e : min (k : Int).toNat IntKind.u32.bits = k := by
    show min k 32 = k
    omega
  have h2 : 2 ^ k ≤ 2 ^ 24 := Nat.pow_le_pow_right (by decide) hk
  have h3 : x * 2 ^ k ≤ 255 * 2 ^ 24 := Nat.mul_le_mul (by omega) h2
  have h4 : 255 * 2 ^ 24 < 4294967296 := by decide
  have hz : ((x : Int) * 2 ^ k) = ((x * 2 ^ k : Nat) : Int) := by push_cast; rfl
  rw [e, u32_wrap (by omega), hz, u32_wrap (by omega)]

theorem num_or {a b c d : Nat} (ha : a < 256) (hb : b < 256) (hc : c < 256) (hd : d < 256) :
    bitsOf .or .u32 (bitsOf .or .u32 (bitsOf .or .u32 (IntKind.u32.wrap (a : Int)) (IntKind.u32.wrap (IntKind.u32.wrap (b : Int) * 2 ^ (min (8 : Int).toNat IntKind.u32.bits)))) (IntKind.u32.wrap (IntKind.u32.wrap (c : Int) * 2 ^ (min (16 : Int).toNat IntKind.u32.bits)))) (IntKind.u32.wrap (IntKind.u32.wrap (d : Int) * 2 ^ (min (24 : Int).toNat IntKind.u32.bits))) =
      ((a + b * 256 + c * 65536 + d * 16777216 : Nat) : Int) := by
  have e1 := shl_u32 (k := 8) hb (by decide)
  have e2 := shl_u32 (k := 16) hc (by decide)
  have e3 := shl_u32 (k := 24) hd (by decide)
  rw [show (8 : Int) = ((8 : Nat) : Int) from rfl, show (16 : Int) = ((16 : Nat) : Int) from rfl, show (24 : Int) = ((24 : Nat) : Int) from rfl, e1, e2, e3, u32_wrap (by omega), or_disj (k := 8) ha (by omega), or_disj (k := 16) (by omega) (by omega), or_disj (k := 24) (by omega) (by omega)]

theorem num_add {a b c d : Nat} (ha : a < 256) (hb : b < 256) (hc : c < 256) (hd : d < 256) :
    IntKind.u32.wrap (IntKind.u32.wrap (IntKind.u32.wrap (IntKind.u32.wrap (a : Int) + IntKind.u32.wrap (IntKind.u32.wrap (b : Int) * 2 ^ (min (8 : Int).toNat IntKind.u32.bits))) + IntKind.u32.wrap (IntKind.u32.wrap (c : Int) * 2 ^ (min (16 : Int).toNat IntKind.u32.bits))) + IntKind.u32.wrap (IntKind.u32.wrap (d : Int) * 2 ^ (min (24 : Int).toNat IntKind.u32.bits))) =
      ((a + b * 256 + c * 65536 + d * 16777216 : Nat) : Int) := by
  have e1 := shl_u32 (k := 8) hb (by decide)
  have e2 := shl_u32 (k := 16) hc (by decide)
  have e3 := shl_u32 (k := 24) hd (by decide)
  have p8 : 2 ^ 8 = 256 := rfl
  have p16 : 2 ^ 16 = 65536 := rfl
  have p24 : 2 ^ 24 = 16777216 := rfl
  have w : ∀ x y : Nat, x + y < 4294967296 → IntKind.u32.wrap ((x : Int) + (y : Int)) = ((x + y : Nat) : Int) := fun x y h => by
    rw [← Int.natCast_add, u32_wrap h]
  rw [show (8 : Int) = ((8 : Nat) : Int) from rfl, show (16 : Int) = ((16 : Nat) : Int) from rfl, show (24 : Int) = ((24 : Nat) : Int) from rfl, e1, e2, e3, u32_wrap (by omega), w _ _ (by omega), w _ _ (by omega), w _ _ (by omega)]

theorem u32v_inj {a : BitVec 32} {n : Nat} : u32v a = ((n : Nat) : Int) ↔ a.toNat = n := by
  unfold u32v
  omega

end
end Go.Proofs.YtiabopbigplklaaDoor

namespace Go.Proofs.YtiabopbigplklaaDoor
open Go.Sx Go.RowKit
noncomputable section
open Classical

/-- Some numbers one behind the other. -/
def pIs : Nat → RdSt → RdSt
  | 0, s => s
  | k + 1, s => (pInt (pIs k s)).2

def pI (k : Nat) (s : RdSt) : Int := (pInt (pIs k s)).1

def nodeOf (p d : List UInt8) (s : RdSt) : ToldD := ⟨⟨p.toArray⟩, d, ⟨pI 0 s, pI 1 s, pI 2 s, pI 3 s, pI 4 s, pI 5 s, pI 6 s, pI 7 s, d.length, 0⟩⟩

def pNode (s : RdSt) : ToldD × RdSt := (nodeOf (pText 200 s).1 (pText 1000 (pText 200 s).2).1 (pText 1000 (pText 200 s).2).2, pIs 8 (pText 1000 (pText 200 s).2).2)

def pNodes : Nat → RdSt → List ToldD × RdSt
  | 0, s => ([], s)
  | k + 1, s => ((pNodes k s).1 ++ [(pNode (pNodes k s).2).1], (pNode (pNodes k s).2).2)

def pSit (s : RdSt) : SitD × RdSt := (⟨pI 0 s, pI 1 s, pI 2 s⟩, pIs 3 s)

def pSits : Nat → RdSt → List SitD × RdSt
  | 0, s => ([], s)
  | k + 1, s => ((pSits k s).1 ++ [(pSit (pSits k s).2).1], (pSit (pSits k s).2).2)

/-- Behind the sittings. -/
def tailI (ns : List ToldD) (ss : List SitD) (s : RdSt) : Option (List ToldD × List SitD × Int × List MemD × Int × Int) := match getE (pText 1048576 s).1 with
  | none => none
  | some (ver, ms) => if pIs 2 (pText 1048576 s).2 = some [] ∧ RightI ns ss ver ms (pI 0 (pText 1048576 s).2) (pI 1 (pText 1048576 s).2) then some (ns, ss, ver, ms, pI 0 (pText 1048576 s).2, pI 1 (pText 1048576 s).2) else none

/-- Behind the nodes. -/
def sitsI (ns : List ToldD) (s : RdSt) := tailI ns (pSits (pCount 200 s).1.toNat (pCount 200 s).2).1 (pSits (pCount 200 s).1.toNat (pCount 200 s).2).2

/-- Behind the first byte. -/
def nodesI (s : RdSt) := sitsI (pNodes (pCount 500 s).1.toNat (pCount 500 s).2).1 (pNodes (pCount 500 s).1.toNat (pCount 500 s).2).2

/-- An image that bytes are. -/
def getI (l : List UInt8) : Option (List ToldD × List SitD × Int × List MemD × Int × Int) := match unfrL l with
  | none => none
  | some (p, n) => if n = l.length ∧ (pByte (some p)).1 = 1 then nodesI (pByte (some p)).2 else none

/-! ### Where it is not good any more -/

theorem pIs_none : ∀ k, pIs k none = none
  | 0 => rfl
  | k + 1 => by
    show (pInt (pIs k none)).2 = none
    rw [pIs_none k]; rfl

theorem pText_none0 {most : Int} (h : 0 ≤ most) : pText most none = ([], none) := by
  unfold pText
  rw [pCount_none h]

theorem pNode_none : (pNode none).2 = none := by
  show pIs 8 (pText 1000 (pText 200 none).2).2 = none
  rw [pText_none0 (by decide : (0 : Int) ≤ 200)]
  show pIs 8 (pText 1000 none).2 = none
  rw [pText_none0 (by decide : (0 : Int) ≤ 1000)]
  exact pIs_none 8

theorem pNodes_none : ∀ k, (pNodes k none).2 = none
  | 0 => rfl
  | k + 1 => by
    show (pNode (pNodes k none).2).2 = none
    rw [pNodes_none k, pNode_none]

/-- A later state out of a former one. -/
theorem pNodes_add (s : RdSt) (j : Nat) : ∀ k, (pNodes (j + k) s).2 = (pNodes k (pNodes j s).2).2
  | 0 => rfl
  | k + 1 => by
    show (pNode (pNodes (j + k) s).2).2 = (pNode (pNodes k (pNodes j s).2).2).2
    rw [pNodes_add s j k]

theorem pNodes_bad {s : RdSt} {j n : Nat} (h : (pNodes j s).2 = none) (hj : j ≤ n) : (pNodes n s).2 = none := by
  rw [show n = j + (n - j) by omega, pNodes_add, h, pNodes_none]

theorem pSits_none : ∀ k, (pSits k none).2 = none
  | 0 => rfl
  | k + 1 => by
    show pIs 3 (pSits k none).2 = none
    rw [pSits_none k, pIs_none]

theorem pSits_add (s : RdSt) (j : Nat) : ∀ k, (pSits (j + k) s).2 = (pSits k (pSits j s).2).2
  | 0 => rfl
  | k + 1 => by
    show pIs 3 (pSits (j + k) s).2 = pIs 3 (pSits k (pSits j s).2).2
    rw [pSits_add s j k]

theorem pSits_bad {s : RdSt} {j n : Nat} (h : (pSits j s).2 = none) (hj : j ≤ n) : (pSits n s).2 = none := by
  rw [show n = j + (n - j) by omega, pSits_add, h, pSits_none]

theorem tailI_none (ns : List ToldD) (ss : List SitD) : tailI ns ss none = none := by
  unfold tailI
  rw [pText_none0 (by decide : (0 : Int) ≤ 1048576), pIs_none]
  split
  · rfl
  · rw [if_neg (by rintro ⟨h, _⟩; cases h)]

theorem sitsI_none (ns : List ToldD) : sitsI ns none = none := by
  unfold sitsI
  rw [pCount_none (by decide : (0 : Int) ≤ 200)]
  exact tailI_none _ _

theorem sitsI_bad (ns : List ToldD) {s : RdSt} {j : Nat} (h : (pSits j (pCount 200 s).2).2 = none) (hj : j ≤ (pCount 200 s).1.toNat) : sitsI ns s = none := by
  unfold sitsI
  rw [pSits_bad h hj]
  exact tailI_none _ _

theorem nodesI_bad {s : RdSt} {j : Nat} (h : (pNodes j (pCount 500 s).2).2 = none) (hj : j ≤ (pCount 500 s).1.toNat) : nodesI s = none := by
  unfold nodesI
  rw [pNodes_bad h hj]
  exact sitsI_none _

theorem pNodes_len (s : RdSt) : ∀ k, (pNodes k s).1.length = k
  | 0 => rfl
  | k + 1 => by
    show ((pNodes k s).1 ++ [_]).length = k + 1
    rw [List.length_append, pNodes_len s k]; rfl

theorem pSits_len (s : RdSt) : ∀ k, (pSits k s).1.length = k
  | 0 => rfl
  | k + 1 => by
    show ((pSits k s).1 ++ [_]).length = k + 1
    rw [List.length_append, pSits_len s k]; rfl

theorem pIs_stlen (s : RdSt) : ∀ k, stLen (pIs k s) ≤ stLen s
  | 0 => Nat.le_refl _
  | k + 1 => Nat.le_trans (pInt_len _) (pIs_stlen s k)

theorem pNode_stlen (s : RdSt) : stLen (pNode s).2 ≤ stLen s := by
  have h1 := (pText_len 200 s).1
  have h2 := (pText_len 1000 (pText 200 s).2).1
  have h3 := pIs_stlen (pText 1000 (pText 200 s).2).2 8
  show stLen (pIs 8 (pText 1000 (pText 200 s).2).2) ≤ _
  omega

theorem pNodes_stlen (s : RdSt) : ∀ k, stLen (pNodes k s).2 ≤ stLen s
  | 0 => Nat.le_refl _
  | k + 1 => Nat.le_trans (pNode_stlen _) (pNodes_stlen s k)

theorem pSits_stlen (s : RdSt) : ∀ k, stLen (pSits k s).2 ≤ stLen s
  | 0 => Nat.le_refl _
  | k + 1 => Nat.le_trans (pIs_stlen _ 3) (pSits_stlen s k)

theorem pText_short {most : Int} (hm : 0 ≤ most) (s : RdSt) : ((pText most s).1.length : Int) ≤ most := by
  have h := pCount_in (s := s) hm
  unfold pText
  split
  · exact hm
  · split
    · show (((List.take _ _).length : Nat) : Int) ≤ most
      rw [List.length_take]
      omega
    · exact hm

theorem pNodes_short (s : RdSt) : ∀ k, ∀ x ∈ (pNodes k s).1, x.path.data.toList.length ≤ 200
  | 0, x, hx => by cases hx
  | k + 1, x, hx => by
    rcases List.mem_append.1 hx with hx | hx
    · exact pNodes_short s k x hx
    · rw [List.mem_singleton] at hx
      subst hx
      have := pText_short (most := 200) (by decide) (pNodes k s).2
      show (pText 200 (pNodes k s).2).1.length ≤ 200
      omega

theorem pI_in (k : Nat) (s : RdSt) : I64 (pI k s) := pInt_in _

end
end Go.Proofs.YtiabopbigplklaaDoor

namespace Go.Proofs.YtiabopbigplklaaDoor
open Go.Sx Go.RowKit
noncomputable section
open Classical

/-- What is new behind A1, but for the row's own block. -/
def offA (A1 A : Arena) (g : Option Nat) : Arena := Arena.of fun j => if A1.blk j = none ∧ g ≠ some j then A.blk j else none

theorem offA_blk {A1 A : Arena} {g : Option Nat} {j : Nat} {o : Obj} (h : (offA A1 A g).blk j = some o) : A1.blk j = none ∧ g ≠ some j ∧ A.blk j = some o := by
  have h : (if A1.blk j = none ∧ g ≠ some j then A.blk j else none) = some o := h
  split at h
  · rename_i h1
    exact ⟨h1.1, h1.2, h⟩
  · cases h

theorem offA_mk {A1 A : Arena} {g : Option Nat} {j : Nat} {o : Obj} (h1 : A1.blk j = none) (h2 : g ≠ some j) (h3 : A.blk j = some o) : (offA A1 A g).blk j = some o := by
  show (if A1.blk j = none ∧ g ≠ some j then A.blk j else none) = some o
  rw [if_pos ⟨h1, h2⟩]
  exact h3

theorem offA_sub (A1 A : Arena) (g : Option Nat) : (offA A1 A g).Sub A := fun _ _ h => (offA_blk h).2.2

/-- A row of nodes that is new behind A1. -/
structure NodeRow (A1 A : Arena) (L : LsD) (xs : List (ToldD × Value)) : Prop where
  row : LsR A 12 42 L (xs.flatMap nodeC)
  new : ∀ g, L.g = some g → A1.blk g = none
  dat : ∀ x ∈ xs, SlB (offA A1 A L.g) x.2 x.1.data

theorem NodeRow.nil (A1 A : Arena) : NodeRow A1 A ⟨.slice none 0 0, 0, 0, none⟩ [] := ⟨.inl ⟨rfl, rfl, rfl, rfl, none, rfl⟩, fun _ h => (by cases h), fun _ h => (by cases h)⟩

theorem NodeRow.keep {A1 A A' : Arena} {L : LsD} {xs : List (ToldD × Value)} {r : Nat} (h : NodeRow A1 A L xs) (hk : KeepR A A' r) (hr : A1.blk r ≠ none) : NodeRow A1 A' L xs :=
  ⟨h.row.keep fun g o hg ho => hk g o ho fun e => hr (by rw [← e]; exact h.new g hg), h.new, fun x hx => (h.dat x hx).sub fun j o hj => by
    obtain ⟨h1, h2, h3⟩ := offA_blk hj
    exact offA_mk h1 h2 (hk j o h3 fun e => hr (by rw [← e]; exact h1))⟩

theorem dat_new {A1 A A' : Arena} {g : Option Nat} {v : Value} {d : List UInt8} (h : SlB (A'.minus A) v d) (h1 : ∀ j, A.blk j = none → A1.blk j = none) (h2 : ∀ j, g = some j → ∃ o, A.blk j = some o) : SlB (offA A1 A' g) v d :=
  h.sub fun j o hj => by
    obtain ⟨k1, k2⟩ := minus_blk hj
    refine offA_mk (h1 j k1) (fun e => ?_) k2
    obtain ⟨o', ho⟩ := h2 j e
    rw [k1] at ho; cases ho

theorem dat_keep {A1 A A' : Arena} {g : Option Nat} {v : Value} {d : List UInt8} {r : Nat} (h : SlB (offA A1 A g) v d) (hk : KeepR A A' r) (hr : A1.blk r ≠ none) : SlB (offA A1 A' g) v d :=
  h.sub fun j o hj => by
    obtain ⟨k1, k2, k3⟩ := offA_blk hj
    exact offA_mk k1 k2 (hk j o k3 fun e => hr (by rw [← e]; exact k1))

/-- One more. -/
theorem NodeRow.more {A1 A A' : Arena} {L L' : LsD} {xs : List (ToldD × Value)} {x : ToldD × Value} (h : NodeRow A1 A L xs) (hx : SlB (offA A1 A L.g) x.2 x.1.data) (h1 : ∀ j, A.blk j = none → A1.blk j = none)
    (q3 : LsR A' 12 42 L' (xs.flatMap nodeC ++ nodeC x)) (q4 : ∀ g, L'.g = some g → L.g = some g ∨ A.blk g = none) (q5 : ∀ k o, A.blk k = some o → L.g ≠ some k → A'.blk k = some o) : NodeRow A1 A' L' (xs ++ [x]) := by
  have hup : ∀ j o, (offA A1 A L.g).blk j = some o → (offA A1 A' L'.g).blk j = some o := fun j o hj => by
    obtain ⟨k1, k2, k3⟩ := offA_blk hj
    refine offA_mk k1 (fun e => ?_) (q5 j o k3 k2)
    rcases q4 j e with h | h
    · exact k2 h
    · rw [k3] at h; cases h
  refine ⟨?_, fun g hg => (q4 g hg).elim (h.new g) (h1 g), fun y hy => ?_⟩
  · rw [List.flatMap_append]
    simpa using q3
  · rcases List.mem_append.1 hy with hy | hy
    · exact (h.dat y hy).sub hup
    · rw [List.mem_singleton] at hy
      subst hy
      exact hx.sub hup

/-- As the rest reads it. -/
theorem NodeRow.nodes {A0 A1 A : Arena} {L : LsD} {xs : List (ToldD × Value)} (h : NodeRow A1 A L xs) (h0 : ∀ j, A1.blk j = none → A0.blk j = none) : NodesR (A.minus A0) L.v xs := by
  refine ⟨?_, fun x hx => (h.dat x hx).sub fun j o hj => ?_⟩
  · have hn := h.row.len
    rcases h.row with ⟨h1, h2, h3, h4, base, h5⟩ | ⟨g, h1, h2, h3, h4⟩
    · have hx0 : xs = [] := by
        cases xs with
        | nil => rfl
        | cons x xs => rw [List.flatMap_cons] at h4; cases h4
      subst hx0
      rw [h5]
      exact Sl.zero _ _ (fun _ => rfl) fun _ _ h => absurd h (Nat.lt_irrefl _)
    · have hl : L.n = xs.length := by
        have := flat_len nodeC 12 (fun _ => rfl) xs
        omega
      rw [h2]
      have h9 : Sl (A.minus A0) 12 L.n (.slice (some ⟨g, 0, none⟩) L.n L.c) (xs.flatMap nodeC) := Sl.row h4.le (rd_minus h4.rd (h0 g (h.new g h1)))
      rw [hl] at h9 ⊢
      exact h9
  · obtain ⟨k1, k2, k3⟩ := offA_blk hj
    exact minus_mk (h0 j k1) k3

end
end Go.Proofs.YtiabopbigplklaaDoor

namespace Go.Proofs.YtiabopbigplklaaDoor
open Go.Sx Go.RowKit
noncomputable section
open Classical

def goodF : RdSt → Bool := fun st => st.isSome

structure RxG where
  r : Nat
  st : RdSt
  B : Arena

def pTake (n : Int) : RdSt → List UInt8 × RdSt
  | none => ([], none)
  | some l => if 0 ≤ n ∧ n ≤ l.length then (l.take n.toNat, some (l.drop n.toNat)) else ([], none)

def xFailS : FSpec := ⟨RxG, fun g vs A => vs = [.pointer (some ⟨g.r, 0, none⟩)] ∧ RdG goodF g.B A g.r g.st, fun g _ A v A' => v = .tuple #[] ∧ KeepR A A' g.r ∧ RdG goodF g.B A' g.r none⟩

set_option maxRecDepth 100000 in
set_option maxHeartbeats 0 in
theorem xFail_ok : FOk Tryd.prog 68 xFailS := by
  refine fok_v mixed fun ⟨r, st, Dr⟩ vs A hp => ?_
  obtain ⟨rfl, hR⟩ : vs = [.pointer (some ⟨r, 0, none⟩)] ∧ RdG goodF Dr A r st := hp
  refine ⟨noC, noL, 60, noC_sound _, noL_sound _, fun blk os out tape D hD => ?_⟩
  obtain ⟨v, htop, hDs, hDr, hSl, hnil⟩ := hR
  conv => lhs; whnf
  refine (hD _).2 ⟨htop.room (by show 1 + 1 ≤ 2; omega), fun A1 hP1 => ?_⟩
  have hP1 : A.Put A1 r 1 [.bool false] := hP1
  have t1 : CellsAt A1 r [v, .bool false] := htop.put hP1 (by show 1 + 1 ≤ 2; omega)
  conv => lhs; whnf
  refine (hD _).2 ⟨t1.room (by show 0 + 1 ≤ 2; omega), fun A2 hP2 => ?_⟩
  have hP2 : A1.Put A2 r 0 [.slice none 0 0] := hP2
  have t2 : CellsAt A2 r [.slice none 0 0, .bool false] := t1.put hP2 (by show 0 + 1 ≤ 2; omega)
  have hend : xFailS.post ⟨r, st, Dr⟩ [] A (.tuple #[]) A2 := ⟨rfl, (KeepR.put hP1).trans (KeepR.put hP2), _, t2, hP2.sub (hP1.sub hDs hDr) hDr, hDr, Sl.nil _ _, fun _ => rfl⟩
  conv => lhs; whnf
  repeat (first | refine go_D hD rfl ?_
          conv => lhs; whnf)
  exact (hD _).2 hend

def xTakeS : FSpec := ⟨RxG × Int, fun g vs A => vs = [.pointer (some ⟨g.1.r, 0, none⟩), .int .i64 g.2] ∧ RdG goodF g.1.B A g.1.r g.1.st ∧ stLen g.1.st ≤ 900000000,
  fun g _ A v A' => Sl g.1.B 1 (pTake g.2 g.1.st).1.length v ((pTake g.2 g.1.st).1.map bv) ∧ KeepR A A' g.1.r ∧ RdG goodF g.1.B A' g.1.r (pTake g.2 g.1.st).2⟩

set_option maxRecDepth 100000 in
set_option maxHeartbeats 0 in
theorem xTake_ok : FOk Tryd.prog 67 xTakeS := by
  refine fok_v mixed fun ⟨⟨r, st, Dr⟩, n⟩ vs A hp => ?_
  obtain ⟨rfl, hR, hlen⟩ : vs = [.pointer (some ⟨r, 0, none⟩), .int .i64 n] ∧ RdG goodF Dr A r st ∧ stLen st ≤ 900000000 := hp
  have hC : CTSound Tryd.prog (lookC [specE 68 xFailS] noC) := lookC_sound (noC_sound _) (fun x hx => by
    simp only [List.mem_singleton] at hx
    subst hx
    exact specE_ok xFail_ok)
  refine ⟨_, noL, 60, hC, noL_sound _, fun blk os out tape D hD => ?_⟩
  have hR0 := hR
  obtain ⟨v, htop, hDs, hDr, hSl, hnil⟩ := hR0
  cases st with
  | none =>
    have r1 : A.rd r 1 1 = some [.bool false] := htop.rd (o := 1) (n := 1) (by show 1 + 1 ≤ 2; omega)
    have hend : xTakeS.post (⟨r, none, Dr⟩, n) [] A (.slice none 0 0) A := ⟨Sl.nil _ _, KeepR.refl _ _, hR⟩
    conv => lhs; whnf
    repeat (first | refine go_rd r1 ?_ | refine go_D hD rfl ?_
            conv => lhs; whnf)
    exact (hD _).2 hend
  | some l =>
    have hlen : l.length ≤ 900000000 := hlen
    have hSl : Sl Dr 1 l.length v (l.map bv) := hSl
    have hSl0 := hSl
    obtain ⟨ao, c, rfl, hc, -, ha1, ha2, ha3⟩ := hSl
    have htop : CellsAt A r [.slice ao l.length c, .bool true] := htop
    have r0 : A.rd r 0 1 = some [.slice ao l.length c] := htop.rd (o := 0) (n := 1) (by show 0 + 1 ≤ 2; omega)
    have r1 : A.rd r 1 1 = some [.bool true] := htop.rd (o := 1) (n := 1) (by show 1 + 1 ≤ 2; omega)
    have hbad : ¬ (0 ≤ n ∧ n ≤ l.length) → ∀ A1, KeepR A A1 r → RdG goodF Dr A1 r none → xTakeS.post (⟨r, some l, Dr⟩, n) [] A (.slice none 0 0) A1 := fun h A1 h1 h2 => by
      have e : pTake n (some l) = ([], none) := by
        show (if 0 ≤ n ∧ n ≤ (l.length : Int) then (l.take n.toNat, some (l.drop n.toNat)) else ([], none)) = _
        rw [if_neg h]
      show Sl Dr 1 (pTake n (some l)).1.length _ ((pTake n (some l)).1.map bv) ∧ KeepR A A1 r ∧ RdG goodF Dr A1 r (pTake n (some l)).2
      rw [e]
      exact ⟨Sl.nil _ _, h1, h2⟩
    conv => lhs; whnf
    repeat (first | refine go_rd r1 ?_ | refine go_D hD rfl ?_
            conv => lhs; whnf)
    refine split_dec (fun h0 => ?_) (fun h0 => ?_)
    · conv => lhs; whnf
      refine (hD _).2 ⟨(⟨r, some l, Dr⟩ : RxG), ⟨rfl, hR⟩, fun v A1 hq => ?_⟩
      obtain ⟨hv, k1, k2⟩ : v = .tuple #[] ∧ KeepR A A1 r ∧ RdG goodF Dr A1 r none := hq
      subst hv
      have hend := hbad (fun h => by omega) A1 k1 k2
      conv => lhs; whnf
      repeat (first | refine go_D hD rfl ?_
              conv => lhs; whnf)
      exact (hD _).2 hend
    conv => lhs; whnf
    repeat (first | refine go_rd r0 ?_ | refine go_D hD rfl ?_
            conv => lhs; whnf)
    refine split_dec (fun h1 => ?_) (fun h1 => ?_)
    · conv => lhs; whnf
      refine (hD _).2 ⟨(⟨r, some l, Dr⟩ : RxG), ⟨rfl, hR⟩, fun v A1 hq => ?_⟩
      obtain ⟨hv, k1, k2⟩ : v = .tuple #[] ∧ KeepR A A1 r ∧ RdG goodF Dr A1 r none := hq
      subst hv
      have hend := hbad (fun h => by omega) A1 k1 k2
      conv => lhs; whnf
      repeat (first | refine go_D hD rfl ?_
              conv => lhs; whnf)
      exact (hD _).2 hend
    obtain ⟨k, rfl⟩ : ∃ k : Nat, n = k := ⟨n.toNat, by omega⟩
    have hk : k ≤ l.length := by
      have h1 : ¬ (l.length : Int) < (k : Int) := h1
      omega
    have e : pTake (k : Int) (some l) = (l.take k, some (l.drop k)) := by
      show (if 0 ≤ (k : Int) ∧ (k : Int) ≤ (l.length : Int) then (l.take k, some (l.drop k)) else ([], none)) = _
      rw [if_pos (by omega)]
    have ht := Sl.tail hSl0 hk
    obtain ⟨-, -, hT, hpos, hzero⟩ := ht
    have hfin : ∀ (ao1 ao2 : Option Addr) (A1 : Arena), A.Put A1 r 0 [.slice ao2 (l.length - k) (c - k)] → Sl Dr 1 k (.slice ao1 k k) ((l.take k).map bv) → Sl Dr 1 (l.length - k) (.slice ao2 (l.length - k) (c - k)) ((l.drop k).map bv) → xTakeS.post (⟨r, some l, Dr⟩, (k : Int)) [] A (.slice ao1 k k) A1 := fun ao1 ao2 A1 hP h1 h2 => by
      have t1 : CellsAt A1 r [.slice ao2 (l.length - k) (c - k), .bool true] := htop.put hP (by show 0 + 1 ≤ 2; omega)
      show Sl Dr 1 (pTake (k : Int) (some l)).1.length _ ((pTake (k : Int) (some l)).1.map bv) ∧ KeepR A A1 r ∧ RdG goodF Dr A1 r (pTake (k : Int) (some l)).2
      rw [e]
      refine ⟨?_, KeepR.put hP, _, t1, hP.sub hDs hDr, hDr, ?_, fun h => (by cases h)⟩
      · show Sl Dr 1 (l.take k).length _ _
        rw [List.length_take, Nat.min_eq_left hk]
        exact h1
      · show Sl Dr 1 (l.drop k).length _ _
        rw [List.length_drop]
        exact h2
    by_cases hc0 : c = 0
    · have hl0 := hzero hc0
      subst hl0
      have hk0 : k = 0 := by
        have : ([] : List UInt8).length = 0 := rfl
        omega
      subst hk0
      subst hc0
      have hnil0 : ∀ ao', (ao' = none → (0 : Nat) = 0) → Sl Dr 1 0 (.slice ao' 0 0) ([] : List Value) := fun ao' h => Sl.zero _ _ h fun _ _ h => absurd h (Nat.lt_irrefl _)
      rcases ao with _ | ⟨g, o, _ | sp⟩
      all_goals
        conv => lhs; whnf
        repeat (first | refine go_rd r0 ?_ | refine go_D hD rfl ?_
                conv => lhs; whnf)
        refine (hD _).2 ⟨htop.room (by show 0 + 1 ≤ 2; omega), fun A1 hP => ?_⟩
        have hend := fun (ao1 ao2 : Option Addr) (hP : A.Put A1 r 0 [.slice ao2 (([] : List UInt8).length - 0) (0 - 0)]) => hfin ao1 ao2 A1 hP (hnil0 ao1 fun _ => rfl) (hnil0 ao2 fun _ => rfl)
        conv => lhs; whnf
        repeat (first | refine go_D hD rfl ?_
                conv => lhs; whnf)
        exact (hD _).2 (hend _ _ hP)
    · obtain ⟨g, o, rfl, hD2⟩ := hpos (by omega)
      have hb1 : ((decide ((0 : Int) ≤ 0) && decide ((0 : Int) ≤ (k : Int))) && decide ((k : Int) ≤ (k : Int)) && decide ((k : Int) ≤ (c : Int))) = true := by
        simp only [Bool.and_eq_true, decide_eq_true_iff]
        omega
      have hb2 : ((decide ((0 : Int) ≤ (k : Int)) && decide ((k : Int) ≤ (l.length : Int))) && (true || decide ((l.length : Int) ≤ (c : Int)))) = true := by
        simp only [Bool.and_eq_true, Bool.or_eq_true, decide_eq_true_iff]
        omega
      conv => lhs; whnf
      repeat (first | refine go_rd r0 ?_ | refine go_D hD rfl ?_
              conv => lhs; whnf)
      refine go_b hb1 ?_
      conv => lhs; whnf
      repeat (first | refine go_rd r0 ?_ | refine go_D hD rfl ?_
              conv => lhs; whnf)
      refine go_b hb2 ?_
      conv => lhs; whnf
      repeat (first | refine go_rd r0 ?_ | refine go_D hD rfl ?_
              conv => lhs; whnf)
      refine (hD _).2 ⟨htop.room (by show 0 + 1 ≤ 2; omega), fun A1 hP => ?_⟩
      have hP : A.Put A1 r 0 [.slice (some ⟨g, o + (bif c.beq k then 0 else k * 1), none⟩) (l.length - k) (c - k)] := hP
      have e8 : (bif k.beq (Int.toNat 0) then 0 else Int.toNat 0 * 1) = 0 := by cases k.beq (Int.toNat 0) <;> rfl
      have h2 := hD2 (some ⟨g, o + (bif c.beq k then 0 else k * 1), none⟩) (fun h => by rw [nbeq_ne (show c ≠ k by omega)]; show some (⟨g, o + k * 1, none⟩ : Addr) = _; rw [Nat.mul_one]) (fun _ => ⟨_, _, rfl⟩)
      have hend := hfin (some ⟨g, o + (bif k.beq (Int.toNat 0) then 0 else Int.toNat 0 * 1), none⟩) _ A1 hP (by rw [e8]; exact hT) h2
      conv => lhs; whnf
      repeat (first | refine go_D hD rfl ?_
              conv => lhs; whnf)
      exact (hD _).2 hend

end
end Go.Proofs.YtiabopbigplklaaDoor

namespace Go.Proofs.YtiabopbigplklaaDoor
open Go.Sx Go.RowKit
noncomputable section
open Classical

def xIntInv (A : Arena) (l : List UInt8) (r : Nat) : LInv :=
  { γ := Nat × Nat, G := fun s => GI l s.1 s.2, keepS := [], keepB := [], sl := fun s => [(0, .v (.pointer (some ⟨r, 0, none⟩))), (3, .v (.int .u64 s.2)), (4, .v (.int .i64 s.1))], bl := fun _ => [], ar := fun _ => A, mu := fun s => l.length - s.1 }

def xIntS : FSpec := ⟨RxG, fun g vs A => vs = [.pointer (some ⟨g.r, 0, none⟩)] ∧ RdG goodF g.B A g.r g.st ∧ stLen g.st ≤ 900000000, fun g _ A v A' => v = .int .i64 (pInt g.st).1 ∧ KeepR A A' g.r ∧ RdG goodF g.B A' g.r (pInt g.st).2⟩

theorem pInt_some {l r : List UInt8} {n : Int} (h : vget l = some (n, r)) : pInt (some l) = (n, some r) := by
  show (match vget l with
    | some (n, r) => (n, some r)
    | none => (0, none)) = _
  rw [h]

theorem pInt_no {l : List UInt8} (h : vget l = none) : pInt (some l) = (0, none) := by
  show (match vget l with
    | some (n, r) => (n, some r)
    | none => (0, none)) = _
  rw [h]

theorem pTake_some {l : List UInt8} {k : Nat} (h : k ≤ l.length) : pTake (k : Int) (some l) = (l.take k, some (l.drop k)) := by
  show (if 0 ≤ (k : Int) ∧ (k : Int) ≤ (l.length : Int) then (l.take k, some (l.drop k)) else ([], none)) = _
  rw [if_pos (by omega)]

set_option maxRecDepth 100000 in
set_option maxHeartbeats 0 in
theorem xInt_ok : FOk Tryd.prog 57 xIntS := by
  refine fok_v mixed fun ⟨r, st, Dr⟩ vs A hp => ?_
  obtain ⟨rfl, hR, hlen⟩ : vs = [.pointer (some ⟨r, 0, none⟩)] ∧ RdG goodF Dr A r st ∧ stLen st ≤ 900000000 := hp
  have hC : CTSound Tryd.prog (lookC [specE 68 xFailS, specE 67 xTakeS] noC) := lookC_sound (noC_sound _) (fun x hx => by
    simp only [List.mem_cons, List.not_mem_nil, or_false] at hx
    rcases hx with rfl | rfl
    · exact specE_ok xFail_ok
    · exact specE_ok xTake_ok)
  refine ⟨_, tabO Tryd.prog _ noL 60 [(57, 0)], 60, hC, tabO_sound mixed hC (noL_sound _) _ _, fun blk os out tape D hD => ?_⟩
  have hR0 := hR
  obtain ⟨v, htop, hDs, hDr, hSl, hnil⟩ := hR0
  cases st with
  | none =>
    have r1 : A.rd r 1 1 = some [.bool false] := htop.rd (o := 1) (n := 1) (by show 1 + 1 ≤ 2; omega)
    have hend : xIntS.post ⟨r, none, Dr⟩ [] A (.int .i64 0) A := ⟨rfl, KeepR.refl _ _, hR⟩
    conv => lhs; whnf
    repeat (first | refine go_rd r1 ?_ | refine go_D hD rfl ?_
            conv => lhs; whnf)
    exact (hD _).2 hend
  | some l =>
    have hlen : l.length ≤ 900000000 := hlen
    have hSl : Sl Dr 1 l.length v (l.map bv) := hSl
    have hSl0 := hSl
    obtain ⟨ao, c, rfl, hc, -, ha1, ha2, ha3⟩ := hSl
    have htop : CellsAt A r [.slice ao l.length c, .bool true] := htop
    have r0 : A.rd r 0 1 = some [.slice ao l.length c] := htop.rd (o := 0) (n := 1) (by show 0 + 1 ≤ 2; omega)
    have r1 : A.rd r 1 1 = some [.bool true] := htop.rd (o := 1) (n := 1) (by show 1 + 1 ≤ 2; omega)
    have hbad : vget l = none → ∀ A1, KeepR A A1 r → RdG goodF Dr A1 r none → xIntS.post ⟨r, some l, Dr⟩ [] A (.int .i64 0) A1 := fun hv A1 h1 h2 => by
      show Value.int .i64 0 = .int .i64 (pInt (some l)).1 ∧ KeepR A A1 r ∧ RdG goodF Dr A1 r (pInt (some l)).2
      rw [pInt_no hv]
      exact ⟨rfl, h1, h2⟩
    conv => lhs; whnf
    repeat (first | refine go_rd r1 ?_ | refine go_D hD rfl ?_
            conv => lhs; whnf)
    refine (hD _).2 ⟨xIntInv A l r, ⟨((0, 0) : Nat × Nat), GI.zero l, ⟨rfl, rfl, rfl, trivial⟩, trivial, rfl⟩, fun (s : Nat × Nat) hG => ⟨⟨trivial, trivial, trivial, trivial⟩, trivial, ?_⟩⟩
    obtain ⟨k, u⟩ := s
    have hG : GI l k u := hG
    have hk : k ≤ l.length := hG.1
    have hk9 : k ≤ 9 := hG.2.1
    conv => lhs; whnf
    repeat (first | refine go_rd r0 ?_ | refine go_D hD rfl ?_
            conv => lhs; whnf)
    refine split_dec (fun hlt => ?_) (fun hlt => ?_)
    rotate_left
    · have e : k = l.length := by
        have hlt : ¬ (k : Int) < (l.length : Int) := hlt
        omega
      subst e
      conv => lhs; whnf
      refine (hD _).2 ⟨(⟨r, some l, Dr⟩ : RxG), ⟨rfl, hR⟩, fun v A1 hq => ?_⟩
      obtain ⟨hv, k1, k2⟩ : v = .tuple #[] ∧ KeepR A A1 r ∧ RdG goodF Dr A1 r none := hq
      subst hv
      have hend := hbad hG.none_end A1 k1 k2
      conv => lhs; whnf
      repeat (first | refine go_D hD rfl ?_
              conv => lhs; whnf)
      exact (hD _).2 hend
    have hkl : k < l.length := by
      have hlt : (k : Int) < (l.length : Int) := hlt
      omega
    obtain ⟨gx, ox, rfl, hra⟩ := Sl.at_ hc ha1 ha2 ha3 (by omega)
    have rb := rd_sub hDs (byte_at hra k hkl rfl)
    have i0 : (0 : Int) ≤ (k : Int) ∧ (k : Int) < (l.length : Int) := by omega
    have hcb := l[k].toNat_lt
    have hcw : IntKind.u64.wrap (l[k].toNat : Int) = (l[k].toNat : Int) := u64_wrap (by omega) (by omega)
    have h7 : IntKind.i64.wrap (7 * (k : Int)) = ((7 * k : Nat) : Int) := by rw [i64_in (by omega) (by omega)]; omega
    have h70 : (0 : Int) ≤ IntKind.i64.wrap (7 * (k : Int)) := by rw [h7]; omega
    have hu : l[k].toNat % 128 < 128 → (k = 9 → l[k].toNat % 128 ≤ 1) → bitsOf .or .u64 (u : Int) (IntKind.u64.wrap (bitsOf .and .u64 (IntKind.u64.wrap (l[k].toNat : Int)) 127 * 2 ^ (min (IntKind.i64.wrap (7 * (k : Int))).toNat IntKind.u64.bits))) = ((u + l[k].toNat % 128 * 128 ^ k : Nat) : Int) := fun h1 h2 => by
      rw [hcw, and_127 hcb, h7, Int.toNat_natCast]
      exact or_add hG.2.2.1 h1 hk9 h2
    conv => lhs; whnf
    repeat (first | refine go_in i0 ?_ | refine go_rd r0 ?_ | refine go_rd rb ?_ | refine go_D hD rfl ?_
            conv => lhs; whnf)
    refine go_dec h70 ?_
    conv => lhs; whnf
    repeat (first | refine go_in i0 ?_ | refine go_rd r0 ?_ | refine go_rd rb ?_ | refine go_D hD rfl ?_
            conv => lhs; whnf)
    -- all that may come behind it
    have hbrk : (l[k].toNat = 0 ∧ 0 < k ∨ 1 < l[k].toNat ∧ k = 9) → ¬ (128 ≤ l[k].toNat ∧ k < 9) → vget l = none := fun h1 h2 => hG.bad hkl h2 h1
    refine split_dec (fun h128 => ?_) (fun h128 => ?_)
    · have h128 : 128 ≤ l[k].toNat := by
        have h : (127 : Int) < IntKind.u64.wrap (l[k].toNat : Int) := h128
        rw [hcw] at h
        omega
      conv => lhs; whnf
      refine split_dec (fun h9 => ?_) (fun h9 => ?_)
      · have h9 : k < 9 := by
          have h9 : (k : Int) < 9 := h9
          omega
        have hG2 := hG.next hkl h128 h9
        have hu2 := hu (by omega) (by omega)
        rw [show l[k].toNat % 128 = l[k].toNat - 128 by omega] at hu2
        conv => lhs; whnf
        exact (hD _).2 ⟨((k + 1, u + (l[k].toNat - 128) * 128 ^ k) : Nat × Nat), ⟨hG2, ⟨rfl, congrArg (fun x : Int => some (SV.v (.int .u64 x))) hu2, inc_slot (by omega), trivial⟩, trivial, rfl⟩, by show l.length - (k + 1) < l.length - k; omega, trivial, trivial⟩
      · have h9 : k = 9 := by
          have h9 : ¬ (k : Int) < 9 := h9
          omega
        have hv := hbrk (.inr ⟨by omega, h9⟩) (by omega)
        conv => lhs; whnf
        refine split_dec (fun q0 => ?_) (fun q0 => ?_)
        · have q0 : l[k].toNat = 0 := by
            have h : IntKind.u64.wrap (l[k].toNat : Int) = 0 := q0
            rw [hcw] at h
            omega
          conv => lhs; whnf
          refine split_dec (fun q1 => ?_) (fun q1 => ?_)
          · have q1 : 0 < k := by
              have q1 : (0 : Int) < (k : Int) := q1
              omega
            conv => lhs; whnf
            refine (hD _).2 ⟨(⟨r, some l, Dr⟩ : RxG), ⟨rfl, hR⟩, fun v A1 hq => ?_⟩
            obtain ⟨hvv, k1, k2⟩ : v = .tuple #[] ∧ KeepR A A1 r ∧ RdG goodF Dr A1 r none := hq
            subst hvv
            have hend := hbad (hbrk (.inl ⟨q0, q1⟩) (by omega)) A1 k1 k2
            conv => lhs; whnf
            repeat (first | refine go_D hD rfl ?_
                    conv => lhs; whnf)
            exact (hD _).2 hend
          · have q1 : k = 0 := by
              have q1 : ¬ (0 : Int) < (k : Int) := q1
              omega
            conv => lhs; whnf
            refine split_dec (fun q2 => ?_) (fun q2 => ?_)
            · have q2 : False := by
                have h : (1 : Int) < IntKind.u64.wrap (l[k].toNat : Int) := q2
                rw [hcw] at h
                omega
              exact q2.elim
            have hdn := hG.done hkl (by omega) (by omega)
            obtain ⟨hv, c1, c2, c3⟩ := hdn
            have hu2 := hu (by omega) (by omega)
            rw [show l[k].toNat % 128 = l[k].toNat by omega] at hu2
            have hz : ∀ U : Int, U = ((u + l[k].toNat * 128 ^ k : Nat) : Int) → bitsOf .xor .i64 (IntKind.i64.wrap (U.fdiv (2 ^ (min (1 : Int).toNat IntKind.u64.bits)))) (IntKind.i64.wrap (0 - IntKind.i64.wrap (bitsOf .and .u64 U 1))) = zag (u + l[k].toNat * 128 ^ k) := fun U h => by
              rw [h]
              exact zag_prog c3
            have hargs : [Value.pointer (some ⟨r, 0, none⟩), .int .i64 (IntKind.i64.wrap ((k : Int) + 1))] = [.pointer (some ⟨r, 0, none⟩), .int .i64 ((k + 1 : Nat) : Int)] := by
              rw [i64_in (by omega) (by omega)]; rfl
            have hpt := pTake_some (l := l) (k := k + 1) (by omega)
            have hpi := pInt_some hv
            conv => lhs; whnf
            refine (hD _).2 ⟨((⟨r, some l, Dr⟩, ((k + 1 : Nat) : Int)) : RxG × Int), ⟨hargs, hR, hlen⟩, fun v A1 hq => ?_⟩
            obtain ⟨hS9, k1, k2⟩ : Sl Dr 1 (pTake ((k + 1 : Nat) : Int) (some l)).1.length v ((pTake ((k + 1 : Nat) : Int) (some l)).1.map bv) ∧ KeepR A A1 r ∧ RdG goodF Dr A1 r (pTake ((k + 1 : Nat) : Int) (some l)).2 := hq
            rw [hpt] at k2
            obtain ⟨a9, c9, hf9⟩ := hS9.form
            subst hf9
            have hend : ∀ x : Int, x = zag (u + l[k].toNat * 128 ^ k) → xIntS.post ⟨r, some l, Dr⟩ [] A (.int .i64 x) A1 := fun x hx => by
              show Value.int .i64 x = .int .i64 (pInt (some l)).1 ∧ KeepR A A1 r ∧ RdG goodF Dr A1 r (pInt (some l)).2
              rw [hpi, hx]
              exact ⟨rfl, k1, k2⟩
            conv => lhs; whnf
            repeat (first | refine go_D hD rfl ?_
                    conv => lhs; whnf)
            exact (hD _).2 (hend _ (hz _ hu2))
        · have q0 : l[k].toNat ≠ 0 := fun e => by
            refine q0 ?_
            show IntKind.u64.wrap (l[k].toNat : Int) = 0
            rw [hcw]
            omega
          conv => lhs; whnf
          refine split_dec (fun q2 => ?_) (fun q2 => ?_)
          · have q2 : 1 < l[k].toNat := by
              have h : (1 : Int) < IntKind.u64.wrap (l[k].toNat : Int) := q2
              rw [hcw] at h
              omega
            conv => lhs; whnf
            refine split_dec (fun q3 => ?_) (fun q3 => ?_)
            · have q3 : k = 9 := by
                have q3 : (k : Int) = 9 := q3
                omega
              conv => lhs; whnf
              refine (hD _).2 ⟨(⟨r, some l, Dr⟩ : RxG), ⟨rfl, hR⟩, fun v A1 hq => ?_⟩
              obtain ⟨hvv, k1, k2⟩ : v = .tuple #[] ∧ KeepR A A1 r ∧ RdG goodF Dr A1 r none := hq
              subst hvv
              have hend := hbad (hbrk (.inr ⟨q2, q3⟩) (by omega)) A1 k1 k2
              conv => lhs; whnf
              repeat (first | refine go_D hD rfl ?_
                      conv => lhs; whnf)
              exact (hD _).2 hend
            · have q3 : k ≠ 9 := fun e => by
                refine q3 ?_
                show (k : Int) = 9
                omega
              have hdn := hG.done hkl (by omega) (by omega)
              obtain ⟨hv, c1, c2, c3⟩ := hdn
              have hu2 := hu (by omega) (by omega)
              rw [show l[k].toNat % 128 = l[k].toNat by omega] at hu2
              have hz : ∀ U : Int, U = ((u + l[k].toNat * 128 ^ k : Nat) : Int) → bitsOf .xor .i64 (IntKind.i64.wrap (U.fdiv (2 ^ (min (1 : Int).toNat IntKind.u64.bits)))) (IntKind.i64.wrap (0 - IntKind.i64.wrap (bitsOf .and .u64 U 1))) = zag (u + l[k].toNat * 128 ^ k) := fun U h => by
                rw [h]
                exact zag_prog c3
              have hargs : [Value.pointer (some ⟨r, 0, none⟩), .int .i64 (IntKind.i64.wrap ((k : Int) + 1))] = [.pointer (some ⟨r, 0, none⟩), .int .i64 ((k + 1 : Nat) : Int)] := by
                rw [i64_in (by omega) (by omega)]; rfl
              have hpt := pTake_some (l := l) (k := k + 1) (by omega)
              have hpi := pInt_some hv
              conv => lhs; whnf
              refine (hD _).2 ⟨((⟨r, some l, Dr⟩, ((k + 1 : Nat) : Int)) : RxG × Int), ⟨hargs, hR, hlen⟩, fun v A1 hq => ?_⟩
              obtain ⟨hS9, k1, k2⟩ : Sl Dr 1 (pTake ((k + 1 : Nat) : Int) (some l)).1.length v ((pTake ((k + 1 : Nat) : Int) (some l)).1.map bv) ∧ KeepR A A1 r ∧ RdG goodF Dr A1 r (pTake ((k + 1 : Nat) : Int) (some l)).2 := hq
              rw [hpt] at k2
              obtain ⟨a9, c9, hf9⟩ := hS9.form
              subst hf9
              have hend : ∀ x : Int, x = zag (u + l[k].toNat * 128 ^ k) → xIntS.post ⟨r, some l, Dr⟩ [] A (.int .i64 x) A1 := fun x hx => by
                show Value.int .i64 x = .int .i64 (pInt (some l)).1 ∧ KeepR A A1 r ∧ RdG goodF Dr A1 r (pInt (some l)).2
                rw [hpi, hx]
                exact ⟨rfl, k1, k2⟩
              conv => lhs; whnf
              repeat (first | refine go_D hD rfl ?_
                      conv => lhs; whnf)
              exact (hD _).2 (hend _ (hz _ hu2))
          · have q2 : ¬ 1 < l[k].toNat := fun e => by
              refine q2 ?_
              show (1 : Int) < IntKind.u64.wrap (l[k].toNat : Int)
              rw [hcw]
              omega
            have hdn := hG.done hkl (by omega) (by omega)
            obtain ⟨hv, c1, c2, c3⟩ := hdn
            have hu2 := hu (by omega) (by omega)
            rw [show l[k].toNat % 128 = l[k].toNat by omega] at hu2
            have hz : ∀ U : Int, U = ((u + l[k].toNat * 128 ^ k : Nat) : Int) → bitsOf .xor .i64 (IntKind.i64.wrap (U.fdiv (2 ^ (min (1 : Int).toNat IntKind.u64.bits)))) (IntKind.i64.wrap (0 - IntKind.i64.wrap (bitsOf .and .u64 U 1))) = zag (u + l[k].toNat * 128 ^ k) := fun U h => by
              rw [h]
              exact zag_prog c3
            have hargs : [Value.pointer (some ⟨r, 0, none⟩), .int .i64 (IntKind.i64.wrap ((k : Int) + 1))] = [.pointer (some ⟨r, 0, none⟩), .int .i64 ((k + 1 : Nat) : Int)] := by
              rw [i64_in (by omega) (by omega)]; rfl
            have hpt := pTake_some (l := l) (k := k + 1) (by omega)
            have hpi := pInt_some hv
            conv => lhs; whnf
            refine (hD _).2 ⟨((⟨r, some l, Dr⟩, ((k + 1 : Nat) : Int)) : RxG × Int), ⟨hargs, hR, hlen⟩, fun v A1 hq => ?_⟩
            obtain ⟨hS9, k1, k2⟩ : Sl Dr 1 (pTake ((k + 1 : Nat) : Int) (some l)).1.length v ((pTake ((k + 1 : Nat) : Int) (some l)).1.map bv) ∧ KeepR A A1 r ∧ RdG goodF Dr A1 r (pTake ((k + 1 : Nat) : Int) (some l)).2 := hq
            rw [hpt] at k2
            obtain ⟨a9, c9, hf9⟩ := hS9.form
            subst hf9
            have hend : ∀ x : Int, x = zag (u + l[k].toNat * 128 ^ k) → xIntS.post ⟨r, some l, Dr⟩ [] A (.int .i64 x) A1 := fun x hx => by
              show Value.int .i64 x = .int .i64 (pInt (some l)).1 ∧ KeepR A A1 r ∧ RdG goodF Dr A1 r (pInt (some l)).2
              rw [hpi, hx]
              exact ⟨rfl, k1, k2⟩
            conv => lhs; whnf
            repeat (first | refine go_D hD rfl ?_
                    conv => lhs; whnf)
            exact (hD _).2 (hend _ (hz _ hu2))
    · have h128 : l[k].toNat < 128 := by
        have h : ¬ (127 : Int) < IntKind.u64.wrap (l[k].toNat : Int) := h128
        rw [hcw] at h
        omega
      conv => lhs; whnf
      refine split_dec (fun q0 => ?_) (fun q0 => ?_)
      · have q0 : l[k].toNat = 0 := by
          have h : IntKind.u64.wrap (l[k].toNat : Int) = 0 := q0
          rw [hcw] at h
          omega
        conv => lhs; whnf
        refine split_dec (fun q1 => ?_) (fun q1 => ?_)
        · have q1 : 0 < k := by
            have q1 : (0 : Int) < (k : Int) := q1
            omega
          conv => lhs; whnf
          refine (hD _).2 ⟨(⟨r, some l, Dr⟩ : RxG), ⟨rfl, hR⟩, fun v A1 hq => ?_⟩
          obtain ⟨hvv, k1, k2⟩ : v = .tuple #[] ∧ KeepR A A1 r ∧ RdG goodF Dr A1 r none := hq
          subst hvv
          have hend := hbad (hbrk (.inl ⟨q0, q1⟩) (by omega)) A1 k1 k2
          conv => lhs; whnf
          repeat (first | refine go_D hD rfl ?_
                  conv => lhs; whnf)
          exact (hD _).2 hend
        · have q1 : k = 0 := by
            have q1 : ¬ (0 : Int) < (k : Int) := q1
            omega
          conv => lhs; whnf
          refine split_dec (fun q2 => ?_) (fun q2 => ?_)
          · have q2 : False := by
              have h : (1 : Int) < IntKind.u64.wrap (l[k].toNat : Int) := q2
              rw [hcw] at h
              omega
            exact q2.elim
          have hdn := hG.done hkl (by omega) (by omega)
          obtain ⟨hv, c1, c2, c3⟩ := hdn
          have hu2 := hu (by omega) (by omega)
          rw [show l[k].toNat % 128 = l[k].toNat by omega] at hu2
          have hz : ∀ U : Int, U = ((u + l[k].toNat * 128 ^ k : Nat) : Int) → bitsOf .xor .i64 (IntKind.i64.wrap (U.fdiv (2 ^ (min (1 : Int).toNat IntKind.u64.bits)))) (IntKind.i64.wrap (0 - IntKind.i64.wrap (bitsOf .and .u64 U 1))) = zag (u + l[k].toNat * 128 ^ k) := fun U h => by
            rw [h]
            exact zag_prog c3
          have hargs : [Value.pointer (some ⟨r, 0, none⟩), .int .i64 (IntKind.i64.wrap ((k : Int) + 1))] = [.pointer (some ⟨r, 0, none⟩), .int .i64 ((k + 1 : Nat) : Int)] := by
            rw [i64_in (by omega) (by omega)]; rfl
          have hpt := pTake_some (l := l) (k := k + 1) (by omega)
          have hpi := pInt_some hv
          conv => lhs; whnf
          refine (hD _).2 ⟨((⟨r, some l, Dr⟩, ((k + 1 : Nat) : Int)) : RxG × Int), ⟨hargs, hR, hlen⟩, fun v A1 hq => ?_⟩
          obtain ⟨hS9, k1, k2⟩ : Sl Dr 1 (pTake ((k + 1 : Nat) : Int) (some l)).1.length v ((pTake ((k + 1 : Nat) : Int) (some l)).1.map bv) ∧ KeepR A A1 r ∧ RdG goodF Dr A1 r (pTake ((k + 1 : Nat) : Int) (some l)).2 := hq
          rw [hpt] at k2
          obtain ⟨a9, c9, hf9⟩ := hS9.form
          subst hf9
          have hend : ∀ x : Int, x = zag (u + l[k].toNat * 128 ^ k) → xIntS.post ⟨r, some l, Dr⟩ [] A (.int .i64 x) A1 := fun x hx => by
            show Value.int .i64 x = .int .i64 (pInt (some l)).1 ∧ KeepR A A1 r ∧ RdG goodF Dr A1 r (pInt (some l)).2
            rw [hpi, hx]
            exact ⟨rfl, k1, k2⟩
          conv => lhs; whnf
          repeat (first | refine go_D hD rfl ?_
                  conv => lhs; whnf)
          exact (hD _).2 (hend _ (hz _ hu2))
      · have q0 : l[k].toNat ≠ 0 := fun e => by
          refine q0 ?_
          show IntKind.u64.wrap (l[k].toNat : Int) = 0
          rw [hcw]
          omega
        conv => lhs; whnf
        refine split_dec (fun q2 => ?_) (fun q2 => ?_)
        · have q2 : 1 < l[k].toNat := by
            have h : (1 : Int) < IntKind.u64.wrap (l[k].toNat : Int) := q2
            rw [hcw] at h
            omega
          conv => lhs; whnf
          refine split_dec (fun q3 => ?_) (fun q3 => ?_)
          · have q3 : k = 9 := by
              have q3 : (k : Int) = 9 := q3
              omega
            conv => lhs; whnf
            refine (hD _).2 ⟨(⟨r, some l, Dr⟩ : RxG), ⟨rfl, hR⟩, fun v A1 hq => ?_⟩
            obtain ⟨hvv, k1, k2⟩ : v = .tuple #[] ∧ KeepR A A1 r ∧ RdG goodF Dr A1 r none := hq
            subst hvv
            have hend := hbad (hbrk (.inr ⟨q2, q3⟩) (by omega)) A1 k1 k2
            conv => lhs; whnf
            repeat (first | refine go_D hD rfl ?_
                    conv => lhs; whnf)
            exact (hD _).2 hend
          · have q3 : k ≠ 9 := fun e => by
              refine q3 ?_
              show (k : Int) = 9
              omega
            have hdn := hG.done hkl (by omega) (by omega)
            obtain ⟨hv, c1, c2, c3⟩ := hdn
            have hu2 := hu (by omega) (by omega)
            rw [show l[k].toNat % 128 = l[k].toNat by omega] at hu2
            have hz : ∀ U : Int, U = ((u + l[k].toNat * 128 ^ k : Nat) : Int) → bitsOf .xor .i64 (IntKind.i64.wrap (U.fdiv (2 ^ (min (1 : Int).toNat IntKind.u64.bits)))) (IntKind.i64.wrap (0 - IntKind.i64.wrap (bitsOf .and .u64 U 1))) = zag (u + l[k].toNat * 128 ^ k) := fun U h => by
              rw [h]
              exact zag_prog c3
            have hargs : [Value.pointer (some ⟨r, 0, none⟩), .int .i64 (IntKind.i64.wrap ((k : Int) + 1))] = [.pointer (some ⟨r, 0, none⟩), .int .i64 ((k + 1 : Nat) : Int)] := by
              rw [i64_in (by omega) (by omega)]; rfl
            have hpt := pTake_some (l := l) (k := k + 1) (by omega)
            have hpi := pInt_some hv
            conv => lhs; whnf
            refine (hD _).2 ⟨((⟨r, some l, Dr⟩, ((k + 1 : Nat) : Int)) : RxG × Int), ⟨hargs, hR, hlen⟩, fun v A1 hq => ?_⟩
            obtain ⟨hS9, k1, k2⟩ : Sl Dr 1 (pTake ((k + 1 : Nat) : Int) (some l)).1.length v ((pTake ((k + 1 : Nat) : Int) (some l)).1.map bv) ∧ KeepR A A1 r ∧ RdG goodF Dr A1 r (pTake ((k + 1 : Nat) : Int) (some l)).2 := hq
            rw [hpt] at k2
            obtain ⟨a9, c9, hf9⟩ := hS9.form
            subst hf9
            have hend : ∀ x : Int, x = zag (u + l[k].toNat * 128 ^ k) → xIntS.post ⟨r, some l, Dr⟩ [] A (.int .i64 x) A1 := fun x hx => by
              show Value.int .i64 x = .int .i64 (pInt (some l)).1 ∧ KeepR A A1 r ∧ RdG goodF Dr A1 r (pInt (some l)).2
              rw [hpi, hx]
              exact ⟨rfl, k1, k2⟩
            conv => lhs; whnf
            repeat (first | refine go_D hD rfl ?_
                    conv => lhs; whnf)
            exact (hD _).2 (hend _ (hz _ hu2))
        · have q2 : ¬ 1 < l[k].toNat := fun e => by
            refine q2 ?_
            show (1 : Int) < IntKind.u64.wrap (l[k].toNat : Int)
            rw [hcw]
            omega
          have hdn := hG.done hkl (by omega) (by omega)
          obtain ⟨hv, c1, c2, c3⟩ := hdn
          have hu2 := hu (by omega) (by omega)
          rw [show l[k].toNat % 128 = l[k].toNat by omega] at hu2
          have hz : ∀ U : Int, U = ((u + l[k].toNat * 128 ^ k : Nat) : Int) → bitsOf .xor .i64 (IntKind.i64.wrap (U.fdiv (2 ^ (min (1 : Int).toNat IntKind.u64.bits)))) (IntKind.i64.wrap (0 - IntKind.i64.wrap (bitsOf .and .u64 U 1))) = zag (u + l[k].toNat * 128 ^ k) := fun U h => by
            rw [h]
            exact zag_prog c3
          have hargs : [Value.pointer (some ⟨r, 0, none⟩), .int .i64 (IntKind.i64.wrap ((k : Int) + 1))] = [.pointer (some ⟨r, 0, none⟩), .int .i64 ((k + 1 : Nat) : Int)] := by
            rw [i64_in (by omega) (by omega)]; rfl
          have hpt := pTake_some (l := l) (k := k + 1) (by omega)
          have hpi := pInt_some hv
          conv => lhs; whnf
          refine (hD _).2 ⟨((⟨r, some l, Dr⟩, ((k + 1 : Nat) : Int)) : RxG × Int), ⟨hargs, hR, hlen⟩, fun v A1 hq => ?_⟩
          obtain ⟨hS9, k1, k2⟩ : Sl Dr 1 (pTake ((k + 1 : Nat) : Int) (some l)).1.length v ((pTake ((k + 1 : Nat) : Int) (some l)).1.map bv) ∧ KeepR A A1 r ∧ RdG goodF Dr A1 r (pTake ((k + 1 : Nat) : Int) (some l)).2 := hq
          rw [hpt] at k2
          obtain ⟨a9, c9, hf9⟩ := hS9.form
          subst hf9
          have hend : ∀ x : Int, x = zag (u + l[k].toNat * 128 ^ k) → xIntS.post ⟨r, some l, Dr⟩ [] A (.int .i64 x) A1 := fun x hx => by
            show Value.int .i64 x = .int .i64 (pInt (some l)).1 ∧ KeepR A A1 r ∧ RdG goodF Dr A1 r (pInt (some l)).2
            rw [hpi, hx]
            exact ⟨rfl, k1, k2⟩
          conv => lhs; whnf
          repeat (first | refine go_D hD rfl ?_
                  conv => lhs; whnf)
          exact (hD _).2 (hend _ (hz _ hu2))

end
end Go.Proofs.YtiabopbigplklaaDoor

namespace Go.Proofs.YtiabopbigplklaaDoor
open Go.Sx Go.RowKit
noncomputable section
open Classical

theorem pTake_count {most : Int} (hm : 0 ≤ most) (st : RdSt) : pTake (pCount most st).1 (pCount most st).2 = pText most st := by
  have h0 := (pCount_in (s := st) hm).1
  unfold pText
  cases h : (pCount most st).2 with
  | none => rfl
  | some l =>
    show (if 0 ≤ (pCount most st).1 ∧ (pCount most st).1 ≤ (l.length : Int) then (l.take (pCount most st).1.toNat, some (l.drop (pCount most st).1.toNat)) else ([], none)) = _
    by_cases h2 : (pCount most st).1.toNat ≤ l.length
    · rw [if_pos (by omega)]
      exact (if_pos h2).symm
    · rw [if_neg (by omega)]
      exact (if_neg h2).symm

def xCountS : FSpec := ⟨RxG × Int, fun g vs A => vs = [.pointer (some ⟨g.1.r, 0, none⟩), .int .i64 g.2] ∧ RdG goodF g.1.B A g.1.r g.1.st ∧ stLen g.1.st ≤ 900000000 ∧ 0 ≤ g.2 ∧ g.2 ≤ 900000000,
  fun g _ A v A' => v = .int .i64 (pCount g.2 g.1.st).1 ∧ KeepR A A' g.1.r ∧ RdG goodF g.1.B A' g.1.r (pCount g.2 g.1.st).2⟩

set_option maxRecDepth 100000 in
set_option maxHeartbeats 0 in
theorem xCount_ok : FOk Tryd.prog 54 xCountS := by
  refine fok_v mixed fun ⟨⟨r, st, Dr⟩, most⟩ vs A hp => ?_
  obtain ⟨rfl, hR, hlen, hm0, hm1⟩ : vs = [.pointer (some ⟨r, 0, none⟩), .int .i64 most] ∧ RdG goodF Dr A r st ∧ stLen st ≤ 900000000 ∧ 0 ≤ most ∧ most ≤ 900000000 := hp
  have hC : CTSound Tryd.prog (lookC [specE 68 xFailS, specE 57 xIntS] noC) := lookC_sound (noC_sound _) (fun x hx => by
    simp only [List.mem_cons, List.not_mem_nil, or_false] at hx
    rcases hx with rfl | rfl
    · exact specE_ok xFail_ok
    · exact specE_ok xInt_ok)
  refine ⟨_, noL, 60, hC, noL_sound _, fun blk os out tape D hD => ?_⟩
  have hin := pInt_in st
  have hbad : ((pInt st).1 < 0 ∨ most < (pInt st).1) → ∀ A1, KeepR A A1 r → RdG goodF Dr A1 r none → xCountS.post (⟨r, st, Dr⟩, most) [] A (.int .i64 0) A1 := fun h A1 h1 h2 => by
    show Value.int .i64 0 = .int .i64 (pCount most st).1 ∧ KeepR A A1 r ∧ RdG goodF Dr A1 r (pCount most st).2
    have e : pCount most st = (0, none) := if_pos h
    rw [e]
    exact ⟨rfl, h1, h2⟩
  have hgood : ¬ ((pInt st).1 < 0 ∨ most < (pInt st).1) → ∀ A1, KeepR A A1 r → RdG goodF Dr A1 r (pInt st).2 → xCountS.post (⟨r, st, Dr⟩, most) [] A (.int .i64 (pInt st).1) A1 := fun h A1 h1 h2 => by
    show Value.int .i64 (pInt st).1 = .int .i64 (pCount most st).1 ∧ KeepR A A1 r ∧ RdG goodF Dr A1 r (pCount most st).2
    have e : pCount most st = pInt st := if_neg h
    rw [e]
    exact ⟨rfl, h1, h2⟩
  conv => lhs; whnf
  refine (hD _).2 ⟨(⟨r, st, Dr⟩ : RxG), ⟨rfl, hR, hlen⟩, fun v A1 hq => ?_⟩
  obtain ⟨hv, k1, k2⟩ : v = .int .i64 (pInt st).1 ∧ KeepR A A1 r ∧ RdG goodF Dr A1 r (pInt st).2 := hq
  generalize (pInt st).1 = n at *
  subst hv
  conv => lhs; whnf
  refine split_dec (fun h0 => ?_) (fun h0 => ?_)
  · conv => lhs; whnf
    refine (hD _).2 ⟨(⟨r, (pInt st).2, Dr⟩ : RxG), ⟨rfl, k2⟩, fun v A2 hq => ?_⟩
    obtain ⟨hv, j1, j2⟩ : v = .tuple #[] ∧ KeepR A1 A2 r ∧ RdG goodF Dr A2 r none := hq
    subst hv
    have hend := hbad (.inl h0) A2 (k1.trans j1) j2
    conv => lhs; whnf
    repeat (first | refine go_D hD rfl ?_
            conv => lhs; whnf)
    exact (hD _).2 hend
  conv => lhs; whnf
  refine split_dec (fun h1 => ?_) (fun h1 => ?_)
  · conv => lhs; whnf
    refine (hD _).2 ⟨(⟨r, (pInt st).2, Dr⟩ : RxG), ⟨rfl, k2⟩, fun v A2 hq => ?_⟩
    obtain ⟨hv, j1, j2⟩ : v = .tuple #[] ∧ KeepR A1 A2 r ∧ RdG goodF Dr A2 r none := hq
    subst hv
    have hend := hbad (.inr h1) A2 (k1.trans j1) j2
    conv => lhs; whnf
    repeat (first | refine go_D hD rfl ?_
            conv => lhs; whnf)
    exact (hD _).2 hend
  have hend := hgood (fun h => h.elim h0 h1) A1 k1 k2
  conv => lhs; whnf
  repeat (first | refine go_D hD rfl ?_
          conv => lhs; whnf)
  exact (hD _).2 hend

theorem takeCountC : CTSound Tryd.prog (lookC [specE 67 xTakeS, specE 54 xCountS, specE 41 cloneBytesS] noC) := lookC_sound (noC_sound _) (fun x hx => by
  simp only [List.mem_cons, List.not_mem_nil, or_false] at hx
  rcases hx with rfl | rfl | rfl
  · exact specE_ok xTake_ok
  · exact specE_ok xCount_ok
  · exact specE_ok cloneBytes_ok)

def xBytesS : FSpec := ⟨RxG × Int, xCountS.pre, fun g _ A v A' => SlB (A'.minus A) v (pText g.2 g.1.st).1 ∧ KeepR A A' g.1.r ∧ RdG goodF g.1.B A' g.1.r (pText g.2 g.1.st).2⟩

set_option maxRecDepth 100000 in
set_option maxHeartbeats 0 in
theorem xBytes_ok : FOk Tryd.prog 56 xBytesS := by
  refine fok_v mixed fun ⟨⟨r, st, Dr⟩, most⟩ vs A hp => ?_
  obtain ⟨rfl, hR, hlen, hm0, hm1⟩ : vs = [.pointer (some ⟨r, 0, none⟩), .int .i64 most] ∧ RdG goodF Dr A r st ∧ stLen st ≤ 900000000 ∧ 0 ≤ most ∧ most ≤ 900000000 := hp
  refine ⟨_, noL, 60, takeCountC, noL_sound _, fun blk os out tape D hD => ?_⟩
  conv => lhs; whnf
  refine (hD _).2 ⟨((⟨r, st, Dr⟩, most) : RxG × Int), ⟨rfl, hR, hlen, hm0, hm1⟩, fun v A1 hq => ?_⟩
  obtain ⟨hv, k1, k2⟩ : v = .int .i64 (pCount most st).1 ∧ KeepR A A1 r ∧ RdG goodF Dr A1 r (pCount most st).2 := hq
  subst hv
  have hl2 := pCount_len most st
  conv => lhs; whnf
  refine (hD _).2 ⟨((⟨r, (pCount most st).2, Dr⟩, (pCount most st).1) : RxG × Int), ⟨rfl, k2, by show stLen (pCount most st).2 ≤ _; omega⟩, fun v A2 hq => ?_⟩
  have hq : Sl Dr 1 (pTake (pCount most st).1 (pCount most st).2).1.length v ((pTake (pCount most st).1 (pCount most st).2).1.map bv) ∧ KeepR A1 A2 r ∧ RdG goodF Dr A2 r (pTake (pCount most st).1 (pCount most st).2).2 := hq
  rw [pTake_count hm0] at hq
  obtain ⟨hS9, j1, j2⟩ := hq
  obtain ⟨a9, c9, hf9⟩ := hS9.form
  subst hf9
  have htl := (pText_len most st).2
  have hB : SlB A2 (.slice a9 (pText most st).1.length c9) (pText most st).1 := ⟨hS9.sub j2.dsub, by omega⟩
  conv => lhs; whnf
  refine (hD _).2 ⟨(pText most st).1, ⟨_, rfl, hB⟩, fun v A3 hq => ?_⟩
  obtain ⟨s3, hS3⟩ : A2.Sub A3 ∧ SlB (A3.minus A2) v (pText most st).1 := hq
  have hk2 := k1.trans j1
  have hend : xBytesS.post (⟨r, st, Dr⟩, most) [] A v A3 := ⟨hS3.sub (minus_keep hk2 j2.live2), hk2.trans (KeepR.of_sub s3 r), j2.keep s3⟩
  obtain ⟨a8, c8, hf8⟩ := hS3.1.form
  subst hf8
  conv => lhs; whnf
  repeat (first | refine go_D hD rfl ?_
          conv => lhs; whnf)
  exact (hD _).2 hend

def xTextS : FSpec := ⟨RxG × Int, xCountS.pre, fun g _ A v A' => v = .string ⟨(pText g.2 g.1.st).1.toArray⟩ ∧ KeepR A A' g.1.r ∧ RdG goodF g.1.B A' g.1.r (pText g.2 g.1.st).2⟩

set_option maxRecDepth 100000 in
set_option maxHeartbeats 0 in
theorem xText_ok : FOk Tryd.prog 55 xTextS := by
  refine fok_v mixed fun ⟨⟨r, st, Dr⟩, most⟩ vs A hp => ?_
  obtain ⟨rfl, hR, hlen, hm0, hm1⟩ : vs = [.pointer (some ⟨r, 0, none⟩), .int .i64 most] ∧ RdG goodF Dr A r st ∧ stLen st ≤ 900000000 ∧ 0 ≤ most ∧ most ≤ 900000000 := hp
  refine ⟨_, noL, 60, takeCountC, noL_sound _, fun blk os out tape D hD => ?_⟩
  conv => lhs; whnf
  refine (hD _).2 ⟨((⟨r, st, Dr⟩, most) : RxG × Int), ⟨rfl, hR, hlen, hm0, hm1⟩, fun v A1 hq => ?_⟩
  obtain ⟨hv, k1, k2⟩ : v = .int .i64 (pCount most st).1 ∧ KeepR A A1 r ∧ RdG goodF Dr A1 r (pCount most st).2 := hq
  subst hv
  have hl2 := pCount_len most st
  conv => lhs; whnf
  refine (hD _).2 ⟨((⟨r, (pCount most st).2, Dr⟩, (pCount most st).1) : RxG × Int), ⟨rfl, k2, by show stLen (pCount most st).2 ≤ _; omega⟩, fun v A2 hq => ?_⟩
  have hq : Sl Dr 1 (pTake (pCount most st).1 (pCount most st).2).1.length v ((pTake (pCount most st).1 (pCount most st).2).1.map bv) ∧ KeepR A1 A2 r ∧ RdG goodF Dr A2 r (pTake (pCount most st).1 (pCount most st).2).2 := hq
  rw [pTake_count hm0] at hq
  obtain ⟨hS9, j1, j2⟩ := hq
  have hk2 := k1.trans j1
  have hend : xTextS.post (⟨r, st, Dr⟩, most) [] A (.string ⟨(pText most st).1.toArray⟩) A2 := ⟨rfl, hk2, j2⟩
  obtain ⟨a9, c9, hf9, hc9, hl9, ha1, ha2, ha3⟩ := hS9.sub j2.dsub
  subst hf9
  generalize (pText most st).1 = s at *
  by_cases hs : s = []
  · subst hs
    rcases a9 with _ | ⟨g, o, _ | sp⟩
    all_goals
      conv => lhs; whnf
      repeat (first | refine go_D hD rfl ?_
              conv => lhs; whnf)
      exact (hD _).2 hend
  · have hpos : 0 < s.length := List.length_pos_iff.2 hs
    obtain ⟨g, o, e, hra⟩ := Sl.at_ hc9 ha1 ha2 ha3 hpos
    subst e
    rw [Nat.mul_one] at hra
    have hz : Nat.beq s.length 0 = false := nbeq_ne (by omega)
    conv => lhs; whnf
    repeat (first | refine go_rd hra ?_ | refine go_D hD rfl ?_
            conv => lhs; whnf)
    refine split_b (fun h => absurd (hz.symm.trans h) Bool.false_ne_true) (fun _ => ?_)
    conv => lhs; whnf
    repeat (first | refine go_rd hra ?_ | refine go_by (bytesVs_u8 s) ?_ | refine go_D hD rfl ?_
            conv => lhs; whnf)
    exact (hD _).2 hend

def xByteS : FSpec := ⟨RxG, fun g vs A => vs = [.pointer (some ⟨g.r, 0, none⟩)] ∧ RdG goodF g.B A g.r g.st ∧ stLen g.st ≤ 900000000, fun g _ A v A' => v = bv (pByte g.st).1 ∧ KeepR A A' g.r ∧ RdG goodF g.B A' g.r (pByte g.st).2⟩

theorem pTake_one (st : RdSt) : (pTake 1 st).2 = (pByte st).2 ∧ ((pTake 1 st).1 = [] ∧ (pByte st).1 = 0 ∨ (pTake 1 st).1 = [(pByte st).1]) := by
  rcases st with _ | _ | ⟨c, l⟩
  · exact ⟨rfl, .inl ⟨rfl, rfl⟩⟩
  · exact ⟨rfl, .inl ⟨rfl, rfl⟩⟩
  · have e : pTake 1 (some (c :: l)) = ([c], some l) := by
      show (if 0 ≤ (1 : Int) ∧ (1 : Int) ≤ (((c :: l).length : Nat) : Int) then ((c :: l).take 1, some ((c :: l).drop 1)) else ([], none)) = _
      rw [if_pos (by rw [List.length_cons]; omega)]
      rfl
    rw [e]
    exact ⟨rfl, .inr rfl⟩

set_option maxRecDepth 100000 in
set_option maxHeartbeats 0 in
theorem xByte_ok : FOk Tryd.prog 53 xByteS := by
  refine fok_v mixed fun ⟨r, st, Dr⟩ vs A hp => ?_
  obtain ⟨rfl, hR, hlen⟩ : vs = [.pointer (some ⟨r, 0, none⟩)] ∧ RdG goodF Dr A r st ∧ stLen st ≤ 900000000 := hp
  refine ⟨_, noL, 60, takeCountC, noL_sound _, fun blk os out tape D hD => ?_⟩
  have hone := pTake_one st
  conv => lhs; whnf
  refine (hD _).2 ⟨((⟨r, st, Dr⟩, 1) : RxG × Int), ⟨rfl, hR, hlen⟩, fun v A2 hq => ?_⟩
  have hq : Sl Dr 1 (pTake 1 st).1.length v ((pTake 1 st).1.map bv) ∧ KeepR A A2 r ∧ RdG goodF Dr A2 r (pTake 1 st).2 := hq
  rw [hone.1] at hq
  obtain ⟨hS9, j1, j2⟩ := hq
  rcases hone.2 with ⟨h1, h2⟩ | h1
  · rw [h1] at hS9
    obtain ⟨a9, c9, hf9⟩ := hS9.form
    subst hf9
    have hend : xByteS.post ⟨r, st, Dr⟩ [] A (.int .u8 0) A2 := ⟨by show _ = bv (pByte st).1; rw [h2]; rfl, j1, j2⟩
    conv => lhs; whnf
    repeat (first | refine go_D hD rfl ?_
            conv => lhs; whnf)
    exact (hD _).2 hend
  · rw [h1] at hS9
    have hend : xByteS.post ⟨r, st, Dr⟩ [] A (bv (pByte st).1) A2 := ⟨rfl, j1, j2⟩
    obtain ⟨a9, c9, hf9, hc9, hl9, ha1, ha2, ha3⟩ := hS9.sub j2.dsub
    have hc9 : 1 ≤ c9 := hc9
    obtain ⟨g, o, e, hra⟩ := Sl.at_ hc9 ha1 ha2 ha3 (Nat.succ_pos 0)
    subst e
    subst hf9
    have hra : A2.rd g (o + 0 * 1) 1 = some [bv (pByte st).1] := hra
    conv => lhs; whnf
    repeat (first | refine go_rd hra ?_ | refine go_D hD rfl ?_
            conv => lhs; whnf)
    exact (hD _).2 hend

end
end Go.Proofs.YtiabopbigplklaaDoor

namespace Go.Proofs.YtiabopbigplklaaDoor
open Go.Sx Go.RowKit
noncomputable section
open Classical

def alRx : TypeId → Bool := fun t => Nat.beq t 128

def xNewS : FSpec := ⟨List UInt8, fun l vs A => ∃ x, vs = [x] ∧ SlB A x l, fun l _ A v A' => A.Sub A' ∧ ∃ r, v = .pointer (some ⟨r, 0, none⟩) ∧ A.blk r = none ∧ ∃ D, RdG goodF D A' r (some l)⟩

set_option maxRecDepth 100000 in
set_option maxHeartbeats 0 in
theorem xNew_ok : FOk Tryd.prog 52 xNewS := by
  refine fok_a mixed alRx fun (l : List UInt8) vs A hp => ?_
  obtain ⟨x, rfl, hX⟩ : ∃ x, vs = [x] ∧ SlB A x l := hp
  have hC : CTSound Tryd.prog (lookC [specE 41 cloneBytesS] noC) := lookC_sound (noC_sound _) (fun x hx => by
    simp only [List.mem_singleton] at hx
    subst hx
    exact specE_ok cloneBytes_ok)
  obtain ⟨ax, cx, hxf⟩ := hX.1.form
  subst hxf
  refine ⟨_, noL, 60, hC, noL_sound _, fun blk os out tape D hD => ?_⟩
  conv => lhs; whnf
  refine (hD _).2 ⟨l, ⟨_, rfl, hX⟩, fun v A1 hq => ?_⟩
  obtain ⟨s1, hS1⟩ : A.Sub A1 ∧ SlB (A1.minus A) v l := hq
  obtain ⟨av, cv, hvf⟩ := hS1.1.form
  subst hvf
  conv => lhs; whnf
  repeat (first | refine go_D hD rfl ?_
          conv => lhs; whnf)
  refine (hD _).2 fun r A2 hN => ?_
  have hN : A1.New A2 r #[.slice av l.length cv, .bool true] 128 := hN
  have hend : xNewS.post l [] A (.pointer (some ⟨r, 0, none⟩)) A2 := by
    refine ⟨s1.trans hN.sub, r, rfl, ?_, A1, _, ⟨_, _, _, hN.at_, .inl rfl, rfl⟩, hN.sub, hN.none_, hS1.1.sub (minus_sub _ _), fun h => (by cases h)⟩
    cases hA : A.blk r with
    | none => rfl
    | some o => have := s1 r o hA; rw [hN.none_] at this; cases this
  conv => lhs; whnf
  repeat (first | refine go_D hD rfl ?_
          conv => lhs; whnf)
  exact (hD _).2 hend

end
end Go.Proofs.YtiabopbigplklaaDoor

namespace Go.Proofs.YtiabopbigplklaaDoor
open Go.Sx Go.RowKit
noncomputable section
open Classical

theorem GrowR.keepR {A1 A A' : Arena} {es r : Nat} {e : TypeId} {n : Nat} {v : Value} {cs : List Value} (h : GrowR A1 A es e n v cs) (hk : KeepR A A' r) (hr : A1.blk r ≠ none) : GrowR A1 A' es e n v cs := by
  obtain ⟨h1, h2 | ⟨g, nc, c, h3, h4, h4', h5, h6, h7, h8⟩⟩ := h
  · exact ⟨h1, .inl h2⟩
  · exact ⟨h1, .inr ⟨g, nc, c, h3, h4, h4', h5, hk g _ h6 fun e => hr (by rw [← e]; exact h5), h7, h8⟩⟩

theorem GrowR.slM {A0 A1 A : Arena} {es : Nat} {e : TypeId} {n : Nat} {v : Value} {cs : List Value} (h : GrowR A1 A es e n v cs) (hg : ∀ g, A1.blk g = none → A0.blk g = none) : Sl (A.minus A0) es n v cs := by
  obtain ⟨h1, ⟨rfl, rfl⟩ | ⟨g, nc, c, rfl, h4, h4', h5, h6, h7, rfl⟩⟩ := h
  · have : cs = [] := List.length_eq_zero_iff.1 (by rw [h1]; simp)
    subst this
    exact Sl.nil _ _
  · refine Sl.row h4 (rd_minus ?_ (hg g h5))
    have hle : n * es ≤ nc * es := Nat.mul_le_mul_right _ h4
    rw [rd_mk h6 (by omega)]
    rfl

/-- What a get of a config gives. -/
def GetER (l : List UInt8) (A : Arena) (v : Value) (A' : Arena) : Prop := A.Sub A' ∧ (getE l = none → v = .tuple #[.agg #[.int .i64 0, .slice none 0 0], .int .i64 4]) ∧
  ∀ ver ms, getE l = some (ver, ms) → ∃ x, v = .tuple #[.agg #[.int .i64 ver, x], .int .i64 0] ∧ MemR (A'.minus A) x ms

def ensGetS : FSpec := ⟨List UInt8, fun l vs A => ∃ x, vs = [x] ∧ SlB A x l ∧ l.length ≤ 900000000, fun l _ A v A' => GetER l A v A'⟩

structure EgS where
  k : Nat
  A : Arena
  n : Nat
  v : Value

def ensGetInv (_A0 A1 : Arena) (r : Nat) (B : Arena) (ver : Int) (n : Nat) (st : RdSt) (sl : List (Nat × SV)) : LInv :=
  { γ := Nat × Arena × (Option (Nat × Nat) × Nat), G := fun s => s.1 ≤ n ∧ KeepR A1 s.2.1 r ∧ RdG goodF B s.2.1 r (pMems s.1 st).2 ∧ GrowR A1 s.2.1 4 62 s.1 (.slice (addrA s.2.2.1) s.1 s.2.2.2) (memCells (pMems s.1 st).1),
    keepS := [], keepB := [0], sl := fun s => (16, .v (.int .i64 s.1)) :: sl, bl := fun s => [(1, .cells [.v (.int .i64 ver), .v (.slice (addrA s.2.2.1) s.1 s.2.2.2)] 0 (27 + 1))], ar := fun s => s.2.1, mu := fun s => n - s.1 }

theorem ensGetC : CTSound Tryd.prog (lookC [specE 52 xNewS, specE 57 xIntS, specE 54 xCountS, specE 34 ensS] noC) := lookC_sound (noC_sound _) (fun x hx => by
  simp only [List.mem_cons, List.not_mem_nil, or_false] at hx
  rcases hx with rfl | rfl | rfl | rfl
  · exact specE_ok xNew_ok
  · exact specE_ok xInt_ok
  · exact specE_ok xCount_ok
  · exact specE_ok ens_ok)

set_option maxRecDepth 100000 in
set_option maxHeartbeats 0 in
theorem ensGet_ok : FOk Tryd.prog 59 ensGetS := by
  refine fok_v mixed fun (l : List UInt8) vs A hp => ?_
  obtain ⟨x, rfl, hX, hlen⟩ : ∃ x, vs = [x] ∧ SlB A x l ∧ l.length ≤ 900000000 := hp
  obtain ⟨ax, cx, hxf⟩ := hX.1.form
  subst hxf
  refine ⟨_, tabO Tryd.prog _ noL 60 [(59, 0)], 60, ensGetC, tabO_sound mixed ensGetC (noL_sound _) _ _, fun blk os out tape D hD => ?_⟩
  conv => lhs; whnf
  refine (hD _).2 ⟨l, ⟨_, rfl, hX⟩, fun v A1 hq => ?_⟩
  obtain ⟨s1, r, hv, hr, B, hR⟩ : A.Sub A1 ∧ ∃ r, v = .pointer (some ⟨r, 0, none⟩) ∧ A.blk r = none ∧ ∃ D, RdG goodF D A1 r (some l) := hq
  subst hv
  conv => lhs; whnf
  refine (hD _).2 ⟨(⟨r, some l, B⟩ : RxG), ⟨rfl, hR, hlen⟩, fun v A2 hq => ?_⟩
  obtain ⟨hv, k2, hR2⟩ : v = .int .i64 (pInt (some l)).1 ∧ KeepR A1 A2 r ∧ RdG goodF B A2 r (pInt (some l)).2 := hq
  have hl2 : stLen (pInt (some l)).2 ≤ l.length := pInt_len (some l)
  have hgE : ∀ st : RdSt, st = (pInt (some l)).2 → getE l = if (pMems (pCount 7 st).1.toNat (pCount 7 st).2).2 = some [] ∧ ensD (pInt (some l)).1 (pMems (pCount 7 st).1.toNat (pCount 7 st).2).1 = 0 then some ((pInt (some l)).1, (pMems (pCount 7 st).1.toNat (pCount 7 st).2).1) else none := fun st h => by rw [h]; rfl
  have hgE := hgE _ rfl
  generalize (pInt (some l)).1 = ver at *
  generalize (pInt (some l)).2 = s2 at *
  subst hv
  conv => lhs; whnf
  refine (hD _).2 ⟨((⟨r, s2, B⟩, 7) : RxG × Int), ⟨rfl, hR2, by show stLen s2 ≤ _; omega, by show (0 : Int) ≤ 7; decide, by show (7 : Int) ≤ _; decide⟩, fun v A3 hq => ?_⟩
  obtain ⟨hv, k3, hR3⟩ : v = .int .i64 (pCount 7 s2).1 ∧ KeepR A2 A3 r ∧ RdG goodF B A3 r (pCount 7 s2).2 := hq
  have hn7 := pCount_in (s := s2) (show (0 : Int) ≤ 7 by decide)
  have hl3 := pCount_len 7 s2
  obtain ⟨n, hn⟩ : ∃ n : Nat, (pCount 7 s2).1 = n := ⟨(pCount 7 s2).1.toNat, by omega⟩
  rw [hn] at hv hn7 hgE
  rw [Int.toNat_natCast] at hgE
  generalize (pCount 7 s2).2 = s3 at *
  subst hv
  conv => lhs; whnf
  have hG0 : n ≤ n ∧ True := ⟨Nat.le_refl _, trivial⟩
  have hK0 : KeepR A3 A3 r := KeepR.refl _ _
  have hn8 : n ≤ 7 := by omega
  refine (hD _).2 ⟨ensGetInv A A3 r B ver n s3 [(15, .v (.int .i64 n)), (5, .ptr 1 0), (4, .v (.pointer (some ⟨r, 0, none⟩))), (2, .ptr 0 0)], ⟨((0, A3, none, 0) : Nat × Arena × (Option (Nat × Nat) × Nat)), ⟨Nat.zero_le _, hK0, hR3, GrowR.nil _ _ _ _⟩, ⟨rfl, rfl, rfl, rfl, rfl, trivial⟩, ⟨rfl, trivial⟩, rfl⟩, fun (s : Nat × Arena × (Option (Nat × Nat) × Nat)) hG => ⟨⟨trivial, trivial, Nat.lt_succ_self 1, trivial, Nat.succ_pos 1, trivial⟩, ⟨Nat.lt_succ_self 1, ⟨trivial, trivial, trivial⟩, trivial⟩, ?_⟩⟩
  obtain ⟨k, A4, base, c⟩ := s
  obtain ⟨hk, hK, hR4, hrow⟩ : k ≤ n ∧ KeepR A3 A4 r ∧ RdG goodF B A4 r (pMems k s3).2 ∧ GrowR A3 A4 4 62 k (.slice (addrA base) k c) (memCells (pMems k s3).1) := hG
  have hsl := pMems_stlen s3 k
  conv => lhs; whnf
  refine split_dec (fun hlt => ?_) (fun hlt => ?_)
  · have hkn : k < n := by
      have hlt : (k : Int) < (n : Int) := hlt
      omega
    have hnext : pMems (k + 1) s3 = ((pMems k s3).1 ++ [(pMem (pMems k s3).2).1], (pMem (pMems k s3).2).2) := rfl
    generalize (pMems k s3).1 = ms0 at *
    generalize (pMems k s3).2 = t0 at *
    conv => lhs; whnf
    repeat (first | refine go_D hD rfl ?_
            conv => lhs; whnf)
    refine (hD _).2 ⟨((⟨r, t0, B⟩, 7) : RxG × Int), ⟨rfl, hR4, by show stLen t0 ≤ _; omega, by show (0 : Int) ≤ 7; decide, by show (7 : Int) ≤ _; decide⟩, fun v A5 hq => ?_⟩
    obtain ⟨hv, j5, R5⟩ : v = .int .i64 (pCount 7 t0).1 ∧ KeepR A4 A5 r ∧ RdG goodF B A5 r (pCount 7 t0).2 := hq
    have hin5 := pCount_in (s := t0) (show (0 : Int) ≤ 7 by decide)
    have hsl5 := pCount_len 7 t0
    subst hv
    conv => lhs; whnf
    repeat (first | refine go_D hD rfl ?_
            conv => lhs; whnf)
    refine (hD _).2 ⟨((⟨r, (pCount 7 t0).2, B⟩, 2) : RxG × Int), ⟨rfl, R5, by show stLen (pCount 7 t0).2 ≤ _; omega, by show (0 : Int) ≤ 2; decide, by show (2 : Int) ≤ _; decide⟩, fun v A6 hq => ?_⟩
    obtain ⟨hv, j6, R6⟩ : v = .int .i64 (pCount 2 (pCount 7 t0).2).1 ∧ KeepR A5 A6 r ∧ RdG goodF B A6 r (pCount 2 (pCount 7 t0).2).2 := hq
    have hin6 := pCount_in (s := (pCount 7 t0).2) (show (0 : Int) ≤ 2 by decide)
    have hsl6 := pCount_len 2 (pCount 7 t0).2
    subst hv
    conv => lhs; whnf
    repeat (first | refine go_D hD rfl ?_
            conv => lhs; whnf)
    refine (hD _).2 ⟨((⟨r, (pCount 2 (pCount 7 t0).2).2, B⟩, 1000) : RxG × Int), ⟨rfl, R6, by show stLen (pCount 2 (pCount 7 t0).2).2 ≤ _; omega, by show (0 : Int) ≤ 1000; decide, by show (1000 : Int) ≤ _; decide⟩, fun v A7 hq => ?_⟩
    obtain ⟨hv, j7, R7⟩ : v = .int .i64 (pCount 1000 (pCount 2 (pCount 7 t0).2).2).1 ∧ KeepR A6 A7 r ∧ RdG goodF B A7 r (pCount 1000 (pCount 2 (pCount 7 t0).2).2).2 := hq
    have hin7 := pCount_in (s := (pCount 2 (pCount 7 t0).2).2) (show (0 : Int) ≤ 1000 by decide)
    have hsl7 := pCount_len 1000 (pCount 2 (pCount 7 t0).2).2
    subst hv
    conv => lhs; whnf
    repeat (first | refine go_D hD rfl ?_
            conv => lhs; whnf)
    refine (hD _).2 ⟨((⟨r, (pCount 1000 (pCount 2 (pCount 7 t0).2).2).2, B⟩, 7) : RxG × Int), ⟨rfl, R7, by show stLen (pCount 1000 (pCount 2 (pCount 7 t0).2).2).2 ≤ _; omega, by show (0 : Int) ≤ 7; decide, by show (7 : Int) ≤ _; decide⟩, fun v A8 hq => ?_⟩
    obtain ⟨hv, j8, R8⟩ : v = .int .i64 (pCount 7 (pCount 1000 (pCount 2 (pCount 7 t0).2).2).2).1 ∧ KeepR A7 A8 r ∧ RdG goodF B A8 r (pCount 7 (pCount 1000 (pCount 2 (pCount 7 t0).2).2).2).2 := hq
    have hin8 := pCount_in (s := (pCount 1000 (pCount 2 (pCount 7 t0).2).2).2) (show (0 : Int) ≤ 7 by decide)
    have hsl8 := pCount_len 7 (pCount 1000 (pCount 2 (pCount 7 t0).2).2).2
    subst hv
    have hm : pMem t0 = (⟨(pCount 7 t0).1, (pCount 2 (pCount 7 t0).2).1, (pCount 1000 (pCount 2 (pCount 7 t0).2).2).1, (pCount 7 (pCount 1000 (pCount 2 (pCount 7 t0).2).2).2).1⟩, (pCount 7 (pCount 1000 (pCount 2 (pCount 7 t0).2).2).2).2) := rfl
    rw [hm] at hnext
    generalize (pCount 7 t0).1 = id at *
    generalize (pCount 2 (pCount 7 t0).2).1 = role at *
    generalize (pCount 1000 (pCount 2 (pCount 7 t0).2).2).1 = weight at *
    generalize (pCount 7 (pCount 1000 (pCount 2 (pCount 7 t0).2).2).2).1 = group at *
    generalize (pCount 7 (pCount 1000 (pCount 2 (pCount 7 t0).2).2).2).2 = t8 at *
    have hK8 : KeepR A4 A8 r := j5.trans (j6.trans (j7.trans j8))
    have hK38 : KeepR A3 A8 r := hK.trans hK8
    obtain ⟨or3, hor3⟩ := hR3.live2
    have hrow8 := GrowR.keepR hrow hK8 (by rw [hor3]; simp)
    have hf := hrow8.formN
    obtain ⟨base', c', hvb, hbase, hP, hA⟩ := hf
    injection hvb with e1 e2 e3
    have e1 := addrA_inj e1
    subst e1; subst e3
    have hrole : IntKind.u8.wrap role = role := by
      have h : IntKind.u8.wrap role = role % 256 := rfl
      rw [h]; omega
    conv => lhs; whnf
    repeat (first | refine go_D hD rfl ?_
            conv => lhs; whnf)
    refine (hD _).2 fun ge A9 hN => ?_
    have hN : A8.New A9 ge #[.int .i64 id, .int .u8 (IntKind.u8.wrap role), .int .i64 weight, .int .i64 group] 62 := hN
    rw [hrole] at hN
    have hrow9 := hrow8.sub hN.sub
    have hf9 := hrow9.formN
    obtain ⟨base'', c'', hvb, -, hP, hA⟩ := hf9
    injection hvb with e1 e2 e3
    have e1 := addrA_inj e1
    subst e1; subst e3
    have hPd := hP 1 32 (by omega) (by omega)
    have hy9 : A9.rd ge 0 (1 * 4) = some [.int .i64 id, .int .u8 role, .int .i64 weight, .int .i64 group] := hN.rd (o := 0) (n := 1 * 4) (by show 0 + 1 * 4 ≤ 4; omega)
    have hlive9 : ∀ j, A9.blk j = none → A3.blk j = none := fun j hj => by
      cases h3 : A3.blk j with
      | none => rfl
      | some o =>
        by_cases e : j = r
        · obtain ⟨o', ho⟩ := R8.live2
          rw [e, hN.sub r o' ho] at hj; cases hj
        · rw [hN.sub j o (hK38 j o h3 e)] at hj; cases hj
    rcases hbase with rfl | ⟨gx, rfl⟩ <;> (conv => lhs; whnf)
    all_goals
      repeat (first | refine go_D hD rfl ?_
              conv => lhs; whnf)
      refine (hD _).2 ⟨_, [.int .i64 id, .int .u8 role, .int .i64 weight, .int .i64 group], hPd.rd, hy9, rfl, fun v hv => by
        simp only [List.mem_cons, List.not_mem_nil, or_false] at hv
        rcases hv with rfl | rfl | rfl | rfl <;> rfl, ?_, hPd.cap, rfl, hPd.none_, fun g' o' he' hle' _ => hPd.room 4 rfl g' o' he' hle', fun v9 A10 hAp => ?_⟩
      · show k + 1 ≤ 9223372036854775807
        omega
      · have hc9 := hA 1 [.int .i64 id, .int .u8 role, .int .i64 weight, .int .i64 group] v9 A10 rfl hlive9 hAp
        obtain ⟨hrow10, hsame⟩ := hc9
        have hf10 := hrow10.formN
        obtain ⟨b10, c10, hv10, -⟩ := hf10
        subst hv10
        have hr10 : A10.blk r = A9.blk r := hsame r or3 hor3
        have hB10 : B.Sub A10 := fun j o hj => by
          rw [hsame j o (hR3.dsub j o hj)]
          exact hN.sub j o (R8.dsub j o hj)
        have hR10 := (R8.keep hN.sub).other hB10 hr10
        have hK10 : KeepR A3 A10 r := fun j o hj hjr => by
          rw [hsame j o hj]
          exact hN.sub j o (hK38 j o hj hjr)
        have hrow10 : GrowR A3 A10 4 62 (k + 1) (.slice (addrA b10) (k + 1) c10) (memCells (pMems (k + 1) s3).1) := by
          rw [hnext]
          show GrowR A3 A10 4 _ (k + 1) _ (memCells (ms0 ++ [⟨id, role, weight, group⟩]))
          have e : memCells (ms0 ++ [⟨id, role, weight, group⟩]) = memCells ms0 ++ [.int .i64 id, .int .u8 role, .int .i64 weight, .int .i64 group] := by
            unfold memCells
            rw [List.map_append, List.flatten_append]
            rfl
          rw [e]
          exact hrow10
        have hR10 : RdG goodF B A10 r (pMems (k + 1) s3).2 := by rw [hnext]; exact hR10
        conv => lhs; whnf
        repeat (first | refine go_D hD rfl ?_
                conv => lhs; whnf)
        exact (hD _).2 ⟨((k + 1, A10, b10, c10) : Nat × Arena × (Option (Nat × Nat) × Nat)), ⟨⟨hkn, hK10, hR10, hrow10⟩, ⟨inc_slot (by omega), rfl, rfl, rfl, rfl, trivial⟩, ⟨rfl, trivial⟩, rfl⟩, by show n - (k + 1) < n - k; omega, trivial, ⟨same1 rfl rfl, trivial⟩⟩
  · have hkn : k = n := by
      have hlt : ¬ (k : Int) < (n : Int) := hlt
      omega
    subst hkn
    have hA04 : A.Sub A4 := fun j o hj => hK j o (k3 j o (k2 j o (s1 j o hj) fun e => (by rw [e, hr] at hj; cases hj)) fun e => (by rw [e, hr] at hj; cases hj)) fun e => (by rw [e, hr] at hj; cases hj)
    have hbadE : getE l = none → ensGetS.post l [] A (.tuple #[.agg #[.int .i64 0, .slice none 0 0], .int .i64 4]) A4 := fun h => ⟨hA04, fun _ => rfl, fun ver ms h2 => (by rw [h] at h2; cases h2)⟩
    have hrowS := hrow.sl
    have hml : (pMems k s3).1.length = k := pMems_len s3 k
    have hR40 := hR4
    obtain ⟨v4, htop, hDs, hDr, hSl4, hnil4⟩ := hR40
    have r1 : A4.rd r 1 1 = some [.bool (goodF (pMems k s3).2)] := htop.rd (o := 1) (n := 1) (by show 1 + 1 ≤ 2; omega)
    have hgood : (pMems k s3).2 = some [] → goodF (pMems k s3).2 = true := fun h => by rw [h]; rfl
    cases hst : (pMems k s3).2 with
    | none =>
      rw [hst] at r1
      have hend := hbadE (by rw [hgE, if_neg (by rw [hst]; rintro ⟨h, _⟩; cases h)])
      conv => lhs; whnf
      repeat (first | refine go_rd r1 ?_ | refine go_D hD rfl ?_
              conv => lhs; whnf)
      exact (hD _).2 hend
    | some l4 =>
      rw [hst] at r1 htop hSl4
      have hSl4 : Sl B 1 l4.length v4 (l4.map bv) := hSl4
      obtain ⟨a4, c4, hf4⟩ := hSl4.form
      subst hf4
      have r1 : A4.rd r 1 1 = some [.bool true] := r1
      have r0 : A4.rd r 0 1 = some [.slice a4 l4.length c4] := htop.rd (o := 0) (n := 1) (by show 0 + 1 ≤ 2; omega)
      conv => lhs; whnf
      repeat (first | refine go_rd r1 ?_ | refine go_rd r0 ?_ | refine go_D hD rfl ?_
              conv => lhs; whnf)
      refine split_nd (fun q0 => ?_) (fun q0 => ?_)
      rotate_left
      · have hend := hbadE (by
          rw [hgE, if_neg]
          rintro ⟨h, _⟩
          rw [hst] at h
          injection h with h
          rw [h] at q0
          exact q0 rfl)
        conv => lhs; whnf
        exact (hD _).2 hend
      have hl40 : l4 = [] := by
        have q0 : (l4.length : Int) = 0 := q0
        exact List.length_eq_zero_iff.1 (by omega)
      subst hl40
      have hM : MemR A4 (.slice (addrA base) k c) (pMems k s3).1 := ⟨by rw [hml]; exact hrowS, by rw [hml]; omega⟩
      have hnew : ∀ g, A3.blk g = none → A.blk g = none := fun g hg => by
        cases hA : A.blk g with
        | none => rfl
        | some o =>
          have hgr : g ≠ r := fun e => by rw [e, hr] at hA; cases hA
          have := k3 g o (k2 g o (s1 g o hA) hgr) hgr
          rw [hg] at this; cases this
      have hMm : MemR (A4.minus A) (.slice (addrA base) k c) (pMems k s3).1 := ⟨by rw [hml]; exact GrowR.slM hrow hnew, by rw [hml]; omega⟩
      have hyes : ensD ver (pMems k s3).1 = 0 → ensGetS.post l [] A (.tuple #[.agg #[.int .i64 ver, .slice (addrA base) k c], .int .i64 0]) A4 := fun h => by
        have hgE2 : getE l = some (ver, (pMems k s3).1) := by rw [hgE, if_pos ⟨hst, h⟩]
        refine ⟨hA04, fun h2 => (by rw [hgE2] at h2; cases h2), fun ver' ms' h2 => ?_⟩
        rw [hgE2] at h2
        injection h2 with h2
        injection h2 with e1 e2
        subst e1; subst e2
        exact ⟨_, rfl, hMm⟩
      have hno : ensD ver (pMems k s3).1 ≠ 0 → ensGetS.post l [] A (.tuple #[.agg #[.int .i64 0, .slice none 0 0], .int .i64 4]) A4 := fun h => hbadE (by
        rw [hgE, if_neg]
        rintro ⟨_, h2⟩
        exact h h2)
      generalize (pMems k s3).1 = ms at *
      conv => lhs; whnf
      repeat (first | refine go_D hD rfl ?_
              conv => lhs; whnf)
      refine (hD _).2 ⟨((ver, ms) : Int × List MemD), ⟨_, rfl, hM⟩, fun v A5 hq => ?_⟩
      have hq : A5 = A4 ∧ v = .int .i64 (ensD ver ms) := hq
      have h9 := hq.1.symm
      have hv := hq.2
      subst h9
      subst hv
      conv => lhs; whnf
      refine split_nd (fun q1 => ?_) (fun q1 => ?_)
      · have hend := hyes q1
        conv => lhs; whnf
        exact (hD _).2 hend
      · have hend := hno q1
        conv => lhs; whnf
        exact (hD _).2 hend

end
end Go.Proofs.YtiabopbigplklaaDoor

namespace Go.Proofs.YtiabopbigplklaaDoor
open Go.Sx Go.RowKit
noncomputable section
open Classical

/-- What a get of an image gives. -/
def GetIR (l : List UInt8) (A : Arena) (v : Value) (A' : Arena) : Prop := A.Sub A' ∧
  (getI l = none → v = .tuple #[.slice none 0 0, .slice none 0 0, .agg #[.int .i64 0, .slice none 0 0], .int .i64 0, .int .i64 0, .int .i64 4]) ∧
  ∀ ns ss ver ms f t, getI l = some (ns, ss, ver, ms, f, t) → ∃ (xs : List (ToldD × Value)) (x y z : Value), xs.map (·.1) = ns ∧ v = .tuple #[x, y, .agg #[.int .i64 ver, z], .int .i64 f, .int .i64 t, .int .i64 0] ∧ NodesR (A'.minus A) x xs ∧ SlS (A'.minus A) y ss ∧ MemR (A'.minus A) z ms

def getS : FSpec := ⟨List UInt8, fun l vs A => ∃ x, vs = [x] ∧ SlB A x l ∧ l.length ≤ 900000000, fun l _ A v A' => GetIR l A v A'⟩

structure IhG where
  k : Nat
  A : Arena
  base : Option (Nat × Nat)
  c : Nat
  g : Option Nat
  xs : List (ToldD × Value)

def IhG.L (s : IhG) : LsD := ⟨.slice (addrA s.base) s.k s.c, s.k, s.c, s.g⟩

theorem minus_sub2 {A A1 A2 : Arena} (h : A.Sub A1) : (A2.minus A1).Sub (A2.minus A) := fun k o hk => by
  obtain ⟨h1, h2⟩ := minus_blk hk
  exact minus_mk (none_of h h1) h2

end
end Go.Proofs.YtiabopbigplklaaDoor

namespace Go.Proofs.YtiabopbigplklaaDoor
open Go.Sx Go.RowKit
noncomputable section
open Classical

theorem BfTo.refl {A : Arena} {w : Nat} {L : LsD} {l : List UInt8} (h : BfR A w L l) : BfTo A w L l A := ⟨L, h, fun _ _ h _ _ => h, fun _ h => .inl h⟩

theorem BfTo.then {A A' A'' : Arena} {w : Nat} {L L' : LsD} {l : List UInt8} (h1 : ∀ k o, A.blk k = some o → k ≠ w → L.g ≠ some k → A'.blk k = some o) (h2 : ∀ g, L'.g = some g → L.g = some g ∨ A.blk g = none) (h : BfTo A' w L' l A'') : BfTo A w L l A'' := by
  obtain ⟨L9, k1, k2, k3⟩ := h
  refine ⟨L9, k1, fun k o hk hw hL => k2 k o (h1 k o hk hw hL) hw fun e => ?_, fun g hg => ?_⟩
  · rcases h2 k e with h | h
    · exact hL h
    · rw [h] at hk; cases hk
  · rcases k3 g hg with h | h
    · exact h2 g h
    · cases hA : A.blk g with
      | none => exact .inr rfl
      | some o =>
        by_cases hw : g = w
        · subst hw
          exact absurd hg k1.ne
        · by_cases hL : L.g = some g
          · exact .inl hL
          · rw [h1 g o hA hw hL] at h; cases h

def wwByteS : FSpec := ⟨BbG, fun g vs A => vs = [.pointer (some ⟨g.w, 0, none⟩), .int .u8 g.b.toNat] ∧ BfR A g.w g.L g.l ∧ g.l.length ≤ 890000000, fun g _ A v A' => v = .tuple #[] ∧ BfTo A g.w g.L (g.l ++ [g.b]) A'⟩

set_option maxRecDepth 100000 in
set_option maxHeartbeats 0 in
theorem wwByte_ok : FOk Tryd.prog 23 wwByteS := by
  refine fok_v mixed fun ⟨w, L, l, b⟩ vs A hp => ?_
  obtain ⟨rfl, hW, hlen⟩ : vs = [.pointer (some ⟨w, 0, none⟩), .int .u8 b.toNat] ∧ BfR A w L l ∧ l.length ≤ 890000000 := hp
  have hC : CTSound Tryd.prog (lookC [specE 36 bfByteS] noC) := lookC_sound (noC_sound _) (fun x hx => by
    simp only [List.mem_singleton] at hx
    subst hx
    exact specE_ok bfByte_ok)
  refine ⟨_, noL, 60, hC, noL_sound _, fun blk os out tape D hD => ?_⟩
  conv => lhs; whnf
  repeat (first | refine go_D hD rfl ?_
          conv => lhs; whnf)
  refine (hD _).2 ⟨(⟨w, L, l, b⟩ : BbG), ⟨rfl, hW, hlen⟩, fun v A1 hq => ?_⟩
  obtain ⟨hv, hq⟩ : v = .nilIface ∧ BfTo A w L (l ++ [b]) A1 := hq
  subst hv
  have hend : wwByteS.post ⟨w, L, l, b⟩ [] A (.tuple #[]) A1 := ⟨rfl, hq⟩
  conv => lhs; whnf
  repeat (first | refine go_D hD rfl ?_
          conv => lhs; whnf)
  exact (hD _).2 hend

structure WiG where
  w : Nat
  L : LsD
  l : List UInt8
  n : Int

structure WiS where
  A : Arena
  L : LsD
  l : List UInt8
  u : Nat
  f : Nat

def wiInv (A0 : Arena) (w : Nat) (L0 : LsD) (T : List UInt8) : LInv :=
  { γ := WiS, G := fun s => BfR s.A w s.L s.l ∧ VI T s.l s.u s.f ∧ (∀ k o, A0.blk k = some o → k ≠ w → L0.g ≠ some k → s.A.blk k = some o) ∧ ∀ g, s.L.g = some g → L0.g = some g ∨ A0.blk g = none,
    keepS := [0], keepB := [], sl := fun s => [(4, .v (.int .u64 s.u))], bl := fun _ => [], ar := fun s => s.A, mu := fun s => s.u }

def wwIntS : FSpec := ⟨WiG, fun g vs A => vs = [.pointer (some ⟨g.w, 0, none⟩), .int .i64 g.n] ∧ BfR A g.w g.L g.l ∧ g.l.length ≤ 880000000 ∧ -9223372036854775808 ≤ g.n ∧ g.n ≤ 9223372036854775807, fun g _ A v A' => v = .tuple #[] ∧ BfTo A g.w g.L (g.l ++ vints g.n) A'⟩

set_option maxRecDepth 100000 in
set_option maxHeartbeats 0 in
theorem wwInt_ok : FOk Tryd.prog 24 wwIntS := by
  refine fok_v mixed fun ⟨w, L, l, n⟩ vs A hp => ?_
  obtain ⟨rfl, hW, hlen, hn1, hn2⟩ : vs = [.pointer (some ⟨w, 0, none⟩), .int .i64 n] ∧ BfR A w L l ∧ l.length ≤ 880000000 ∧ -9223372036854775808 ≤ n ∧ n ≤ 9223372036854775807 := hp
  have hC : CTSound Tryd.prog (lookC [specE 36 bfByteS] noC) := lookC_sound (noC_sound _) (fun x hx => by
    simp only [List.mem_singleton] at hx
    subst hx
    exact specE_ok bfByte_ok)
  refine ⟨_, tabO Tryd.prog _ noL 60 [(24, 0)], 60, hC, tabO_sound mixed hC (noL_sound _) _ _, fun blk os out tape D hD => ?_⟩
  have hz := zig_prog hn1 hn2
  conv => lhs; whnf
  repeat (first | refine go_D hD rfl ?_
          conv => lhs; whnf)
  have hG0 : (wiInv A w L (l ++ vints n)).G ⟨A, L, l, zig n, 9⟩ := ⟨hW, VI.start hn1 hn2 l, fun _ _ h _ _ => h, fun _ h => .inl h⟩
  refine (hD _).2 ⟨wiInv A w L (l ++ vints n), ⟨(⟨A, L, l, zig n, 9⟩ : WiS), hG0, ⟨congrArg (fun x : Int => some (SV.v (.int .u64 x))) hz, trivial⟩, trivial, rfl⟩, fun (s : WiS) hG => ⟨⟨trivial, trivial⟩, trivial, ?_⟩⟩
  clear hG0 hz
  obtain ⟨A1, L1, l1, u, f⟩ := s
  obtain ⟨hW1, hV, hk1, hg1⟩ : BfR A1 w L1 l1 ∧ VI (l ++ vints n) l1 u f ∧ (∀ k o, A.blk k = some o → k ≠ w → L.g ≠ some k → A1.blk k = some o) ∧ ∀ g, L1.g = some g → L.g = some g ∨ A.blk g = none := hG
  have hTl : (l ++ vints n).length ≤ 880000010 := by
    have := vput_len 9 (zig n)
    rw [List.length_append]
    show l.length + (vput 9 (zig n)).length ≤ _
    omega
  have hll := hV.len
  conv => lhs; whnf
  repeat (first | refine go_D hD rfl ?_
          conv => lhs; whnf)
  refine split_dec (fun h => ?_) (fun h => ?_)
  · have h : (127 : Int) < (u : Int) := h
    have hu : 128 ≤ u := by omega
    have hb : bitsOf .or .u8 (IntKind.u8.wrap (u : Int)) 128 = (((UInt8.ofNat (u % 128 + 128)).toNat : Nat) : Int) := by
      rw [u8_wrap, or_128, UInt8.toNat_ofNat_of_lt' (by omega : u % 128 + 128 < 256)]
    have hvs : [Value.pointer (some ⟨w, 0, none⟩), .int .u8 (bitsOf .or .u8 (IntKind.u8.wrap (u : Int)) 128)] = [.pointer (some ⟨w, 0, none⟩), .int .u8 (UInt8.ofNat (u % 128 + 128)).toNat] := by rw [hb]
    conv => lhs; whnf
    repeat (first | refine go_D hD rfl ?_
            conv => lhs; whnf)
    refine (hD _).2 ⟨(⟨w, L1, l1, UInt8.ofNat (u % 128 + 128)⟩ : BbG), ⟨hvs, hW1, by show l1.length ≤ 890000000; omega⟩, fun v A2 hq => ?_⟩
    obtain ⟨hv, L2, hW2, hk2, hg2⟩ : v = .nilIface ∧ BfTo A1 w L1 (l1 ++ [UInt8.ofNat (u % 128 + 128)]) A2 := hq
    subst hv
    have hnx := hV.next hu
    obtain ⟨f', hV2⟩ := hnx
    have hk3 : ∀ k o, A.blk k = some o → k ≠ w → L.g ≠ some k → A2.blk k = some o := fun k o hk hw hL => hk2 k o (hk1 k o hk hw hL) hw fun e => (hg1 k e).elim hL fun h9 => (by rw [h9] at hk; cases hk)
    have hg3 : ∀ g, L2.g = some g → L.g = some g ∨ A.blk g = none := fun g hg => by
      rcases hg2 g hg with h9 | h9
      · exact hg1 g h9
      · cases hA : A.blk g with
        | none => exact .inr rfl
        | some o =>
          by_cases hw : g = w
          · subst hw
            exact absurd hg hW2.ne
          · by_cases hL : L.g = some g
            · exact .inl hL
            · rw [hk1 g o hA hw hL] at h9; cases h9
    have hG2 : (wiInv A w L (l ++ vints n)).G ⟨A2, L2, l1 ++ [UInt8.ofNat (u % 128 + 128)], u / 128, f'⟩ := ⟨hW2, hV2, hk3, hg3⟩
    conv => lhs; whnf
    repeat (first | refine go_D hD rfl ?_
            conv => lhs; whnf)
    refine (hD _).2 ⟨(⟨A2, L2, l1 ++ [UInt8.ofNat (u % 128 + 128)], u / 128, f'⟩ : WiS), ⟨hG2, ⟨congrArg (fun x : Int => some (SV.v (.int .u64 x))) (shr_7 u), trivial⟩, trivial, rfl⟩, by show u / 128 < u; omega, ⟨same1 rfl rfl, trivial⟩, trivial⟩
  · have h : ¬ (127 : Int) < (u : Int) := h
    have hu : u < 128 := by omega
    have hb : IntKind.u8.wrap (u : Int) = (((UInt8.ofNat u).toNat : Nat) : Int) := by
      rw [u8_wrap, UInt8.toNat_ofNat_of_lt' (by omega : u < 256)]
      omega
    have hvs : [Value.pointer (some ⟨w, 0, none⟩), .int .u8 (IntKind.u8.wrap (u : Int))] = [.pointer (some ⟨w, 0, none⟩), .int .u8 (UInt8.ofNat u).toNat] := by rw [hb]
    conv => lhs; whnf
    repeat (first | refine go_D hD rfl ?_
            conv => lhs; whnf)
    refine (hD _).2 ⟨(⟨w, L1, l1, UInt8.ofNat u⟩ : BbG), ⟨hvs, hW1, by show l1.length ≤ 890000000; omega⟩, fun v A2 hq => ?_⟩
    obtain ⟨hv, hto⟩ : v = .nilIface ∧ BfTo A1 w L1 (l1 ++ [UInt8.ofNat u]) A2 := hq
    subst hv
    rw [hV.last hu] at hto
    have hend : wwIntS.post ⟨w, L, l, n⟩ [] A (.tuple #[]) A2 := ⟨rfl, BfTo.then hk1 hg1 hto⟩
    conv => lhs; whnf
    repeat (first | refine go_D hD rfl ?_
            conv => lhs; whnf)
    exact (hD _).2 hend

end
end Go.Proofs.YtiabopbigplklaaDoor
