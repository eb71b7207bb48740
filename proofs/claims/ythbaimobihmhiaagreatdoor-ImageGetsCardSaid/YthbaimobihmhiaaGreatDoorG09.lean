/-
  The program's writer: a bytes.Buffer in a block of the arena.
  The program's writer: a byte more.
  The program's writer: a text more.
  The program's writer: bytes more.
  A list in a block that is new; frames, plain.
  Contracts: bytes in a row of their own.
  Readers in a block: what is left lies in rows that stay.
  Frames taken off: plain; parts of a slice of bytes.
  Plain: an image out of bytes.
  Rows of nodes that are made by append, with their data; readers beside them.
  wire.Reader: fail, take.
-/
import Derived.Test.YthbaimobihmhiaaGreatDoorG08
import Derived.Test.YthbaimobihmhiaaGreatDoorG07
namespace Go.Proofs.YthbaimobihmhiaaGreatDoor
open Go.Sx Go.RowKit
noncomputable section
open Classical

/-- In block w; what was put lies in the list L. -/
structure BfR (A : Arena) (w : Nat) (L : LsD) (l : List UInt8) : Prop where
  top : ∃ lr, CellsAt A w [L.v, .int .i64 0, .int .i8 lr]
  row : LsR A 1 5 L (l.map bv)
  ne : L.g ≠ some w
  nil : L.g = none → L.v = .slice none 0 0
  cap : L.c ≤ 9223372036854775807

theorem BfR.len {A : Arena} {w : Nat} {L : LsD} {l : List UInt8} (h : BfR A w L l) : L.n = l.length := by
  have := h.row.len
  rw [List.length_map] at this
  omega

def BfTo (A : Arena) (w : Nat) (L : LsD) (l : List UInt8) (A' : Arena) : Prop :=
  ∃ L', BfR A' w L' l ∧ (∀ k o, A.blk k = some o → k ≠ w → L.g ≠ some k → A'.blk k = some o) ∧ ∀ g, L'.g = some g → L.g = some g ∨ A.blk g = none

/-- There is room now; what lies in it is not known. -/
def BfRoom (A : Arena) (w : Nat) (L : LsD) (l : List UInt8) (n : Nat) (A' : Arena) : Prop :=
  ∃ (k c : Nat) (zs : List Value), (∃ lr, CellsAt A' w [.slice (some ⟨k, 0, none⟩) (l.length + n) c, .int .i64 0, .int .i8 lr]) ∧ LRow A' k 1 5 (l.length + n) c (l.map bv ++ zs) ∧ zs.length = n ∧ 0 < c ∧ c ≤ 9223372036854775807 ∧ k ≠ w ∧ (L.g = some k ∨ A.blk k = none) ∧
    ∀ k' o, A.blk k' = some o → k' ≠ w → L.g ≠ some k' → A'.blk k' = some o

theorem bv_one (l : List UInt8) : ∀ v ∈ l.map bv, v.oneCell' = true := fun v hv => by
  obtain ⟨b, _, rfl⟩ := List.mem_map.1 hv
  rfl

theorem bnd_upto {x : Int} {c k : Nat} (hx : x = k) (hk : k ≤ c) : ((decide ((0 : Int) ≤ 0) && decide ((0 : Int) ≤ x)) && (false || decide (x ≤ (c : Int)))) = true := by
  subst hx
  exact Bool.and_eq_true_iff.2 ⟨Bool.and_eq_true_iff.2 ⟨decide_eq_true (by omega), decide_eq_true (by omega)⟩, Bool.or_eq_true_iff.2 (.inr (decide_eq_true (by omega)))⟩

theorem LsR.rowAt {A : Arena} {es : Nat} {e : TypeId} {L : LsD} {cs : List Value} {k : Nat} (h : LsR A es e L cs) (hk : L.g = some k) : L.v = .slice (some ⟨k, 0, none⟩) L.n L.c ∧ 0 < L.c ∧ LRow A k es e L.n L.c cs := by
  rcases h with ⟨h1, _⟩ | ⟨g, h1, h2, h3, h4⟩
  · rw [h1] at hk; cases hk
  · rw [h1] at hk
    injection hk with hk
    subst hk
    exact ⟨h2, h3, h4⟩

/-- A row reaches farther into its room. -/
theorem LRow.wide {A : Arena} {k : Nat} {e : TypeId} {m c n : Nat} {cs : List Value} (h : LRow A k 1 e m c cs) (hn : m + n ≤ c) : ∃ zs : List Value, zs.length = n ∧ LRow A k 1 e (m + n) c (cs ++ zs) := by
  obtain ⟨⟨cc, h1, h2, h3⟩, h4, h5⟩ := h
  have hcl : cc.toList.length = c := by rw [Array.length_toList]; omega
  have hz : ((cc.toList.drop m).take n).length = n := by rw [List.length_take, List.length_drop]; omega
  refine ⟨(cc.toList.drop m).take n, hz, ⟨cc, h1, h2, ?_⟩, hn, by rw [List.length_append, hz]; omega⟩
  rw [Nat.mul_one] at h3 ⊢
  rw [List.take_add, h3]

structure BfG where
  w : Nat
  L : LsD
  l : List UInt8
  n : Nat

/-- grow, where tryGrowByReslice has failed. -/
def bfGrowS : FSpec := ⟨BfG, fun g vs A => vs = [.pointer (some ⟨g.w, 0, none⟩), .int .i64 g.n] ∧ BfR A g.w g.L g.l ∧ 1 ≤ g.n ∧ g.l.length + g.n ≤ 900000000 ∧ g.L.c < g.l.length + g.n, fun g _ A v A' => v = .int .i64 g.l.length ∧ BfRoom A g.w g.L g.l g.n A'⟩

set_option maxRecDepth 100000 in
set_option maxHeartbeats 0 in
theorem bfGrow_ok : FOk Tryz.prog 80 bfGrowS := by
  refine fok_v mixed fun ⟨w, L, l, n⟩ vs A hp => ?_
  obtain ⟨rfl, hW, hn1, hlen, hfull⟩ : vs = [.pointer (some ⟨w, 0, none⟩), .int .i64 n] ∧ BfR A w L l ∧ 1 ≤ n ∧ l.length + n ≤ 900000000 ∧ L.c < l.length + n := hp
  have hC : CTSound Tryz.prog (lookC [specE 98 growSliceS] noC) := lookC_sound (noC_sound _) (fun x hx => by
    simp only [List.mem_singleton] at hx
    subst hx
    exact specE_ok growSlice_ok)
  refine ⟨_, noL, 60, hC, noL_sound _, fun blk os out tape D hD => ?_⟩
  have hL := hW.len
  obtain ⟨lr, htop⟩ := hW.top
  have hrow := hW.row
  rcases hrow with ⟨k1, k2, k3, k4, -⟩ | ⟨g, k1, k2, k3, k5⟩
  · have hv := hW.nil k1
    rw [hv] at htop
    have r1 : A.rd w 0 1 = some [.slice none 0 0] := htop.rd (o := 0) (n := 1) (by show 0 + 1 ≤ 3; omega)
    have r2 : A.rd w 1 1 = some [.int .i64 0] := htop.rd (o := 1) (n := 1) (by show 1 + 1 ≤ 3; omega)
    conv => lhs; whnf
    repeat (first | refine go_rd r1 ?_ | refine go_rd r2 ?_ | refine go_D hD rfl ?_
            conv => lhs; whnf)
    refine split_dec (fun h => absurd h (by show ¬ ((n : Int) ≤ 0); omega)) (fun _ => ?_)
    conv => lhs; whnf
    repeat (first | refine go_rd r1 ?_ | refine go_rd r2 ?_ | refine go_D hD rfl ?_
            conv => lhs; whnf)
    refine split_dec (fun h64 => ?_) (fun h64 => ?_) <;> (conv => lhs; whnf)
    all_goals
      repeat (first | refine go_rd r1 ?_ | refine go_rd r2 ?_ | refine go_D hD rfl ?_
              conv => lhs; whnf)
    · refine (hD _).2 ⟨by omega, h64, by decide, by decide, rfl, fun gb A1 c1 hc1 hN1 => ?_⟩
      have hN1 : A.New A1 gb c1 5 := hN1
      have hroom : A1.Room w 0 1 := (htop.sub fun o ho => hN1.sub w o ho).room (by show 0 + 1 ≤ 3; omega)
      conv => lhs; whnf
      repeat (first | refine go_rd r1 ?_ | refine go_rd r2 ?_ | refine go_D hD rfl ?_
              conv => lhs; whnf)
      refine (hD _).2 ⟨hroom, fun A6 hPut => ?_⟩
      have hPut : A1.Put A6 w 0 [.slice (some ⟨gb, 0, none⟩) n 64] := hPut
      conv => lhs; whnf
      repeat (first | refine go_rd r1 ?_ | refine go_rd r2 ?_ | refine go_D hD rfl ?_
              conv => lhs; whnf)
      have hc1' : c1.toList = List.replicate 64 (.int .u8 0) := by
        rw [hc1]
        show (List.replicate 64 [Value.int .u8 0]).flatten = _
        rw [List.flatten_replicate_singleton]
      have h64' : n ≤ 64 := by
        have h64 : (n : Int) ≤ 64 := h64
        omega
      have hgw : gb ≠ w := fun e => (by
        have hd := htop.dom
        obtain ⟨o, ho⟩ := hd
        rw [← e, hN1.none_] at ho; cases ho)
      have hend : bfGrowS.post ⟨w, L, l, n⟩ [] A (.int .i64 0) A6 := by
        have hl0 : l.length = 0 := by omega
        refine ⟨congrArg (Value.int .i64) (show (0 : Int) = (l.length : Int) by omega), gb, 64, c1.toList.take n, ⟨lr, ?_⟩, ⟨⟨c1, ?_, ?_, ?_⟩, ?_, ?_⟩, ?_, by decide, by decide, hgw, .inr hN1.none_, fun k' o hk hw _ => ?_⟩
        · have h9 : CellsAt A6 w [.slice (some ⟨gb, 0, none⟩) n 64, .int .i64 0, .int .i8 lr] := (htop.sub fun o ho => hN1.sub w o ho).put hPut (by show 0 + 1 ≤ 3; omega)
          show CellsAt A6 w [.slice (some ⟨gb, 0, none⟩) (l.length + n) 64, .int .i64 0, .int .i8 lr]
          rw [hl0, Nat.zero_add]
          exact h9
        · rw [hPut.other gb hgw]
          exact hN1.at_
        · rw [← Array.length_toList, hc1', List.length_replicate]
        · show c1.toList.take ((l.length + n) * 1) = l.map bv ++ c1.toList.take n
          rw [k4, hl0, Nat.zero_add, Nat.mul_one]
          rfl
        · show l.length + n ≤ 64
          omega
        · show (l.map bv ++ c1.toList.take n).length = (l.length + n) * 1
          rw [k4, List.nil_append, List.length_take, hc1', List.length_replicate]
          omega
        · show (c1.toList.take n).length = n
          rw [List.length_take, hc1', List.length_replicate]
          omega
        · rw [hPut.other k' hw]
          exact hN1.sub k' o hk
      exact (hD _).2 hend
    · have e2 : IntKind.i64.wrap (IntKind.i64.wrap ((0 : Int).tdiv 2) - IntKind.i64.wrap ((0 : Int) - 0)) = 0 := by decide +kernel
      refine split_dec (fun h => absurd h (by
        intro h
        have h : (n : Int) ≤ IntKind.i64.wrap (IntKind.i64.wrap ((0 : Int).tdiv 2) - IntKind.i64.wrap ((0 : Int) - 0)) := h
        rw [e2] at h
        omega)) (fun _ => ?_)
      conv => lhs; whnf
      repeat (first | refine go_rd r1 ?_ | refine go_rd r2 ?_ | refine go_D hD rfl ?_
              conv => lhs; whnf)
      have e3 : IntKind.i64.wrap (IntKind.i64.wrap ((9223372036854775807 : Int) - 0) - (n : Int)) = 9223372036854775807 - (n : Int) := by
        rw [i64_in (n := (9223372036854775807 : Int) - 0) (by omega) (by omega), i64_in (by omega) (by omega)]
        omega
      refine split_dec (fun h => absurd h (by
        intro h
        have h : IntKind.i64.wrap (IntKind.i64.wrap ((9223372036854775807 : Int) - 0) - (n : Int)) < 0 := h
        rw [e3] at h
        omega)) (fun _ => ?_)
      conv => lhs; whnf
      repeat (first | refine go_rd r1 ?_ | refine go_rd r2 ?_ | refine go_D hD rfl ?_
              conv => lhs; whnf)
      have e4 : IntKind.i64.wrap ((0 : Int) + (n : Int)) = (n : Int) := by rw [Int.zero_add]; exact i64_in (by omega) (by omega)
      have e6 : IntKind.i64.wrap (IntKind.i64.wrap ((0 : Int) - 0) + (n : Int)) = ((L.n + n : Nat) : Int) := by
        have e7 : IntKind.i64.wrap ((0 : Int) - 0) = 0 := by decide +kernel
        rw [e7, i64_in (by omega) (by omega)]
        omega
      have harg : [Value.slice none 0 0, .int .i64 (IntKind.i64.wrap ((0 : Int) + (n : Int)))] = [L.v, .int .i64 (n : Int)] := by rw [hv, e4]
      refine (hD _).2 ⟨(⟨L, l.map bv, n⟩ : GsG), ⟨harg, hW.row, hn1, by show L.c ≤ 140737488355328; omega, by show L.n + n ≤ 1000000000; omega, bv_one l, hW.nil⟩, fun v A1 hq => ?_⟩
      obtain ⟨s1, ⟨v', n', c', g'⟩, hv', hn', hc', hcm, hR, kb, hkb, hkA⟩ : A.Sub A1 ∧ ∃ L' : LsD, v = L'.v ∧ L'.n = L.n ∧ L.n + n ≤ L'.c ∧ L'.c ≤ 9223372036854775807 ∧ LsR A1 1 5 L' (l.map bv) ∧ ∃ k, L'.g = some k ∧ A.blk k = none := hq
      have hf := hR.rowAt hkb
      obtain ⟨z2, z3, z4⟩ := hf
      have hn' : n' = L.n := hn'
      have z2 : v' = .slice (some ⟨kb, 0, none⟩) n' c' := z2
      have hv' : v = v' := hv'
      subst hn'; subst hv'; subst z2
      have hc' : L.n + n ≤ c' := hc'
      have hkw : kb ≠ w := fun e => (by
        have hd := htop.dom
        obtain ⟨o, ho⟩ := hd
        rw [← e, hkA] at ho; cases ho)
      have ht1 := htop.sub fun o ho => s1 w o ho
      have hroom : A1.Room w 0 1 := ht1.room (by show 0 + 1 ≤ 3; omega)
      conv => lhs; whnf
      repeat (first | refine go_rd r1 ?_ | refine go_rd r2 ?_ | refine go_D hD rfl ?_
              conv => lhs; whnf)
      refine (hD _).2 ⟨hroom, fun A2 hP2 => ?_⟩
      conv => lhs; whnf
      repeat (first | refine go_rd r1 ?_ | refine go_rd r2 ?_ | refine go_D hD rfl ?_
              conv => lhs; whnf)
      have hP2 : A1.Put A2 w 0 [.slice (some ⟨kb, 0, none⟩) L.n c'] := hP2
      have ht2 : CellsAt A2 w [.slice (some ⟨kb, 0, none⟩) L.n c', .int .i64 0, .int .i8 lr] := ht1.put hP2 (by show 0 + 1 ≤ 3; omega)
      refine (hD _).2 ⟨ht2.room (by show 1 + 1 ≤ 3; omega), fun A3 hP3 => ?_⟩
      have hP3 : A2.Put A3 w 1 [.int .i64 0] := hP3
      have ht3 : CellsAt A3 w [.slice (some ⟨kb, 0, none⟩) L.n c', .int .i64 0, .int .i8 lr] := ht2.put hP3 (by show 1 + 1 ≤ 3; omega)
      have r3 : A3.rd w 0 1 = some [.slice (some ⟨kb, 0, none⟩) L.n c'] := ht3.rd (o := 0) (n := 1) (by show 0 + 1 ≤ 3; omega)
      conv => lhs; whnf
      repeat (first | refine go_rd r3 ?_ | refine go_D hD rfl ?_
              conv => lhs; whnf)
      refine go_b (bnd_upto e6 hc') ?_
      conv => lhs; whnf
      repeat (first | refine go_rd r3 ?_ | refine go_D hD rfl ?_
              conv => lhs; whnf)
      refine (hD _).2 ⟨ht3.room (by show 0 + 1 ≤ 3; omega), fun A4 hP4 => ?_⟩
      have hP4 : A3.Put A4 w 0 [.slice (some ⟨kb, 0 + (bif c'.beq (Int.toNat 0) then 0 else Int.toNat 0 * 1), none⟩) ((IntKind.i64.wrap (IntKind.i64.wrap ((0 : Int) - 0) + (n : Int))).toNat - Int.toNat 0) (c' - Int.toNat 0)] := hP4
      have e8 : (bif c'.beq (Int.toNat 0) then 0 else Int.toNat 0 * 1) = 0 := by cases c'.beq (Int.toNat 0) <;> rfl
      rw [e6, e8] at hP4
      have hP4 : A3.Put A4 w 0 [.slice (some ⟨kb, 0, none⟩) (L.n + n) c'] := hP4
      have ht4 : CellsAt A4 w [.slice (some ⟨kb, 0, none⟩) (L.n + n) c', .int .i64 0, .int .i8 lr] := ht3.put hP4 (by show 0 + 1 ≤ 3; omega)
      have hoth : ∀ k, k ≠ w → A4.blk k = A1.blk k := fun k hk => by rw [hP4.other k hk, hP3.other k hk, hP2.other k hk]
      have z4 : LRow A1 kb 1 5 L.n c' (l.map bv) := z4
      have hwide := z4.wide hc'
      obtain ⟨zs, hz, hrow9⟩ := hwide
      rw [hL] at ht4 hrow9
      have hend : bfGrowS.post ⟨w, L, l, n⟩ [] A (.int .i64 (IntKind.i64.wrap ((0 : Int) - 0))) A4 := by
        refine ⟨congrArg (Value.int .i64) (by rw [show IntKind.i64.wrap ((0 : Int) - 0) = 0 by decide +kernel]; show (0 : Int) = (l.length : Int); omega), kb, c', zs, ⟨lr, ht4⟩, hrow9.keep (hoth kb hkw), hz, z3, hcm, hkw, .inr hkA, fun k' o hk hw _ => ?_⟩
        rw [hoth k' hw]
        exact s1 k' o hk
      conv => lhs; whnf
      repeat (first | refine go_D hD rfl ?_
              conv => lhs; whnf)
      exact (hD _).2 hend
  · rw [k2] at htop
    have r1 : A.rd w 0 1 = some [.slice (some ⟨g, 0, none⟩) L.n L.c] := htop.rd (o := 0) (n := 1) (by show 0 + 1 ≤ 3; omega)
    have r2 : A.rd w 1 1 = some [.int .i64 0] := htop.rd (o := 1) (n := 1) (by show 1 + 1 ≤ 3; omega)
    conv => lhs; whnf
    repeat (first | refine go_rd r1 ?_ | refine go_rd r2 ?_ | refine go_D hD rfl ?_
            conv => lhs; whnf)
    have hcp := hW.cap
    have e0 : IntKind.i64.wrap ((L.n : Int) - 0) = (L.n : Int) := i64_in (by omega) (by omega)
    have e1 : IntKind.i64.wrap ((L.c : Int) - (L.n : Int)) = (L.c : Int) - (L.n : Int) := i64_in (by omega) (by omega)
    have e2 : IntKind.i64.wrap (IntKind.i64.wrap ((L.c : Int).tdiv 2) - IntKind.i64.wrap ((L.n : Int) - 0)) = ((L.c / 2 : Nat) : Int) - (L.n : Int) := by
      rw [e0, Int.tdiv_eq_ediv_of_nonneg (by omega), i64_in (n := (L.c : Int) / 2) (by omega) (by omega), i64_in (by omega) (by omega)]
      omega
    have e3 : IntKind.i64.wrap (IntKind.i64.wrap ((9223372036854775807 : Int) - (L.c : Int)) - (n : Int)) = 9223372036854775807 - (L.c : Int) - (n : Int) := by
      rw [i64_in (n := (9223372036854775807 : Int) - (L.c : Int)) (by omega) (by omega), i64_in (by omega) (by omega)]
    have e4 : IntKind.i64.wrap ((0 : Int) + (n : Int)) = (n : Int) := by rw [Int.zero_add]; exact i64_in (by omega) (by omega)
    have harg : [Value.slice (some ⟨g, 0 + (bif L.c.beq (Int.toNat 0) then 0 else Int.toNat 0 * 1), none⟩) ((L.n : Int).toNat - Int.toNat 0) (L.c - Int.toNat 0), .int .i64 (IntKind.i64.wrap ((0 : Int) + (n : Int)))] = [L.v, .int .i64 (n : Int)] := by
      have e5 : (bif L.c.beq (Int.toNat 0) then 0 else Int.toNat 0 * 1) = 0 := by cases L.c.beq (Int.toNat 0) <;> rfl
      rw [e4, k2, e5]
      rfl
    have e6 : IntKind.i64.wrap (IntKind.i64.wrap ((L.n : Int) - 0) + (n : Int)) = ((L.n + n : Nat) : Int) := by
      rw [e0, i64_in (by omega) (by omega)]
      omega
    refine split_dec (fun h0 => ?_) (fun h0 => ?_) <;> (conv => lhs; whnf)
    all_goals
      repeat (first | refine go_rd r1 ?_ | refine go_rd r2 ?_ | refine go_D hD rfl ?_
              conv => lhs; whnf)
      refine split_dec (fun h => absurd h (by rw [e1]; omega)) (fun _ => ?_)
      conv => lhs; whnf
      repeat (first | refine go_rd r1 ?_ | refine go_rd r2 ?_ | refine go_D hD rfl ?_
              conv => lhs; whnf)
      refine split_dec (fun h => absurd h (by rw [e2]; omega)) (fun _ => ?_)
      conv => lhs; whnf
      repeat (first | refine go_rd r1 ?_ | refine go_rd r2 ?_ | refine go_D hD rfl ?_
              conv => lhs; whnf)
    all_goals
      refine split_dec (fun h => absurd h (by rw [e3]; omega)) (fun _ => ?_)
      conv => lhs; whnf
      repeat (first | refine go_rd r1 ?_ | refine go_rd r2 ?_ | refine go_D hD rfl ?_
              conv => lhs; whnf)
    all_goals
      refine (hD _).2 ⟨(⟨L, l.map bv, n⟩ : GsG), ⟨harg, hW.row, hn1, by show L.c ≤ 140737488355328; omega, by show L.n + n ≤ 1000000000; omega, bv_one l, hW.nil⟩, fun v A1 hq => ?_⟩
      obtain ⟨s1, ⟨v', n', c', g'⟩, hv', hn', hc', hcm, hR, kb, hkb, hkA⟩ : A.Sub A1 ∧ ∃ L' : LsD, v = L'.v ∧ L'.n = L.n ∧ L.n + n ≤ L'.c ∧ L'.c ≤ 9223372036854775807 ∧ LsR A1 1 5 L' (l.map bv) ∧ ∃ k, L'.g = some k ∧ A.blk k = none := hq
      have hf := hR.rowAt hkb
      obtain ⟨z2, z3, z4⟩ := hf
      have hn' : n' = L.n := hn'
      have z2 : v' = .slice (some ⟨kb, 0, none⟩) n' c' := z2
      have hv' : v = v' := hv'
      subst hn'; subst hv'; subst z2
      have hc' : L.n + n ≤ c' := hc'
      have hkw : kb ≠ w := fun e => (by
        have hd := htop.dom
        obtain ⟨o, ho⟩ := hd
        rw [← e, hkA] at ho; cases ho)
      have ht1 := htop.sub fun o ho => s1 w o ho
      have hroom : A1.Room w 0 1 := ht1.room (by show 0 + 1 ≤ 3; omega)
      conv => lhs; whnf
      repeat (first | refine go_rd r1 ?_ | refine go_rd r2 ?_ | refine go_D hD rfl ?_
              conv => lhs; whnf)
      refine (hD _).2 ⟨hroom, fun A2 hP2 => ?_⟩
      conv => lhs; whnf
      repeat (first | refine go_rd r1 ?_ | refine go_rd r2 ?_ | refine go_D hD rfl ?_
              conv => lhs; whnf)
      have hP2 : A1.Put A2 w 0 [.slice (some ⟨kb, 0, none⟩) L.n c'] := hP2
      have ht2 : CellsAt A2 w [.slice (some ⟨kb, 0, none⟩) L.n c', .int .i64 0, .int .i8 lr] := ht1.put hP2 (by show 0 + 1 ≤ 3; omega)
      refine (hD _).2 ⟨ht2.room (by show 1 + 1 ≤ 3; omega), fun A3 hP3 => ?_⟩
      have hP3 : A2.Put A3 w 1 [.int .i64 0] := hP3
      have ht3 : CellsAt A3 w [.slice (some ⟨kb, 0, none⟩) L.n c', .int .i64 0, .int .i8 lr] := ht2.put hP3 (by show 1 + 1 ≤ 3; omega)
      have r3 : A3.rd w 0 1 = some [.slice (some ⟨kb, 0, none⟩) L.n c'] := ht3.rd (o := 0) (n := 1) (by show 0 + 1 ≤ 3; omega)
      conv => lhs; whnf
      repeat (first | refine go_rd r3 ?_ | refine go_D hD rfl ?_
              conv => lhs; whnf)
      refine go_b (bnd_upto e6 hc') ?_
      conv => lhs; whnf
      repeat (first | refine go_rd r3 ?_ | refine go_D hD rfl ?_
              conv => lhs; whnf)
      refine (hD _).2 ⟨ht3.room (by show 0 + 1 ≤ 3; omega), fun A4 hP4 => ?_⟩
      have hP4 : A3.Put A4 w 0 [.slice (some ⟨kb, 0 + (bif c'.beq (Int.toNat 0) then 0 else Int.toNat 0 * 1), none⟩) ((IntKind.i64.wrap (IntKind.i64.wrap ((L.n : Int) - 0) + (n : Int))).toNat - Int.toNat 0) (c' - Int.toNat 0)] := hP4
      have e8 : (bif c'.beq (Int.toNat 0) then 0 else Int.toNat 0 * 1) = 0 := by cases c'.beq (Int.toNat 0) <;> rfl
      rw [e6, e8] at hP4
      have hP4 : A3.Put A4 w 0 [.slice (some ⟨kb, 0, none⟩) (L.n + n) c'] := hP4
      have ht4 : CellsAt A4 w [.slice (some ⟨kb, 0, none⟩) (L.n + n) c', .int .i64 0, .int .i8 lr] := ht3.put hP4 (by show 0 + 1 ≤ 3; omega)
      have hoth : ∀ k, k ≠ w → A4.blk k = A1.blk k := fun k hk => by rw [hP4.other k hk, hP3.other k hk, hP2.other k hk]
      have z4 : LRow A1 kb 1 5 L.n c' (l.map bv) := z4
      have hwide := z4.wide hc'
      obtain ⟨zs, hz, hrow9⟩ := hwide
      rw [hL] at ht4 hrow9
      have hend : bfGrowS.post ⟨w, L, l, n⟩ [] A (.int .i64 (IntKind.i64.wrap ((L.n : Int) - 0))) A4 := by
        refine ⟨congrArg (Value.int .i64) (by rw [e0, hL]), kb, c', zs, ⟨lr, ht4⟩, hrow9.keep (hoth kb hkw), hz, z3, hcm, hkw, .inr hkA, fun k' o hk hw _ => ?_⟩
        rw [hoth k' hw]
        exact s1 k' o hk
      conv => lhs; whnf
      repeat (first | refine go_D hD rfl ?_
              conv => lhs; whnf)
      exact (hD _).2 hend

end
end Go.Proofs.YthbaimobihmhiaaGreatDoor

namespace Go.Proofs.YthbaimobihmhiaaGreatDoor
open Go.Sx Go.RowKit
noncomputable section
open Classical

/-- What lies in the room is written over. -/
theorem LRow.refill {A A' : Arena} {g : Nat} {e : TypeId} {m c n : Nat} {cs zs ys : List Value} (h : LRow A g 1 e (m + n) c (cs ++ zs)) (hc : cs.length = m) (hz : zs.length = n) (hy : ys.length = n) (hP : A.Put A' g m ys) : LRow A' g 1 e (m + n) c (cs ++ ys) := by
  obtain ⟨⟨cc, h1, h2, h3⟩, h4, h5⟩ := h
  obtain ⟨c0, t0, fz0, c', k1, k2, k3⟩ := hP.at_
  rw [h1] at k1
  injection k1 with k1
  injection k1 with k1 k1' k1''
  subst k1; subst k1'; subst k1''
  have hcl : cc.toList.length = c := by rw [Array.length_toList]; omega
  have hm : cc.toList.take m = cs := by
    have h9 := congrArg (List.take m) h3
    rw [List.take_take, Nat.min_eq_left (by omega), List.take_append_of_le_length (by omega), List.take_of_length_le (l := cs) (by omega)] at h9
    exact h9
  refine ⟨⟨c', k2, ?_, ?_⟩, h4, by rw [List.length_append]; omega⟩
  · rw [← Array.length_toList, k3]
    simp only [List.length_append, List.length_take, List.length_drop, hcl, hy]
    omega
  · rw [k3, hm, Nat.mul_one, List.take_append_of_le_length (by rw [List.length_append]; omega), List.take_of_length_le (by rw [List.length_append]; omega)]

/-- The room is filled. -/
theorem bf_fill {A A1 A2 : Arena} {w n k c : Nat} {L : LsD} {l ys : List UInt8} {zs : List Value} {lr : Int} (ht : CellsAt A1 w [.slice (some ⟨k, 0, none⟩) (l.length + n) c, .int .i64 0, .int .i8 lr]) (hr : LRow A1 k 1 5 (l.length + n) c (l.map bv ++ zs)) (hz : zs.length = n) (hc0 : 0 < c) (hcm : c ≤ 9223372036854775807) (hkw : k ≠ w)
    (hg : L.g = some k ∨ A.blk k = none) (hk : ∀ k' o, A.blk k' = some o → k' ≠ w → L.g ≠ some k' → A1.blk k' = some o) (hP : A1.Put A2 k l.length (ys.map bv)) (hy : ys.length = n) : BfTo A w L (l ++ ys) A2 := by
  have hrow := hr.refill (by rw [List.length_map]) hz (by rw [List.length_map]; exact hy) hP
  refine ⟨⟨.slice (some ⟨k, 0, none⟩) (l.length + n) c, l.length + n, c, some k⟩, ⟨⟨lr, ht.sub fun o ho => by rw [hP.other w hkw.symm]; exact ho⟩, .inr ⟨k, rfl, rfl, hc0, ?_⟩, fun e => hkw (Option.some.inj e), fun e => (by cases e), hcm⟩, fun k' o hk' hw hL => ?_, fun g hg' => ?_⟩
  · rw [List.map_append]
    exact hrow
  · rw [hP.other k' fun e => ?_]
    · exact hk k' o hk' hw hL
    · subst e
      rcases hg with h | h
      · exact hL h
      · rw [h] at hk'; cases hk'
  · have hg' : some k = some g := hg'
    injection hg' with hg'
    subst hg'
    exact hg

/-- The cell that tells what was read last. -/
theorem BfR.put2 {A A1 : Arena} {w : Nat} {L : LsD} {l : List UInt8} {x : Int} (h : BfR A w L l) (hP : A.Put A1 w 2 [.int .i8 x]) : BfR A1 w L l := by
  obtain ⟨lr, ht⟩ := h.top
  refine ⟨⟨x, ht.put hP (by show 2 + 1 ≤ 3; omega)⟩, h.row.keep fun g o hg ho => ?_, h.ne, h.nil, h.cap⟩
  rw [hP.other g fun e => h.ne (by rw [← e]; exact hg)]
  exact ho

theorem BfTo.ahead {A A1 A2 : Arena} {w : Nat} {L : LsD} {l : List UInt8} {o : Nat} {vs : List Value} (hP : A.Put A1 w o vs) (h : BfTo A1 w L l A2) : BfTo A w L l A2 := by
  obtain ⟨L', h1, h2, h3⟩ := h
  refine ⟨L', h1, fun k ob hk hw hL => h2 k ob (by rw [hP.other k hw]; exact hk) hw hL, fun g hg => ?_⟩
  rcases h3 g hg with h | h
  · exact .inl h
  · by_cases e : g = w
    · exact absurd (e ▸ hg) h1.ne
    · rw [hP.other g e] at h
      exact .inr h

structure BbG where
  w : Nat
  L : LsD
  l : List UInt8
  b : UInt8

def bfByteS : FSpec := ⟨BbG, fun g vs A => vs = [.pointer (some ⟨g.w, 0, none⟩), .int .u8 g.b.toNat] ∧ BfR A g.w g.L g.l ∧ g.l.length ≤ 890000000, fun g _ A v A' => v = .nilIface ∧ BfTo A g.w g.L (g.l ++ [g.b]) A'⟩

set_option maxRecDepth 100000 in
set_option maxHeartbeats 0 in
theorem bfByte_ok : FOk Tryz.prog 60 bfByteS := by
  refine fok_v mixed fun ⟨w, L, l, b⟩ vs A hp => ?_
  obtain ⟨rfl, hW, hlen⟩ : vs = [.pointer (some ⟨w, 0, none⟩), .int .u8 b.toNat] ∧ BfR A w L l ∧ l.length ≤ 890000000 := hp
  have hC : CTSound Tryz.prog (lookC [specE 80 bfGrowS] noC) := lookC_sound (noC_sound _) (fun x hx => by
    simp only [List.mem_singleton] at hx
    subst hx
    exact specE_ok bfGrow_ok)
  refine ⟨_, noL, 60, hC, noL_sound _, fun blk os out tape D hD => ?_⟩
  have hL := hW.len
  have hcp := hW.cap
  obtain ⟨lr, htop⟩ := hW.top
  have hroom : A.Room w 2 1 := htop.room (by show 2 + 1 ≤ 3; omega)
  conv => lhs; whnf
  repeat (first | refine go_D hD rfl ?_
          conv => lhs; whnf)
  refine (hD _).2 ⟨hroom, fun A1 hP1 => ?_⟩
  have hP1 : A.Put A1 w 2 [.int .i8 0] := hP1
  have hW1 := hW.put2 hP1
  have ht1 : CellsAt A1 w [L.v, .int .i64 0, .int .i8 0] := htop.put hP1 (by show 2 + 1 ≤ 3; omega)
  have hrow := hW.row
  rcases hrow with ⟨k1, k2, k3, k4, -⟩ | ⟨g, k1, k2, k3, k5⟩
  · rw [hW.nil k1] at ht1
    have r1 : A1.rd w 0 1 = some [.slice none 0 0] := ht1.rd (o := 0) (n := 1) (by show 0 + 1 ≤ 3; omega)
    conv => lhs; whnf
    repeat (first | refine go_rd r1 ?_ | refine go_D hD rfl ?_
            conv => lhs; whnf)
    refine (hD _).2 ⟨(⟨w, L, l, 1⟩ : BfG), ⟨rfl, hW1, Nat.le_refl _, by show l.length + 1 ≤ 900000000; omega, by show L.c < l.length + 1; omega⟩, fun v A2 hq => ?_⟩
    obtain ⟨hv, kb, c, zs, ⟨lr2, ht2⟩, hr2, hz, hc0, hcm, hkw, hg, hk2⟩ : v = .int .i64 l.length ∧ BfRoom A1 w L l 1 A2 := hq
    subst hv
    have r2 : A2.rd w 0 1 = some [.slice (some ⟨kb, 0, none⟩) (l.length + 1) c] := ht2.rd (o := 0) (n := 1) (by show 0 + 1 ≤ 3; omega)
    have i0 : (0 : Int) ≤ (l.length : Int) ∧ (l.length : Int) < ((l.length + 1 : Nat) : Int) := by omega
    conv => lhs; whnf
    repeat (first | refine go_in i0 ?_ | refine go_rd r2 ?_ | refine go_D hD rfl ?_
            conv => lhs; whnf)
    refine (hD _).2 ⟨hr2.room (by show 0 + l.length * 1 + 1 ≤ c * 1; have := hr2.le; omega), fun A3 hP3 => ?_⟩
    have hP3 : A2.Put A3 kb (0 + l.length * 1) [.int .u8 b.toNat] := hP3
    rw [Nat.mul_one, Nat.zero_add] at hP3
    have hfin := (bf_fill (ys := [b]) ht2 hr2 hz hc0 hcm hkw hg hk2 hP3 rfl).ahead hP1
    have hend : bfByteS.post ⟨w, L, l, b⟩ [] A .nilIface A3 := ⟨rfl, hfin⟩
    conv => lhs; whnf
    repeat (first | refine go_D hD rfl ?_
            conv => lhs; whnf)
    exact (hD _).2 hend
  · rw [k2] at ht1
    have r1 : A1.rd w 0 1 = some [.slice (some ⟨g, 0, none⟩) L.n L.c] := ht1.rd (o := 0) (n := 1) (by show 0 + 1 ≤ 3; omega)
    conv => lhs; whnf
    repeat (first | refine go_rd r1 ?_ | refine go_D hD rfl ?_
            conv => lhs; whnf)
    have e1 : IntKind.i64.wrap ((L.c : Int) - (L.n : Int)) = (L.c : Int) - (L.n : Int) := i64_in (by omega) (by omega)
    refine split_dec (fun h1 => ?_) (fun h1 => ?_)
    · rw [e1] at h1
      conv => lhs; whnf
      repeat (first | refine go_rd r1 ?_ | refine go_D hD rfl ?_
              conv => lhs; whnf)
      have hle : L.n + 1 ≤ L.c := by omega
      have e6 : IntKind.i64.wrap ((L.n : Int) + 1) = ((L.n + 1 : Nat) : Int) := by
        rw [i64_in (by omega) (by omega)]
        omega
      refine go_b (bnd_upto e6 hle) ?_
      conv => lhs; whnf
      repeat (first | refine go_rd r1 ?_ | refine go_D hD rfl ?_
              conv => lhs; whnf)
      refine (hD _).2 ⟨ht1.room (by show 0 + 1 ≤ 3; omega), fun A2 hP2 => ?_⟩
      have hP2 : A1.Put A2 w 0 [.slice (some ⟨g, 0 + (bif L.c.beq (Int.toNat 0) then 0 else Int.toNat 0 * 1), none⟩) ((IntKind.i64.wrap ((L.n : Int) + 1)).toNat - Int.toNat 0) (L.c - Int.toNat 0)] := hP2
      have e8 : (bif L.c.beq (Int.toNat 0) then 0 else Int.toNat 0 * 1) = 0 := by cases L.c.beq (Int.toNat 0) <;> rfl
      rw [e6, e8] at hP2
      have hP2 : A1.Put A2 w 0 [.slice (some ⟨g, 0, none⟩) (L.n + 1) L.c] := hP2
      have ht2 : CellsAt A2 w [.slice (some ⟨g, 0, none⟩) (L.n + 1) L.c, .int .i64 0, .int .i8 0] := ht1.put hP2 (by show 0 + 1 ≤ 3; omega)
      have hgw : g ≠ w := fun e => hW.ne (by rw [k1, e])
      have hr1 : LRow A2 g 1 5 L.n L.c (l.map bv) := k5.keep (by rw [hP2.other g hgw, hP1.other g hgw])
      have hwide := hr1.wide hle
      obtain ⟨zs, hz, hr2⟩ := hwide
      have r2 : A2.rd w 0 1 = some [.slice (some ⟨g, 0, none⟩) (L.n + 1) L.c] := ht2.rd (o := 0) (n := 1) (by show 0 + 1 ≤ 3; omega)
      have i0 : (0 : Int) ≤ (L.n : Int) ∧ (L.n : Int) < ((L.n + 1 : Nat) : Int) := by omega
      conv => lhs; whnf
      repeat (first | refine go_in i0 ?_ | refine go_rd r2 ?_ | refine go_D hD rfl ?_
              conv => lhs; whnf)
      refine (hD _).2 ⟨hr2.room (by show 0 + L.n * 1 + 1 ≤ L.c * 1; omega), fun A3 hP3 => ?_⟩
      have hP3 : A2.Put A3 g (0 + L.n * 1) [.int .u8 b.toNat] := hP3
      rw [Nat.mul_one, Nat.zero_add, hL] at hP3
      rw [hL] at ht2 hr2
      have hk2 : ∀ k' o, A1.blk k' = some o → k' ≠ w → L.g ≠ some k' → A2.blk k' = some o := fun k' o hk hw _ => by
        rw [hP2.other k' hw]
        exact hk
      have hfin := (bf_fill (ys := [b]) ht2 hr2 hz k3 hcp hgw (.inl k1) hk2 hP3 rfl).ahead hP1
      have hend : bfByteS.post ⟨w, L, l, b⟩ [] A .nilIface A3 := ⟨rfl, hfin⟩
      conv => lhs; whnf
      repeat (first | refine go_D hD rfl ?_
              conv => lhs; whnf)
      exact (hD _).2 hend
    · rw [e1] at h1
      conv => lhs; whnf
      repeat (first | refine go_rd r1 ?_ | refine go_D hD rfl ?_
              conv => lhs; whnf)
      refine (hD _).2 ⟨(⟨w, L, l, 1⟩ : BfG), ⟨rfl, hW1, Nat.le_refl _, by show l.length + 1 ≤ 900000000; omega, by show L.c < l.length + 1; omega⟩, fun v A2 hq => ?_⟩
      obtain ⟨hv, kb, c, zs, ⟨lr2, ht2⟩, hr2, hz, hc0, hcm, hkw, hg, hk2⟩ : v = .int .i64 l.length ∧ BfRoom A1 w L l 1 A2 := hq
      subst hv
      have r2 : A2.rd w 0 1 = some [.slice (some ⟨kb, 0, none⟩) (l.length + 1) c] := ht2.rd (o := 0) (n := 1) (by show 0 + 1 ≤ 3; omega)
      have i0 : (0 : Int) ≤ (l.length : Int) ∧ (l.length : Int) < ((l.length + 1 : Nat) : Int) := by omega
      conv => lhs; whnf
      repeat (first | refine go_in i0 ?_ | refine go_rd r2 ?_ | refine go_D hD rfl ?_
              conv => lhs; whnf)
      refine (hD _).2 ⟨hr2.room (by show 0 + l.length * 1 + 1 ≤ c * 1; have := hr2.le; omega), fun A3 hP3 => ?_⟩
      have hP3 : A2.Put A3 kb (0 + l.length * 1) [.int .u8 b.toNat] := hP3
      rw [Nat.mul_one, Nat.zero_add] at hP3
      have hfin := (bf_fill (ys := [b]) ht2 hr2 hz hc0 hcm hkw hg hk2 hP3 rfl).ahead hP1
      have hend : bfByteS.post ⟨w, L, l, b⟩ [] A .nilIface A3 := ⟨rfl, hfin⟩
      conv => lhs; whnf
      repeat (first | refine go_D hD rfl ?_
              conv => lhs; whnf)
      exact (hD _).2 hend

end
end Go.Proofs.YthbaimobihmhiaaGreatDoor

namespace Go.Proofs.YthbaimobihmhiaaGreatDoor
open Go.Sx Go.RowKit
noncomputable section
open Classical

theorem bnd_down {x : Int} {c k : Nat} {t : Bool} (hx : x = k) (hk : k ≤ c) : ((decide ((0 : Int) ≤ x) && decide (x ≤ (c : Int))) && (true || t)) = true := by
  subst hx
  exact Bool.and_eq_true_iff.2 ⟨Bool.and_eq_true_iff.2 ⟨decide_eq_true (by omega), decide_eq_true (by omega)⟩, rfl⟩

theorem beq_ne {a b : Nat} (h : a ≠ b) : a.beq b = false := by
  cases e : a.beq b with
  | false => rfl
  | true => exact absurd (Nat.eq_of_beq_eq_true e) h

theorem src_str {h : HS} {s : List UInt8} {n : Nat} (hn : n = s.length) : srcA h 1 n (.v (.string ⟨s.toArray⟩)) = some (s.map bv) := by
  show (if 1 = 1 ∧ n = s.length then some (s.map fun b => Value.int .u8 b.toNat) else none) = some (s.map bv)
  rw [if_pos ⟨rfl, hn⟩]
  rfl

theorem put_nil {A A' : Arena} {g o : Nat} (h : A.Put A' g o []) (k : Nat) : A'.blk k = A.blk k := by
  by_cases e : k = g
  · subst e
    obtain ⟨c, t, fz, c', k1, k2, k3⟩ := h.at_
    have : c' = c := Array.toList_inj.1 (by rw [k3]; simp)
    rw [k2, k1, this]
  · exact h.other k e

structure BsG where
  w : Nat
  L : LsD
  l : List UInt8
  s : List UInt8

def bfStrS : FSpec := ⟨BsG, fun g vs A => vs = [.pointer (some ⟨g.w, 0, none⟩), .string ⟨g.s.toArray⟩] ∧ BfR A g.w g.L g.l ∧ g.l.length + g.s.length ≤ 890000000, fun g _ A v A' => v = .tuple #[.int .i64 g.s.length, .nilIface] ∧ BfTo A g.w g.L (g.l ++ g.s) A'⟩

set_option maxRecDepth 100000 in
set_option maxHeartbeats 0 in
theorem bfStr_ok : FOk Tryz.prog 61 bfStrS := by
  refine fok_v mixed fun ⟨w, L, l, s⟩ vs A hp => ?_
  obtain ⟨rfl, hW, hlen⟩ : vs = [.pointer (some ⟨w, 0, none⟩), .string ⟨s.toArray⟩] ∧ BfR A w L l ∧ l.length + s.length ≤ 890000000 := hp
  have hC : CTSound Tryz.prog (lookC [specE 80 bfGrowS] noC) := lookC_sound (noC_sound _) (fun x hx => by
    simp only [List.mem_singleton] at hx
    subst hx
    exact specE_ok bfGrow_ok)
  refine ⟨_, noL, 60, hC, noL_sound _, fun blk os out tape D hD => ?_⟩
  have hL := hW.len
  have hcp := hW.cap
  obtain ⟨lr, htop⟩ := hW.top
  have hroom : A.Room w 2 1 := htop.room (by show 2 + 1 ≤ 3; omega)
  conv => lhs; whnf
  repeat (first | refine go_D hD rfl ?_
          conv => lhs; whnf)
  refine (hD _).2 ⟨hroom, fun A1 hP1 => ?_⟩
  have hP1 : A.Put A1 w 2 [.int .i8 0] := hP1
  have hW1 := hW.put2 hP1
  have ht1 : CellsAt A1 w [L.v, .int .i64 0, .int .i8 0] := htop.put hP1 (by show 2 + 1 ≤ 3; omega)
  have hrow := hW.row
  by_cases hs0 : s = []
  · subst hs0
    rcases hrow with ⟨k1, k2, k3, k4, -⟩ | ⟨g, k1, k2, k3, k5⟩
    · have hnil := hW.nil k1
      rw [hnil] at ht1
      have r1 : A1.rd w 0 1 = some [.slice none 0 0] := ht1.rd (o := 0) (n := 1) (by show 0 + 1 ≤ 3; omega)
      conv => lhs; whnf
      repeat (first | refine go_rd r1 ?_ | refine go_D hD rfl ?_
              conv => lhs; whnf)
      refine (hD _).2 ⟨ht1.room (by show 0 + 1 ≤ 3; omega), fun A2 hP2 => ?_⟩
      have hP2 : A1.Put A2 w 0 [.slice none 0 0] := hP2
      have ht2 : CellsAt A2 w [.slice none 0 0, .int .i64 0, .int .i8 0] := ht1.put hP2 (by show 0 + 1 ≤ 3; omega)
      have r2 : A2.rd w 0 1 = some [.slice none 0 0] := ht2.rd (o := 0) (n := 1) (by show 0 + 1 ≤ 3; omega)
      have hW2 : BfR A2 w L (l ++ []) := by
        rw [List.append_nil]
        exact ⟨⟨0, by rw [hnil]; exact ht2⟩, hW.row.keep fun g o hg _ => (by rw [k1] at hg; cases hg), hW.ne, hW.nil, hW.cap⟩
      have hfin : BfTo A w L (l ++ []) A2 := ⟨L, hW2, fun k o hk hw _ => by rw [hP2.other k hw, hP1.other k hw]; exact hk, fun g hg => .inl hg⟩
      have hend : bfStrS.post ⟨w, L, l, []⟩ [] A (.tuple #[.int .i64 0, .nilIface]) A2 := ⟨rfl, hfin⟩
      conv => lhs; whnf
      repeat (first | refine go_rd r2 ?_ | refine go_D hD rfl ?_
              conv => lhs; whnf)
      exact (hD _).2 hend
    · rw [k2] at ht1
      have r1 : A1.rd w 0 1 = some [.slice (some ⟨g, 0, none⟩) L.n L.c] := ht1.rd (o := 0) (n := 1) (by show 0 + 1 ≤ 3; omega)
      conv => lhs; whnf
      repeat (first | refine go_rd r1 ?_ | refine go_D hD rfl ?_
              conv => lhs; whnf)
      have e1 : IntKind.i64.wrap ((L.c : Int) - (L.n : Int)) = (L.c : Int) - (L.n : Int) := i64_in (by omega) (by omega)
      have hle : L.n ≤ L.c := k5.le
      refine split_dec (fun h1 => ?_) (fun h1 => absurd h1 (by intro h9; exact h9 (by rw [e1]; show (0 : Int) ≤ _; omega)))
      conv => lhs; whnf
      repeat (first | refine go_rd r1 ?_ | refine go_D hD rfl ?_
              conv => lhs; whnf)
      have e6 : IntKind.i64.wrap ((L.n : Int) + ((0 : Nat) : Int)) = (L.n : Int) := by
        rw [i64_in (by omega) (by omega)]
        omega
      refine go_b (bnd_upto e6 hle) ?_
      conv => lhs; whnf
      repeat (first | refine go_rd r1 ?_ | refine go_D hD rfl ?_
              conv => lhs; whnf)
      refine (hD _).2 ⟨ht1.room (by show 0 + 1 ≤ 3; omega), fun A2 hP2 => ?_⟩
      have hP2 : A1.Put A2 w 0 [.slice (some ⟨g, 0 + (bif L.c.beq (Int.toNat 0) then 0 else Int.toNat 0 * 1), none⟩) ((IntKind.i64.wrap ((L.n : Int) + ((0 : Nat) : Int))).toNat - Int.toNat 0) (L.c - Int.toNat 0)] := hP2
      have e8 : (bif L.c.beq (Int.toNat 0) then 0 else Int.toNat 0 * 1) = 0 := by cases L.c.beq (Int.toNat 0) <;> rfl
      rw [e6, e8] at hP2
      have hP2 : A1.Put A2 w 0 [.slice (some ⟨g, 0, none⟩) L.n L.c] := hP2
      have ht2 : CellsAt A2 w [.slice (some ⟨g, 0, none⟩) L.n L.c, .int .i64 0, .int .i8 0] := ht1.put hP2 (by show 0 + 1 ≤ 3; omega)
      have hgw : g ≠ w := fun e => hW.ne (by rw [k1, e])
      have hr2 : LRow A2 g 1 5 L.n L.c (l.map bv) := k5.keep (by rw [hP2.other g hgw, hP1.other g hgw])
      have r2 : A2.rd w 0 1 = some [.slice (some ⟨g, 0, none⟩) L.n L.c] := ht2.rd (o := 0) (n := 1) (by show 0 + 1 ≤ 3; omega)
      conv => lhs; whnf
      repeat (first | refine go_rd r2 ?_ | refine go_D hD rfl ?_
              conv => lhs; whnf)
      refine go_b (bnd_down (k := L.n) (c := L.n) rfl (Nat.le_refl _)) ?_
      conv => lhs; whnf
      repeat (first | refine go_rd r2 ?_ | refine go_rd r1 ?_ | refine go_D hD rfl ?_
              conv => lhs; whnf)
      have e9 : (bif L.c.beq ((L.n : Int).toNat) then 0 else (L.n : Int).toNat * 1) ≤ L.c := by
        cases L.c.beq ((L.n : Int).toNat)
        · show (L.n : Int).toNat * 1 ≤ L.c
          omega
        · exact Nat.zero_le _
      have e10 : Nat.min 0 ((L.n : Int).toNat - (L.n : Int).toNat) = 0 := Nat.zero_min _
      refine (hD _).2 ⟨[], src_str e10, fun v hv => (by cases hv), hr2.room (by show 0 + (bif L.c.beq ((L.n : Int).toNat) then 0 else (L.n : Int).toNat * 1) + 0 ≤ L.c * 1; omega), fun A3 hP3 => ?_⟩
      have hn3 := put_nil hP3
      have hW3 : BfR A3 w L (l ++ []) := by
        rw [List.append_nil]
        exact ⟨⟨0, by rw [k2]; exact ht2.sub fun o ho => (hn3 w).trans ho⟩, .inr ⟨g, k1, k2, k3, hr2.keep (hn3 g)⟩, hW.ne, hW.nil, hW.cap⟩
      have hfin : BfTo A w L (l ++ []) A3 := ⟨L, hW3, fun k o hk hw _ => by rw [hn3 k]; show A2.blk k = some o; rw [hP2.other k hw, hP1.other k hw]; exact hk, fun g hg => .inl hg⟩
      have hend : bfStrS.post ⟨w, L, l, []⟩ [] A (.tuple #[.int .i64 (Nat.min 0 ((L.n : Int).toNat - (L.n : Int).toNat) : Nat), .nilIface]) A3 := ⟨by rw [e10]; rfl, hfin⟩
      conv => lhs; whnf
      repeat (first | refine go_D hD rfl ?_
              conv => lhs; whnf)
      exact (hD _).2 hend
  have hpos : 0 < s.length := by
    cases s with
    | nil => exact absurd rfl hs0
    | cons x xs => simp
  rcases hrow with ⟨k1, k2, k3, k4, -⟩ | ⟨g, k1, k2, k3, k5⟩
  · rw [hW.nil k1] at ht1
    have r1 : A1.rd w 0 1 = some [.slice none 0 0] := ht1.rd (o := 0) (n := 1) (by show 0 + 1 ≤ 3; omega)
    conv => lhs; whnf
    repeat (first | refine go_rd r1 ?_ | refine go_D hD rfl ?_
            conv => lhs; whnf)
    refine split_dec (fun h => absurd h (by show ¬ ((s.length : Int) ≤ 0); omega)) (fun _ => ?_)
    conv => lhs; whnf
    repeat (first | refine go_rd r1 ?_ | refine go_D hD rfl ?_
            conv => lhs; whnf)
    refine (hD _).2 ⟨(⟨w, L, l, s.length⟩ : BfG), ⟨rfl, hW1, hpos, by show l.length + s.length ≤ 900000000; omega, by show L.c < l.length + s.length; omega⟩, fun v A2 hq => ?_⟩
    obtain ⟨hv, kb, c, zs, ⟨lr2, ht2⟩, hr2, hz, hc0, hcm, hkw, hg, hk2⟩ : v = .int .i64 l.length ∧ BfRoom A1 w L l s.length A2 := hq
    subst hv
    have r2 : A2.rd w 0 1 = some [.slice (some ⟨kb, 0, none⟩) (l.length + s.length) c] := ht2.rd (o := 0) (n := 1) (by show 0 + 1 ≤ 3; omega)
    have hcl := hr2.le
    conv => lhs; whnf
    repeat (first | refine go_rd r2 ?_ | refine go_D hD rfl ?_
            conv => lhs; whnf)
    refine go_b (bnd_down (k := l.length) (c := l.length + s.length) rfl (by omega)) ?_
    conv => lhs; whnf
    repeat (first | refine go_rd r2 ?_ | refine go_rd r1 ?_ | refine go_D hD rfl ?_
            conv => lhs; whnf)
    have e9 : (bif (c).beq ((l.length : Int).toNat) then 0 else (l.length : Int).toNat * 1) = l.length := by
      rw [show (c).beq ((l.length : Int).toNat) = false from beq_ne (by omega)]
      exact Nat.mul_one _
    have e10 : Nat.min s.length ((((l.length + s.length : Nat) : Int)).toNat - (l.length : Int).toNat) = s.length := Nat.min_eq_left (by omega)
    refine (hD _).2 ⟨s.map bv, (src_str e10), bv_one s, hr2.room (by show 0 + (bif (c).beq ((l.length : Int).toNat) then 0 else (l.length : Int).toNat * 1) + (s.map bv).length ≤ c * 1; rw [e9, List.length_map]; omega), fun A3 hP3 => ?_⟩
    have hP3 : A2.Put A3 kb (0 + (bif (c).beq ((l.length : Int).toNat) then 0 else (l.length : Int).toNat * 1)) (s.map bv) := hP3
    rw [e9, Nat.zero_add] at hP3
    have hfin := (bf_fill (ys := s) ht2 hr2 hz hc0 hcm hkw hg hk2 hP3 rfl).ahead hP1
    have hend : bfStrS.post ⟨w, L, l, s⟩ [] A (.tuple #[.int .i64 (Nat.min s.length (((l.length + s.length : Nat) : Int).toNat - (l.length : Int).toNat) : Nat), .nilIface]) A3 := ⟨by rw [e10], hfin⟩
    conv => lhs; whnf
    repeat (first | refine go_D hD rfl ?_
            conv => lhs; whnf)
    exact (hD _).2 hend
  · rw [k2] at ht1
    have r1 : A1.rd w 0 1 = some [.slice (some ⟨g, 0, none⟩) L.n L.c] := ht1.rd (o := 0) (n := 1) (by show 0 + 1 ≤ 3; omega)
    conv => lhs; whnf
    repeat (first | refine go_rd r1 ?_ | refine go_D hD rfl ?_
            conv => lhs; whnf)
    have e1 : IntKind.i64.wrap ((L.c : Int) - (L.n : Int)) = (L.c : Int) - (L.n : Int) := i64_in (by omega) (by omega)
    refine split_dec (fun h1 => ?_) (fun h1 => ?_)
    · rw [e1] at h1
      have h1 : (s.length : Int) ≤ (L.c : Int) - (L.n : Int) := h1
      conv => lhs; whnf
      repeat (first | refine go_rd r1 ?_ | refine go_D hD rfl ?_
              conv => lhs; whnf)
      have hle : L.n + s.length ≤ L.c := by omega
      have e6 : IntKind.i64.wrap ((L.n : Int) + (s.length : Int)) = ((L.n + s.length : Nat) : Int) := by
        rw [i64_in (by omega) (by omega)]
        omega
      refine go_b (bnd_upto e6 hle) ?_
      conv => lhs; whnf
      repeat (first | refine go_rd r1 ?_ | refine go_D hD rfl ?_
              conv => lhs; whnf)
      refine (hD _).2 ⟨ht1.room (by show 0 + 1 ≤ 3; omega), fun A2 hP2 => ?_⟩
      have hP2 : A1.Put A2 w 0 [.slice (some ⟨g, 0 + (bif L.c.beq (Int.toNat 0) then 0 else Int.toNat 0 * 1), none⟩) ((IntKind.i64.wrap ((L.n : Int) + (s.length : Int))).toNat - Int.toNat 0) (L.c - Int.toNat 0)] := hP2
      have e8 : (bif L.c.beq (Int.toNat 0) then 0 else Int.toNat 0 * 1) = 0 := by cases L.c.beq (Int.toNat 0) <;> rfl
      rw [e6, e8] at hP2
      have hP2 : A1.Put A2 w 0 [.slice (some ⟨g, 0, none⟩) (L.n + s.length) L.c] := hP2
      have ht2 : CellsAt A2 w [.slice (some ⟨g, 0, none⟩) (L.n + s.length) L.c, .int .i64 0, .int .i8 0] := ht1.put hP2 (by show 0 + 1 ≤ 3; omega)
      have hgw : g ≠ w := fun e => hW.ne (by rw [k1, e])
      have hr1 : LRow A2 g 1 5 L.n L.c (l.map bv) := k5.keep (by rw [hP2.other g hgw, hP1.other g hgw])
      have hwide := hr1.wide hle
      obtain ⟨zs, hz, hr2⟩ := hwide
      have hk2 : ∀ k' o, A1.blk k' = some o → k' ≠ w → L.g ≠ some k' → A2.blk k' = some o := fun k' o hk hw _ => by
        rw [hP2.other k' hw]
        exact hk
      have r2 : A2.rd w 0 1 = some [.slice (some ⟨g, 0, none⟩) (L.n + s.length) L.c] := ht2.rd (o := 0) (n := 1) (by show 0 + 1 ≤ 3; omega)
      conv => lhs; whnf
      repeat (first | refine go_rd r2 ?_ | refine go_D hD rfl ?_
              conv => lhs; whnf)
      refine go_b (bnd_down (k := L.n) (c := L.n + s.length) rfl (by omega)) ?_
      conv => lhs; whnf
      repeat (first | refine go_rd r2 ?_ | refine go_rd r1 ?_ | refine go_D hD rfl ?_
              conv => lhs; whnf)
      have e9 : (bif (L.c).beq ((L.n : Int).toNat) then 0 else (L.n : Int).toNat * 1) = L.n := by
        rw [show (L.c).beq ((L.n : Int).toNat) = false from beq_ne (by omega)]
        exact Nat.mul_one _
      have e10 : Nat.min s.length ((((L.n + s.length : Nat) : Int)).toNat - (L.n : Int).toNat) = s.length := Nat.min_eq_left (by omega)
      refine (hD _).2 ⟨s.map bv, (src_str e10), bv_one s, hr2.room (by show 0 + (bif (L.c).beq ((L.n : Int).toNat) then 0 else (L.n : Int).toNat * 1) + (s.map bv).length ≤ L.c * 1; rw [e9, List.length_map]; omega), fun A3 hP3 => ?_⟩
      have hP3 : A2.Put A3 g (0 + (bif (L.c).beq ((L.n : Int).toNat) then 0 else (L.n : Int).toNat * 1)) (s.map bv) := hP3
      rw [e9, Nat.zero_add] at hP3
      rw [hL] at hP3
      rw [hL] at ht2 hr2
      have hfin := (bf_fill (ys := s) ht2 hr2 hz k3 hcp hgw (.inl k1) hk2 hP3 rfl).ahead hP1
      have hend : bfStrS.post ⟨w, L, l, s⟩ [] A (.tuple #[.int .i64 (Nat.min s.length (((L.n + s.length : Nat) : Int).toNat - (L.n : Int).toNat) : Nat), .nilIface]) A3 := ⟨by rw [e10], hfin⟩
      conv => lhs; whnf
      repeat (first | refine go_D hD rfl ?_
              conv => lhs; whnf)
      exact (hD _).2 hend
    · rw [e1] at h1
      have h1 : ¬ (s.length : Int) ≤ (L.c : Int) - (L.n : Int) := h1
      conv => lhs; whnf
      repeat (first | refine go_rd r1 ?_ | refine go_D hD rfl ?_
              conv => lhs; whnf)
      refine (hD _).2 ⟨(⟨w, L, l, s.length⟩ : BfG), ⟨rfl, hW1, hpos, by show l.length + s.length ≤ 900000000; omega, by show L.c < l.length + s.length; omega⟩, fun v A2 hq => ?_⟩
      obtain ⟨hv, kb, c, zs, ⟨lr2, ht2⟩, hr2, hz, hc0, hcm, hkw, hg, hk2⟩ : v = .int .i64 l.length ∧ BfRoom A1 w L l s.length A2 := hq
      subst hv
      have r2 : A2.rd w 0 1 = some [.slice (some ⟨kb, 0, none⟩) (l.length + s.length) c] := ht2.rd (o := 0) (n := 1) (by show 0 + 1 ≤ 3; omega)
      have hcl := hr2.le
      conv => lhs; whnf
      repeat (first | refine go_rd r2 ?_ | refine go_D hD rfl ?_
              conv => lhs; whnf)
      refine go_b (bnd_down (k := l.length) (c := l.length + s.length) rfl (by omega)) ?_
      conv => lhs; whnf
      repeat (first | refine go_rd r2 ?_ | refine go_rd r1 ?_ | refine go_D hD rfl ?_
              conv => lhs; whnf)
      have e9 : (bif (c).beq ((l.length : Int).toNat) then 0 else (l.length : Int).toNat * 1) = l.length := by
        rw [show (c).beq ((l.length : Int).toNat) = false from beq_ne (by omega)]
        exact Nat.mul_one _
      have e10 : Nat.min s.length ((((l.length + s.length : Nat) : Int)).toNat - (l.length : Int).toNat) = s.length := Nat.min_eq_left (by omega)
      refine (hD _).2 ⟨s.map bv, (src_str e10), bv_one s, hr2.room (by show 0 + (bif (c).beq ((l.length : Int).toNat) then 0 else (l.length : Int).toNat * 1) + (s.map bv).length ≤ c * 1; rw [e9, List.length_map]; omega), fun A3 hP3 => ?_⟩
      have hP3 : A2.Put A3 kb (0 + (bif (c).beq ((l.length : Int).toNat) then 0 else (l.length : Int).toNat * 1)) (s.map bv) := hP3
      rw [e9, Nat.zero_add] at hP3
      have hfin := (bf_fill (ys := s) ht2 hr2 hz hc0 hcm hkw hg hk2 hP3 rfl).ahead hP1
      have hend : bfStrS.post ⟨w, L, l, s⟩ [] A (.tuple #[.int .i64 (Nat.min s.length (((l.length + s.length : Nat) : Int).toNat - (l.length : Int).toNat) : Nat), .nilIface]) A3 := ⟨by rw [e10], hfin⟩
      conv => lhs; whnf
      repeat (first | refine go_D hD rfl ?_
              conv => lhs; whnf)
      exact (hD _).2 hend

end
end Go.Proofs.YthbaimobihmhiaaGreatDoor

namespace Go.Proofs.YthbaimobihmhiaaGreatDoor
open Go.Sx Go.RowKit
noncomputable section
open Classical

theorem src_none {h : HS} {ao : Option Addr} {n m c : Nat} (hn : n = 0) : srcA h 1 n (.v (.slice ao m c)) = some [] := by
  rcases ao with _ | ⟨g, o, _ | sp⟩ <;> exact if_pos hn

theorem src_row {h : HS} {g o n m c : Nat} {ys : List Value} (hn : n ≠ 0) (hr : h.M.A.rd g o (n * 1) = some ys) : srcA h 1 n (.v (.slice (some ⟨g, o, none⟩) m c)) = some ys :=
  (if_neg hn).trans hr

structure BwG where
  w : Nat
  L : LsD
  l : List UInt8
  s : List UInt8
  C : Arena

def bfWrS : FSpec := ⟨BwG, fun g vs A => ∃ x, vs = [.pointer (some ⟨g.w, 0, none⟩), x] ∧ BfR A g.w g.L g.l ∧ g.l.length + g.s.length ≤ 890000000 ∧ Sl g.C 1 g.s.length x (g.s.map bv) ∧ ∀ k o, g.C.blk k = some o → A.blk k = some o ∧ k ≠ g.w ∧ g.L.g ≠ some k, fun g _ A v A' => v = .tuple #[.int .i64 g.s.length, .nilIface] ∧ BfTo A g.w g.L (g.l ++ g.s) A'⟩

set_option maxRecDepth 100000 in
set_option maxHeartbeats 0 in
theorem bfWr_ok : FOk Tryz.prog 62 bfWrS := by
  refine fok_v mixed fun ⟨w, L, l, s, C⟩ vs A hp => ?_
  obtain ⟨x, rfl, hW, hlen, hX, hCA⟩ : ∃ x, vs = [.pointer (some ⟨w, 0, none⟩), x] ∧ BfR A w L l ∧ l.length + s.length ≤ 890000000 ∧ Sl C 1 s.length x (s.map bv) ∧ ∀ k o, C.blk k = some o → A.blk k = some o ∧ k ≠ w ∧ L.g ≠ some k := hp
  obtain ⟨ao, cx, rfl, hcx, hlx, ha1, ha2, ha3⟩ := hX
  have hC : CTSound Tryz.prog (lookC [specE 80 bfGrowS] noC) := lookC_sound (noC_sound _) (fun x hx => by
    simp only [List.mem_singleton] at hx
    subst hx
    exact specE_ok bfGrow_ok)
  have hform : s = [] ∨ ∃ gs o9, ao = some ⟨gs, o9, none⟩ ∧ C.rd gs o9 (s.length * 1) = some (s.map bv) := by
    by_cases h : s = []
    · exact .inl h
    · refine .inr (Sl.at_ hcx ha1 ha2 ha3 ?_)
      cases s with
      | nil => exact absurd rfl h
      | cons y ys => simp
  refine ⟨_, noL, 60, hC, noL_sound _, fun blk os out tape D hD => ?_⟩
  have hL := hW.len
  have hcp := hW.cap
  obtain ⟨lr, htop⟩ := hW.top
  have hroom : A.Room w 2 1 := htop.room (by show 2 + 1 ≤ 3; omega)
  conv => lhs; whnf
  repeat (first | refine go_D hD rfl ?_
          conv => lhs; whnf)
  refine (hD _).2 ⟨hroom, fun A1 hP1 => ?_⟩
  have hP1 : A.Put A1 w 2 [.int .i8 0] := hP1
  have hW1 := hW.put2 hP1
  have ht1 : CellsAt A1 w [L.v, .int .i64 0, .int .i8 0] := htop.put hP1 (by show 2 + 1 ≤ 3; omega)
  have hrow := hW.row
  by_cases hs0 : s = []
  · subst hs0
    rcases hrow with ⟨k1, k2, k3, k4, -⟩ | ⟨g, k1, k2, k3, k5⟩
    · have hnil := hW.nil k1
      rw [hnil] at ht1
      have r1 : A1.rd w 0 1 = some [.slice none 0 0] := ht1.rd (o := 0) (n := 1) (by show 0 + 1 ≤ 3; omega)
      conv => lhs; whnf
      repeat (first | refine go_rd r1 ?_ | refine go_D hD rfl ?_
              conv => lhs; whnf)
      refine (hD _).2 ⟨ht1.room (by show 0 + 1 ≤ 3; omega), fun A2 hP2 => ?_⟩
      have hP2 : A1.Put A2 w 0 [.slice none 0 0] := hP2
      have ht2 : CellsAt A2 w [.slice none 0 0, .int .i64 0, .int .i8 0] := ht1.put hP2 (by show 0 + 1 ≤ 3; omega)
      have r2 : A2.rd w 0 1 = some [.slice none 0 0] := ht2.rd (o := 0) (n := 1) (by show 0 + 1 ≤ 3; omega)
      have hW2 : BfR A2 w L (l ++ []) := by
        rw [List.append_nil]
        exact ⟨⟨0, by rw [hnil]; exact ht2⟩, hW.row.keep fun g o hg _ => (by rw [k1] at hg; cases hg), hW.ne, hW.nil, hW.cap⟩
      have hfin : BfTo A w L (l ++ []) A2 := ⟨L, hW2, fun k o hk hw _ => by rw [hP2.other k hw, hP1.other k hw]; exact hk, fun g hg => .inl hg⟩
      have hend : bfWrS.post ⟨w, L, l, [], C⟩ [] A (.tuple #[.int .i64 0, .nilIface]) A2 := ⟨rfl, hfin⟩
      conv => lhs; whnf
      repeat (first | refine go_rd r2 ?_ | refine go_D hD rfl ?_
              conv => lhs; whnf)
      exact (hD _).2 hend
    · rw [k2] at ht1
      have r1 : A1.rd w 0 1 = some [.slice (some ⟨g, 0, none⟩) L.n L.c] := ht1.rd (o := 0) (n := 1) (by show 0 + 1 ≤ 3; omega)
      conv => lhs; whnf
      repeat (first | refine go_rd r1 ?_ | refine go_D hD rfl ?_
              conv => lhs; whnf)
      have e1 : IntKind.i64.wrap ((L.c : Int) - (L.n : Int)) = (L.c : Int) - (L.n : Int) := i64_in (by omega) (by omega)
      have hle : L.n ≤ L.c := k5.le
      refine split_dec (fun h1 => ?_) (fun h1 => absurd h1 (by intro h9; exact h9 (by rw [e1]; show (0 : Int) ≤ _; omega)))
      conv => lhs; whnf
      repeat (first | refine go_rd r1 ?_ | refine go_D hD rfl ?_
              conv => lhs; whnf)
      have e6 : IntKind.i64.wrap ((L.n : Int) + ((0 : Nat) : Int)) = (L.n : Int) := by
        rw [i64_in (by omega) (by omega)]
        omega
      refine go_b (bnd_upto e6 hle) ?_
      conv => lhs; whnf
      repeat (first | refine go_rd r1 ?_ | refine go_D hD rfl ?_
              conv => lhs; whnf)
      refine (hD _).2 ⟨ht1.room (by show 0 + 1 ≤ 3; omega), fun A2 hP2 => ?_⟩
      have hP2 : A1.Put A2 w 0 [.slice (some ⟨g, 0 + (bif L.c.beq (Int.toNat 0) then 0 else Int.toNat 0 * 1), none⟩) ((IntKind.i64.wrap ((L.n : Int) + ((0 : Nat) : Int))).toNat - Int.toNat 0) (L.c - Int.toNat 0)] := hP2
      have e8 : (bif L.c.beq (Int.toNat 0) then 0 else Int.toNat 0 * 1) = 0 := by cases L.c.beq (Int.toNat 0) <;> rfl
      rw [e6, e8] at hP2
      have hP2 : A1.Put A2 w 0 [.slice (some ⟨g, 0, none⟩) L.n L.c] := hP2
      have ht2 : CellsAt A2 w [.slice (some ⟨g, 0, none⟩) L.n L.c, .int .i64 0, .int .i8 0] := ht1.put hP2 (by show 0 + 1 ≤ 3; omega)
      have hgw : g ≠ w := fun e => hW.ne (by rw [k1, e])
      have hr2 : LRow A2 g 1 5 L.n L.c (l.map bv) := k5.keep (by rw [hP2.other g hgw, hP1.other g hgw])
      have r2 : A2.rd w 0 1 = some [.slice (some ⟨g, 0, none⟩) L.n L.c] := ht2.rd (o := 0) (n := 1) (by show 0 + 1 ≤ 3; omega)
      conv => lhs; whnf
      repeat (first | refine go_rd r2 ?_ | refine go_D hD rfl ?_
              conv => lhs; whnf)
      refine go_b (bnd_down (k := L.n) (c := L.n) rfl (Nat.le_refl _)) ?_
      conv => lhs; whnf
      repeat (first | refine go_rd r2 ?_ | refine go_rd r1 ?_ | refine go_D hD rfl ?_
              conv => lhs; whnf)
      have e9 : (bif L.c.beq ((L.n : Int).toNat) then 0 else (L.n : Int).toNat * 1) ≤ L.c := by
        cases L.c.beq ((L.n : Int).toNat)
        · show (L.n : Int).toNat * 1 ≤ L.c
          omega
        · exact Nat.zero_le _
      have e10 : Nat.min 0 ((L.n : Int).toNat - (L.n : Int).toNat) = 0 := Nat.zero_min _
      refine (hD _).2 ⟨[], src_none e10, fun v hv => (by cases hv), hr2.room (by show 0 + (bif L.c.beq ((L.n : Int).toNat) then 0 else (L.n : Int).toNat * 1) + 0 ≤ L.c * 1; omega), fun A3 hP3 => ?_⟩
      have hn3 := put_nil hP3
      have hW3 : BfR A3 w L (l ++ []) := by
        rw [List.append_nil]
        exact ⟨⟨0, by rw [k2]; exact ht2.sub fun o ho => (hn3 w).trans ho⟩, .inr ⟨g, k1, k2, k3, hr2.keep (hn3 g)⟩, hW.ne, hW.nil, hW.cap⟩
      have hfin : BfTo A w L (l ++ []) A3 := ⟨L, hW3, fun k o hk hw _ => by rw [hn3 k]; show A2.blk k = some o; rw [hP2.other k hw, hP1.other k hw]; exact hk, fun g hg => .inl hg⟩
      have hend : bfWrS.post ⟨w, L, l, [], C⟩ [] A (.tuple #[.int .i64 (Nat.min 0 ((L.n : Int).toNat - (L.n : Int).toNat) : Nat), .nilIface]) A3 := ⟨by rw [e10]; rfl, hfin⟩
      conv => lhs; whnf
      repeat (first | refine go_D hD rfl ?_
              conv => lhs; whnf)
      exact (hD _).2 hend
  have hpos : 0 < s.length := by
    cases s with
    | nil => exact absurd rfl hs0
    | cons x xs => simp
  have hform := hform.resolve_left hs0
  obtain ⟨gs, o9, rfl, hrd⟩ := hform
  rcases hrow with ⟨k1, k2, k3, k4, -⟩ | ⟨g, k1, k2, k3, k5⟩
  · rw [hW.nil k1] at ht1
    have r1 : A1.rd w 0 1 = some [.slice none 0 0] := ht1.rd (o := 0) (n := 1) (by show 0 + 1 ≤ 3; omega)
    conv => lhs; whnf
    repeat (first | refine go_rd r1 ?_ | refine go_D hD rfl ?_
            conv => lhs; whnf)
    refine split_dec (fun h => absurd h (by show ¬ ((s.length : Int) ≤ 0); omega)) (fun _ => ?_)
    conv => lhs; whnf
    repeat (first | refine go_rd r1 ?_ | refine go_D hD rfl ?_
            conv => lhs; whnf)
    refine (hD _).2 ⟨(⟨w, L, l, s.length⟩ : BfG), ⟨rfl, hW1, hpos, by show l.length + s.length ≤ 900000000; omega, by show L.c < l.length + s.length; omega⟩, fun v A2 hq => ?_⟩
    obtain ⟨hv, kb, c, zs, ⟨lr2, ht2⟩, hr2, hz, hc0, hcm, hkw, hg, hk2⟩ : v = .int .i64 l.length ∧ BfRoom A1 w L l s.length A2 := hq
    subst hv
    have r2 : A2.rd w 0 1 = some [.slice (some ⟨kb, 0, none⟩) (l.length + s.length) c] := ht2.rd (o := 0) (n := 1) (by show 0 + 1 ≤ 3; omega)
    have hcl := hr2.le
    conv => lhs; whnf
    repeat (first | refine go_rd r2 ?_ | refine go_D hD rfl ?_
            conv => lhs; whnf)
    have hC2 : C.Sub A2 := fun k o hk => hk2 k o (by rw [hP1.other k (hCA k o hk).2.1]; exact (hCA k o hk).1) (hCA k o hk).2.1 (hCA k o hk).2.2
    have hrd2 := rd_sub hC2 hrd
    refine go_b (bnd_down (k := l.length) (c := l.length + s.length) rfl (by omega)) ?_
    conv => lhs; whnf
    repeat (first | refine go_rd r2 ?_ | refine go_rd r1 ?_ | refine go_D hD rfl ?_
            conv => lhs; whnf)
    have e9 : (bif (c).beq ((l.length : Int).toNat) then 0 else (l.length : Int).toNat * 1) = l.length := by
      rw [show (c).beq ((l.length : Int).toNat) = false from beq_ne (by omega)]
      exact Nat.mul_one _
    have e10 : Nat.min s.length ((((l.length + s.length : Nat) : Int)).toNat - (l.length : Int).toNat) = s.length := Nat.min_eq_left (by omega)
    refine (hD _).2 ⟨s.map bv, src_row (by rw [e10]; omega) (by rw [e10]; exact hrd2), bv_one s, hr2.room (by show 0 + (bif (c).beq ((l.length : Int).toNat) then 0 else (l.length : Int).toNat * 1) + (s.map bv).length ≤ c * 1; rw [e9, List.length_map]; omega), fun A3 hP3 => ?_⟩
    have hP3 : A2.Put A3 kb (0 + (bif (c).beq ((l.length : Int).toNat) then 0 else (l.length : Int).toNat * 1)) (s.map bv) := hP3
    rw [e9, Nat.zero_add] at hP3
    have hfin := (bf_fill (ys := s) ht2 hr2 hz hc0 hcm hkw hg hk2 hP3 rfl).ahead hP1
    have hend : bfWrS.post ⟨w, L, l, s, C⟩ [] A (.tuple #[.int .i64 (Nat.min s.length (((l.length + s.length : Nat) : Int).toNat - (l.length : Int).toNat) : Nat), .nilIface]) A3 := ⟨by rw [e10], hfin⟩
    conv => lhs; whnf
    repeat (first | refine go_D hD rfl ?_
            conv => lhs; whnf)
    exact (hD _).2 hend
  · rw [k2] at ht1
    have r1 : A1.rd w 0 1 = some [.slice (some ⟨g, 0, none⟩) L.n L.c] := ht1.rd (o := 0) (n := 1) (by show 0 + 1 ≤ 3; omega)
    conv => lhs; whnf
    repeat (first | refine go_rd r1 ?_ | refine go_D hD rfl ?_
            conv => lhs; whnf)
    have e1 : IntKind.i64.wrap ((L.c : Int) - (L.n : Int)) = (L.c : Int) - (L.n : Int) := i64_in (by omega) (by omega)
    refine split_dec (fun h1 => ?_) (fun h1 => ?_)
    · rw [e1] at h1
      have h1 : (s.length : Int) ≤ (L.c : Int) - (L.n : Int) := h1
      conv => lhs; whnf
      repeat (first | refine go_rd r1 ?_ | refine go_D hD rfl ?_
              conv => lhs; whnf)
      have hle : L.n + s.length ≤ L.c := by omega
      have e6 : IntKind.i64.wrap ((L.n : Int) + (s.length : Int)) = ((L.n + s.length : Nat) : Int) := by
        rw [i64_in (by omega) (by omega)]
        omega
      refine go_b (bnd_upto e6 hle) ?_
      conv => lhs; whnf
      repeat (first | refine go_rd r1 ?_ | refine go_D hD rfl ?_
              conv => lhs; whnf)
      refine (hD _).2 ⟨ht1.room (by show 0 + 1 ≤ 3; omega), fun A2 hP2 => ?_⟩
      have hP2 : A1.Put A2 w 0 [.slice (some ⟨g, 0 + (bif L.c.beq (Int.toNat 0) then 0 else Int.toNat 0 * 1), none⟩) ((IntKind.i64.wrap ((L.n : Int) + (s.length : Int))).toNat - Int.toNat 0) (L.c - Int.toNat 0)] := hP2
      have e8 : (bif L.c.beq (Int.toNat 0) then 0 else Int.toNat 0 * 1) = 0 := by cases L.c.beq (Int.toNat 0) <;> rfl
      rw [e6, e8] at hP2
      have hP2 : A1.Put A2 w 0 [.slice (some ⟨g, 0, none⟩) (L.n + s.length) L.c] := hP2
      have ht2 : CellsAt A2 w [.slice (some ⟨g, 0, none⟩) (L.n + s.length) L.c, .int .i64 0, .int .i8 0] := ht1.put hP2 (by show 0 + 1 ≤ 3; omega)
      have hgw : g ≠ w := fun e => hW.ne (by rw [k1, e])
      have hr1 : LRow A2 g 1 5 L.n L.c (l.map bv) := k5.keep (by rw [hP2.other g hgw, hP1.other g hgw])
      have hwide := hr1.wide hle
      obtain ⟨zs, hz, hr2⟩ := hwide
      have hk2 : ∀ k' o, A1.blk k' = some o → k' ≠ w → L.g ≠ some k' → A2.blk k' = some o := fun k' o hk hw _ => by
        rw [hP2.other k' hw]
        exact hk
      have r2 : A2.rd w 0 1 = some [.slice (some ⟨g, 0, none⟩) (L.n + s.length) L.c] := ht2.rd (o := 0) (n := 1) (by show 0 + 1 ≤ 3; omega)
      conv => lhs; whnf
      repeat (first | refine go_rd r2 ?_ | refine go_D hD rfl ?_
              conv => lhs; whnf)
      have hC2 : C.Sub A2 := fun k o hk => hk2 k o (by rw [hP1.other k (hCA k o hk).2.1]; exact (hCA k o hk).1) (hCA k o hk).2.1 (hCA k o hk).2.2
      have hrd2 := rd_sub hC2 hrd
      refine go_b (bnd_down (k := L.n) (c := L.n + s.length) rfl (by omega)) ?_
      conv => lhs; whnf
      repeat (first | refine go_rd r2 ?_ | refine go_rd r1 ?_ | refine go_D hD rfl ?_
              conv => lhs; whnf)
      have e9 : (bif (L.c).beq ((L.n : Int).toNat) then 0 else (L.n : Int).toNat * 1) = L.n := by
        rw [show (L.c).beq ((L.n : Int).toNat) = false from beq_ne (by omega)]
        exact Nat.mul_one _
      have e10 : Nat.min s.length ((((L.n + s.length : Nat) : Int)).toNat - (L.n : Int).toNat) = s.length := Nat.min_eq_left (by omega)
      refine (hD _).2 ⟨s.map bv, src_row (by rw [e10]; omega) (by rw [e10]; exact hrd2), bv_one s, hr2.room (by show 0 + (bif (L.c).beq ((L.n : Int).toNat) then 0 else (L.n : Int).toNat * 1) + (s.map bv).length ≤ L.c * 1; rw [e9, List.length_map]; omega), fun A3 hP3 => ?_⟩
      have hP3 : A2.Put A3 g (0 + (bif (L.c).beq ((L.n : Int).toNat) then 0 else (L.n : Int).toNat * 1)) (s.map bv) := hP3
      rw [e9, Nat.zero_add] at hP3
      rw [hL] at hP3
      rw [hL] at ht2 hr2
      have hfin := (bf_fill (ys := s) ht2 hr2 hz k3 hcp hgw (.inl k1) hk2 hP3 rfl).ahead hP1
      have hend : bfWrS.post ⟨w, L, l, s, C⟩ [] A (.tuple #[.int .i64 (Nat.min s.length (((L.n + s.length : Nat) : Int).toNat - (L.n : Int).toNat) : Nat), .nilIface]) A3 := ⟨by rw [e10], hfin⟩
      conv => lhs; whnf
      repeat (first | refine go_D hD rfl ?_
              conv => lhs; whnf)
      exact (hD _).2 hend
    · rw [e1] at h1
      have h1 : ¬ (s.length : Int) ≤ (L.c : Int) - (L.n : Int) := h1
      conv => lhs; whnf
      repeat (first | refine go_rd r1 ?_ | refine go_D hD rfl ?_
              conv => lhs; whnf)
      refine (hD _).2 ⟨(⟨w, L, l, s.length⟩ : BfG), ⟨rfl, hW1, hpos, by show l.length + s.length ≤ 900000000; omega, by show L.c < l.length + s.length; omega⟩, fun v A2 hq => ?_⟩
      obtain ⟨hv, kb, c, zs, ⟨lr2, ht2⟩, hr2, hz, hc0, hcm, hkw, hg, hk2⟩ : v = .int .i64 l.length ∧ BfRoom A1 w L l s.length A2 := hq
      subst hv
      have r2 : A2.rd w 0 1 = some [.slice (some ⟨kb, 0, none⟩) (l.length + s.length) c] := ht2.rd (o := 0) (n := 1) (by show 0 + 1 ≤ 3; omega)
      have hcl := hr2.le
      conv => lhs; whnf
      repeat (first | refine go_rd r2 ?_ | refine go_D hD rfl ?_
              conv => lhs; whnf)
      have hC2 : C.Sub A2 := fun k o hk => hk2 k o (by rw [hP1.other k (hCA k o hk).2.1]; exact (hCA k o hk).1) (hCA k o hk).2.1 (hCA k o hk).2.2
      have hrd2 := rd_sub hC2 hrd
      refine go_b (bnd_down (k := l.length) (c := l.length + s.length) rfl (by omega)) ?_
      conv => lhs; whnf
      repeat (first | refine go_rd r2 ?_ | refine go_rd r1 ?_ | refine go_D hD rfl ?_
              conv => lhs; whnf)
      have e9 : (bif (c).beq ((l.length : Int).toNat) then 0 else (l.length : Int).toNat * 1) = l.length := by
        rw [show (c).beq ((l.length : Int).toNat) = false from beq_ne (by omega)]
        exact Nat.mul_one _
      have e10 : Nat.min s.length ((((l.length + s.length : Nat) : Int)).toNat - (l.length : Int).toNat) = s.length := Nat.min_eq_left (by omega)
      refine (hD _).2 ⟨s.map bv, src_row (by rw [e10]; omega) (by rw [e10]; exact hrd2), bv_one s, hr2.room (by show 0 + (bif (c).beq ((l.length : Int).toNat) then 0 else (l.length : Int).toNat * 1) + (s.map bv).length ≤ c * 1; rw [e9, List.length_map]; omega), fun A3 hP3 => ?_⟩
      have hP3 : A2.Put A3 kb (0 + (bif (c).beq ((l.length : Int).toNat) then 0 else (l.length : Int).toNat * 1)) (s.map bv) := hP3
      rw [e9, Nat.zero_add] at hP3
      have hfin := (bf_fill (ys := s) ht2 hr2 hz hc0 hcm hkw hg hk2 hP3 rfl).ahead hP1
      have hend : bfWrS.post ⟨w, L, l, s, C⟩ [] A (.tuple #[.int .i64 (Nat.min s.length (((l.length + s.length : Nat) : Int).toNat - (l.length : Int).toNat) : Nat), .nilIface]) A3 := ⟨by rw [e10], hfin⟩
      conv => lhs; whnf
      repeat (first | refine go_D hD rfl ?_
              conv => lhs; whnf)
      exact (hD _).2 hend

end
end Go.Proofs.YthbaimobihmhiaaGreatDoor

namespace Go.Proofs.YthbaimobihmhiaaGreatDoor
open Go.Sx Go.RowKit
noncomputable section
open Classical

theorem four_at0 (n : Nat) : Value.int .u8 (IntKind.u8.wrap (n : Int)) = bv (UInt8.ofNat (n % 256)) := by
  rw [bv_ofNat (Nat.mod_lt _ (by decide)), u8_wrap]

def frameL (l : List UInt8) : List UInt8 := fourL l.length ++ fourL (crcSum l).toNat ++ l

/-- A list of bytes that is new behind A. -/
def LsN (A A' : Arena) (L : LsD) (cs : List Value) : Prop := LsR A' 1 5 L cs ∧ ∀ g, L.g = some g → A.blk g = none

theorem none_of {A B : Arena} (h : A.Sub B) {g : Nat} (hg : B.blk g = none) : A.blk g = none := by
  cases hA : A.blk g with
  | none => rfl
  | some o => rw [h g o hA] at hg; cases hg

/-- A list that is new may grow: all else stays. -/
theorem LsN.more {A A3 A4 : Arena} {L L4 : LsD} {cs ys : List Value} (hs : A.Sub A3) (hg : ∀ g, L.g = some g → A.blk g = none) (q3 : LsR A4 1 5 L4 (cs ++ ys)) (q4 : ∀ g, L4.g = some g → L.g = some g ∨ A3.blk g = none) (q5 : ∀ k o, A3.blk k = some o → L.g ≠ some k → A4.blk k = some o) :
    A.Sub A4 ∧ LsN A A4 L4 (cs ++ ys) :=
  ⟨fun k o hk => q5 k o (hs k o hk) fun e => (by rw [hg k e] at hk; cases hk), q3, fun g h => (q4 g h).elim (hg g) fun h => none_of hs h⟩

theorem g4_of {A : Arena} {es : Nat} {e : TypeId} {L : LsD} {cs : List Value} {g : Nat} (h : LsR A es e L cs) (hv : L.v = .slice (some ⟨g, 0, none⟩) L.n L.c) (hn : 0 < L.n) : L.g = some g := by
  rcases h with ⟨_, h0, _⟩ | ⟨g', h1, h2, _⟩
  · omega
  · rw [hv] at h2
    injection h2 with h2
    injection h2 with h2
    injection h2 with h2
    rw [h1, h2]

end
end Go.Proofs.YthbaimobihmhiaaGreatDoor

namespace Go.Proofs.YthbaimobihmhiaaGreatDoor
open Go.Sx Go.RowKit
noncomputable section
open Classical

def cloneBytesS : FSpec := ⟨List UInt8, fun g vs A => ∃ x, vs = [x] ∧ SlB A x g, fun g _ A v A' => A.Sub A' ∧ SlB (A'.minus A) v g⟩

theorem nextcap0 {n : Nat} (h : 0 < 0 + n) : Builtin.nextslicecap (0 + n) 0 = n := by
  unfold Builtin.nextslicecap
  rw [if_pos (by omega)]; omega

set_option maxRecDepth 100000 in
set_option maxHeartbeats 0 in
theorem cloneBytes_ok : FOk Tryz.prog 65 cloneBytesS := by
  refine fok_v mixed fun bs vs A hp => ?_
  simp only [cloneBytesS] at hp
  obtain ⟨x, rfl, ⟨ao, c, rfl, hc, hl, ha1, ha2, ha3⟩, hxl⟩ := hp
  refine ⟨noC, noL, 60, noC_sound _, noL_sound _, fun blk os out tape D hD => ?_⟩
  conv => lhs; whnf
  refine split_b (fun hb => ?_) (fun hb => ?_) <;> (conv => lhs; whnf)
  · have h0 : ao = none := by simpa using hb
    have h1 := ha1 h0
    have h2 : bs = [] := List.length_eq_zero_iff.1 (by omega)
    subst h2
    exact (hD _).2 ⟨Arena.Sub.refl _, Sl.nil _ _, by simp⟩
  · have h0 : ∃ a, ao = some a := by cases ao with
      | none => simp at hb
      | some a => exact ⟨a, rfl⟩
    obtain ⟨⟨g, o, sp⟩, rfl⟩ := h0
    have hsp : sp = none ∨ bs.length = 0 := by
      rcases Nat.eq_zero_or_pos c with h | h
      · right; omega
      · left; exact ha2 _ rfl h
    rcases sp with _ | sp
    all_goals
      refine (hD _).2 fun g1 A1 hN => ?_
      conv => lhs; whnf
      refine (hD _).2 ⟨[], bs.map bv, rfl, ?_, hl, ?_, by omega, ?_, rfl, fun h => (by cases h), fun _ _ _ h1 h2 => ?_, fun v A2 hA => ?_⟩
      · first
        | (show (if bs.length = 0 then some [] else A1.rd g o (bs.length * 1)) = _
           by_cases h0 : bs.length = 0
           · rw [if_pos h0, List.length_eq_zero_iff.1 h0]; rfl
           · rw [if_neg h0]; exact rd_sub hN.sub (ha3 (by omega) _ rfl))
        | (have h9 : bs.length = 0 := hsp.resolve_left (by simp)
           show (if bs.length = 0 then some [] else none) = _
           (rw [if_pos h9, List.length_eq_zero_iff.1 h9]; rfl))
      · intro v hv
        obtain ⟨b, _, rfl⟩ := List.mem_map.1 hv; rfl
      · intro h0
        rw [nextcap0 h0]
        show bs.length * 1 ≤ _
        omega
      · exfalso
        have : bs.length = 0 := by omega
        exact h2 (by rw [List.length_eq_zero_iff.1 this]; rfl)
      · obtain ⟨k1, k2⟩ := clone_end hN.sub hA hl
        conv => lhs; whnf
        exact (hD _).2 ⟨k1, k2, hxl⟩

end
end Go.Proofs.YthbaimobihmhiaaGreatDoor

namespace Go.Proofs.YthbaimobihmhiaaGreatDoor
open Go.Sx Go.RowKit
noncomputable section
open Classical

theorem nbeq_ne {a b : Nat} (h : a ≠ b) : a.beq b = false := by
  cases e : a.beq b with
  | false => rfl
  | true => exact absurd (Nat.eq_of_beq_eq_true e) h

def stL : RdSt → List UInt8
  | some l => l
  | none => []

/-- In block r, what is left lies in D; f tells what the second cell says. -/
def RdG (f : RdSt → Bool) (D A : Arena) (r : Nat) (st : RdSt) : Prop :=
  ∃ v : Value, CellsAt A r [v, .bool (f st)] ∧ D.Sub A ∧ D.blk r = none ∧ Sl D 1 (stL st).length v ((stL st).map bv) ∧ (st = none → v = .slice none 0 0)

/-- All but block r stays. -/
def KeepR (A A' : Arena) (r : Nat) : Prop := ∀ k o, A.blk k = some o → k ≠ r → A'.blk k = some o

theorem KeepR.refl (A : Arena) (r : Nat) : KeepR A A r := fun _ _ h _ => h
theorem KeepR.trans {A B C : Arena} {r : Nat} (h : KeepR A B r) (k : KeepR B C r) : KeepR A C r := fun i o ho hi => k i o (h i o ho hi) hi
theorem KeepR.of_sub {A B : Arena} (h : A.Sub B) (r : Nat) : KeepR A B r := fun k o hk _ => h k o hk
theorem KeepR.sub {A B C : Arena} {r : Nat} (h : KeepR A B r) (hs : C.Sub A) (hr : C.blk r = none) : C.Sub B := fun k o hk => h k o (hs k o hk) fun e => by rw [e, hr] at hk; cases hk
theorem KeepR.put {A B : Arena} {r o : Nat} {vs : List Value} (h : A.Put B r o vs) : KeepR A B r := fun k ob hk hr => by rw [h.other k hr]; exact hk

/-- Something else changes. -/
theorem RdG.keep {f : RdSt → Bool} {D A B : Arena} {r : Nat} {st : RdSt} (h : RdG f D A r st) (hs : A.Sub B) : RdG f D B r st := by
  obtain ⟨v, h1, h2, h3, h4⟩ := h
  exact ⟨v, h1.sub fun o ho => hs r o ho, h2.trans hs, h3, h4⟩

theorem RdG.dsub {f : RdSt → Bool} {D A : Arena} {r : Nat} {st : RdSt} (h : RdG f D A r st) : D.Sub A := by
  obtain ⟨v, _, h2, _⟩ := h
  exact h2

/-- Something else is stored. -/
theorem RdG.other {f : RdSt → Bool} {D A B : Arena} {r : Nat} {st : RdSt} (h : RdG f D A r st) (hs : D.Sub B) (hr : B.blk r = A.blk r) : RdG f D B r st := by
  obtain ⟨v, h1, h2, h3, h4⟩ := h
  exact ⟨v, h1.sub fun o ho => hr.trans ho, hs, h3, h4⟩

theorem RdG.live2 {f : RdSt → Bool} {D A : Arena} {r : Nat} {st : RdSt} (h : RdG f D A r st) : ∃ o, A.blk r = some o := by
  obtain ⟨v, h1, _⟩ := h
  exact h1.dom

theorem minus_keep {A A1 A2 : Arena} {r : Nat} (h : KeepR A A1 r) (hr : ∃ o, A1.blk r = some o) : (A2.minus A1).Sub (A2.minus A) := fun k o hk => by
  obtain ⟨h1, h2⟩ := minus_blk hk
  refine minus_mk ?_ h2
  cases hA : A.blk k with
  | none => rfl
  | some ob =>
    by_cases e : k = r
    · obtain ⟨o', ho⟩ := hr
      rw [e, ho] at h1; cases h1
    · rw [h k ob hA e] at h1; cases h1

/-- The rest of a slice. -/
theorem Sl.tail {D : Arena} {l : List UInt8} {n : Nat} {ao : Option Addr} {m c : Nat} (h : Sl D 1 l.length (.slice ao m c) (l.map bv)) (hn : n ≤ l.length) :
    m = l.length ∧ l.length ≤ c ∧ Sl D 1 n (.slice ao n n) ((l.take n).map bv) ∧ (0 < c → ∃ g o, ao = some ⟨g, o, none⟩ ∧ ∀ ao', (n < c → ao' = some ⟨g, o + n, none⟩) → (n = c → ∃ g' o', ao' = some ⟨g', o', none⟩) → Sl D 1 (l.length - n) (.slice ao' (l.length - n) (c - n)) ((l.drop n).map bv)) ∧ (c = 0 → l = []) := by
  obtain ⟨ao0, c0, e, h0, h1, h2, h3, h4⟩ := h
  injection e with e1 e2 e3
  subst e1; subst e2; subst e3
  refine ⟨rfl, h0, ⟨ao, n, rfl, Nat.le_refl _, by rw [List.length_map, List.length_take]; omega, ?_, ?_, ?_⟩, fun hc => ?_, fun hc => List.length_eq_zero_iff.1 (by omega)⟩
  · intro e
    have := h2 e
    omega
  · intro a ha hn0
    exact h3 a ha (by omega)
  · intro hn0 a ha
    have h5 := h4 (by omega) a ha
    have h6 := rd_at h5 (i := 0) (m := n * 1) (by omega)
    rw [Nat.add_zero, List.drop_zero, ← List.map_take, Nat.mul_one] at h6
    rw [Nat.mul_one]
    exact h6
  · obtain ⟨⟨g, o, sp⟩, rfl⟩ : ∃ a, ao = some a := by
      cases ao with
      | none => have := h2 rfl; omega
      | some a => exact ⟨a, rfl⟩
    have hsp := h3 _ rfl hc
    simp only at hsp
    subst hsp
    refine ⟨g, o, rfl, fun ao' k1 k2 => ?_⟩
    refine ⟨ao', c - n, rfl, by omega, by rw [List.length_map, List.length_drop]; omega, fun e => ?_, fun a ha hc' => ?_, fun hpos a ha => ?_⟩
    · by_cases hlt : n < c
      · rw [k1 hlt] at e; cases e
      · obtain ⟨g', o', e'⟩ := k2 (by omega)
        rw [e'] at e; cases e
    · rw [k1 (by omega)] at ha
      injection ha with ha
      subst ha
      rfl
    · rw [k1 (by omega)] at ha
      injection ha with ha
      subst ha
      have h5 := h4 (by omega) _ rfl
      have h6 := rd_at h5 (i := n) (m := (l.length - n) * 1) (by omega)
      rw [← List.map_drop, List.take_of_length_le (by rw [List.length_map, List.length_drop]; omega)] at h6
      exact h6

end
end Go.Proofs.YthbaimobihmhiaaGreatDoor

namespace Go.Proofs.YthbaimobihmhiaaGreatDoor
open Go.Sx Go.RowKit
noncomputable section
open Classical

/-- A number of four bytes. -/
def numL (l : List UInt8) : Nat := (l.getD 0 0).toNat + (l.getD 1 0).toNat * 256 + (l.getD 2 0).toNat * 65536 + (l.getD 3 0).toNat * 16777216

theorem numL_lt (l : List UInt8) : numL l < 4294967296 := by
  unfold numL
  have h0 := (l.getD 0 0).toNat_lt
  have h1 := (l.getD 1 0).toNat_lt
  have h2 := (l.getD 2 0).toNat_lt
  have h3 := (l.getD 3 0).toNat_lt
  omega

/-- What is in a frame, and its length. -/
def unfrL (l : List UInt8) : Option (List UInt8 × Nat) :=
  if l.length < 8 ∨ 1048576 < numL l ∨ l.length < 8 + numL l ∨ (crcSum ((l.drop 8).take (numL l))).toNat ≠ numL (l.drop 4) then none else some ((l.drop 8).take (numL l), 8 + numL l)

theorem Sl.part {A : Arena} {l : List UInt8} {g o c lo hi : Nat} (h : Sl A 1 l.length (.slice (some ⟨g, o, none⟩) l.length c) (l.map bv)) (h1 : lo ≤ hi) (h2 : hi ≤ l.length) :
    Sl A 1 (hi - lo) (.slice (some ⟨g, o + (bif c.beq lo then 0 else lo * 1), none⟩) (hi - lo) (c - lo)) (((l.drop lo).take (hi - lo)).map bv) := by
  obtain ⟨ao0, c0, e, k0, k1, k2, k3, k4⟩ := h
  injection e with e1 e2 e3
  subst e1; subst e3
  refine ⟨_, _, rfl, by omega, by rw [List.length_map, List.length_take, List.length_drop]; omega, fun e => (by cases e), fun a ha _ => (by injection ha with ha; subst ha; rfl), fun hpos a ha => ?_⟩
  injection ha with ha
  subst ha
  have h5 := k4 (by omega) _ rfl
  have h6 := rd_at h5 (i := lo) (m := (hi - lo) * 1) (by omega)
  rw [nbeq_ne (show c ≠ lo by omega)]
  show A.rd g (o + lo * 1) ((hi - lo) * 1) = _
  rw [Nat.mul_one lo, h6, ← List.map_drop, ← List.map_take, Nat.mul_one]

/-! ### As the programs reckon -/

theorem or_u32 (a b : BitVec 32) : bitsOf .or .u32 (u32v a) (u32v b) = u32v (a ||| b) := by
  show IntKind.u32.wrap (((BitVec.ofInt IntKind.u32.bits (u32v a) ||| BitVec.ofInt IntKind.u32.bits (u32v b)).toNat : Nat) : Int) = _
  rw [ofInt_u32, ofInt_u32, u32_wrap (BitVec.isLt _)]
  rfl

theorem or_disj {a b k : Nat} (ha : a < 2 ^ k) (h : a + b * 2 ^ k < 4294967296) : bitsOf .or .u32 (a : Int) ((b * 2 ^ k : Nat) : Int) = ((a + b * 2 ^ k : Nat) : Int) := by
  show IntKind.u32.wrap (((BitVec.ofInt 32 ((a : Nat) : Int) ||| BitVec.ofInt 32 ((b * 2 ^ k : Nat) : Int)).toNat : Nat) : Int) = _
  rw [BitVec.ofInt_natCast, BitVec.ofInt_natCast, BitVec.toNat_or, BitVec.toNat_ofNat, BitVec.toNat_ofNat, Nat.mod_eq_of_lt (by omega), Nat.mod_eq_of_lt (by omega)]
  have hor : a ||| b * 2 ^ k = a + b * 2 ^ k := by
    rw [Nat.or_comm, ← Nat.shiftLeft_eq, ← Nat.shiftLeft_add_eq_or_of_lt ha, Nat.add_comm]
  rw [hor, u32_wrap h]

theorem shl_u32 {x k : Nat} (hx : x < 256) (hk : k ≤ 24) : IntKind.u32.wrap (IntKind.u32.wrap (x : Int) * 2 ^ (min (k : Int).toNat IntKind.u32.bits)) = ((x * 2 ^ k : Nat) : Int) := by
  have e : min (k : Int).toNat IntKind.u32.bits = k := by
    show min k 32 = k
    omega
  have h2 : 2 ^ k ≤ 2 ^ 24 := Nat.pow_le_pow_right (by decide) hk
  have h3 : x * 2 ^ k ≤ 255 * 2 ^ 24 := Nat.mul_le_mul (by omega) h2
  have h4 : 255 * 2 ^ 24 < 4294967296 := by decide
  have hz : ((x : Int) * 2 ^ k) = ((x * 2 ^ k : Nat) : Int) := by push_cast; rfl
  rw [e, u32_wrap (by omega), hz, u32_wrap (by omega)]

theorem num_or {a b c d : Nat} (ha : a < 256) (hb : b < 256) (hc : c < 256) (hd : d < 256) :
    bitsOf .or .u32 (bitsOf .or .u32 (bitsOf .or .u32 (IntKind.u32.wrap (a : Int)) (IntKind.u32.wrap (IntKind.u32.wrap (b : Int) * 2 ^ (min (8 : Int).toNat IntKind.u32.bits)))) (IntKind.u32.wrap (IntKind.u32.wrap (c : Int) * 2 ^ (min (16 : Int).toNat IntKind.u32.bits)))) (IntKind.u32.wrap (IntKind.u32.wrap (d : Int) * 2 ^ (min (24 : Int).toNat IntKind.u32.bits))) =
      ((a + b * 256 + c * 65536 + d * 16777216 : Nat) : Int) := by
  have e1 := shl_u32 (k := 8) hb (by decide)
  have e2 := shl_u32 (k := 16) hc (by decide)
  have e3 := shl_u32 (k := 24) hd (by decide)
  rw [show (8 : Int) = ((8 : Nat) : Int) from rfl, show (16 : Int) = ((16 : Nat) : Int) from rfl, show (24 : Int) = ((24 : Nat) : Int) from rfl, e1, e2, e3, u32_wrap (by omega), or_disj (k := 8) ha (by omega), or_disj (k := 16) (by omega) (by omega), or_disj (k := 24) (by omega) (by omega)]

theorem num_add {a b c d : Nat} (ha : a < 256) (hb : b < 256) (hc : c < 256) (hd : d < 256) :
    IntKind.u32.wrap (IntKind.u32.wrap (IntKind.u32.wrap (IntKind.u32.wrap (a : Int) + IntKind.u32.wrap (IntKind.u32.wrap (b : Int) * 2 ^ (min (8 : Int).toNat IntKind.u32.bits))) + IntKind.u32.wrap (IntKind.u32.wrap (c : Int) * 2 ^ (min (16 : Int).toNat IntKind.u32.bits))) + IntKind.u32.wrap (IntKind.u32.wrap (d : Int) * 2 ^ (min (24 : Int).toNat IntKind.u32.bits))) =
      ((a + b * 256 + c * 65536 + d * 16777216 : Nat) : Int) := by
  have e1 := shl_u32 (k := 8) hb (by decide)
  have e2 := shl_u32 (k := 16) hc (by decide)
  have e3 := shl_u32 (k := 24) hd (by decide)
  have p8 : 2 ^ 8 = 256 := rfl
  have p16 : 2 ^ 16 = 65536 := rfl
  have p24 : 2 ^ 24 = 16777216 := rfl
  have w : ∀ x y : Nat, x + y < 4294967296 → IntKind.u32.wrap ((x : Int) + (y : Int)) = ((x + y : Nat) : Int) := fun x y h => by
    rw [← Int.natCast_add, u32_wrap h]
  rw [show (8 : Int) = ((8 : Nat) : Int) from rfl, show (16 : Int) = ((16 : Nat) : Int) from rfl, show (24 : Int) = ((24 : Nat) : Int) from rfl, e1, e2, e3, u32_wrap (by omega), w _ _ (by omega), w _ _ (by omega), w _ _ (by omega)]

theorem u32v_inj {a : BitVec 32} {n : Nat} : u32v a = ((n : Nat) : Int) ↔ a.toNat = n := by
  unfold u32v
  omega

end
end Go.Proofs.YthbaimobihmhiaaGreatDoor

namespace Go.Proofs.YthbaimobihmhiaaGreatDoor
open Go.Sx Go.RowKit
noncomputable section
open Classical

/-- Some numbers one behind the other. -/
def pIs : Nat → RdSt → RdSt
  | 0, s => s
  | k + 1, s => (pInt (pIs k s)).2

def pI (k : Nat) (s : RdSt) : Int := (pInt (pIs k s)).1

def nodeOf (p d : List UInt8) (s : RdSt) : ToldD := ⟨⟨p.toArray⟩, d, ⟨pI 0 s, pI 1 s, pI 2 s, pI 3 s, pI 4 s, pI 5 s, pI 6 s, pI 7 s, d.length, 0⟩⟩

def pNode (s : RdSt) : ToldD × RdSt := (nodeOf (pText 200 s).1 (pText 1000 (pText 200 s).2).1 (pText 1000 (pText 200 s).2).2, pIs 8 (pText 1000 (pText 200 s).2).2)

def pNodes : Nat → RdSt → List ToldD × RdSt
  | 0, s => ([], s)
  | k + 1, s => ((pNodes k s).1 ++ [(pNode (pNodes k s).2).1], (pNode (pNodes k s).2).2)

def pSit (s : RdSt) : SitD × RdSt := (⟨pI 0 s, pI 1 s, pI 2 s⟩, pIs 3 s)

def pSits : Nat → RdSt → List SitD × RdSt
  | 0, s => ([], s)
  | k + 1, s => ((pSits k s).1 ++ [(pSit (pSits k s).2).1], (pSit (pSits k s).2).2)

/-- Behind the sittings. -/
def tailI (ns : List ToldD) (ss : List SitD) (s : RdSt) : Option (List ToldD × List SitD × Int × List MemD × Int × Int) := match getE (pText 1048576 s).1 with
  | none => none
  | some (ver, ms) => if pIs 2 (pText 1048576 s).2 = some [] ∧ RightI ns ss ver ms (pI 0 (pText 1048576 s).2) (pI 1 (pText 1048576 s).2) then some (ns, ss, ver, ms, pI 0 (pText 1048576 s).2, pI 1 (pText 1048576 s).2) else none

/-- Behind the nodes. -/
def sitsI (ns : List ToldD) (s : RdSt) := tailI ns (pSits (pCount 200 s).1.toNat (pCount 200 s).2).1 (pSits (pCount 200 s).1.toNat (pCount 200 s).2).2

/-- Behind the first byte. -/
def nodesI (s : RdSt) := sitsI (pNodes (pCount 500 s).1.toNat (pCount 500 s).2).1 (pNodes (pCount 500 s).1.toNat (pCount 500 s).2).2

/-- An image that bytes are. -/
def getI (l : List UInt8) : Option (List ToldD × List SitD × Int × List MemD × Int × Int) := match unfrL l with
  | none => none
  | some (p, n) => if n = l.length ∧ (pByte (some p)).1 = 1 then nodesI (pByte (some p)).2 else none

/-! ### Where it is not good any more -/

theorem pIs_none : ∀ k, pIs k none = none
  | 0 => rfl
  | k + 1 => by
    show (pInt (pIs k none)).2 = none
    rw [pIs_none k]; rfl

theorem pText_none0 {most : Int} (h : 0 ≤ most) : pText most none = ([], none) := by
  unfold pText
  rw [pCount_none h]

theorem pNode_none : (pNode none).2 = none := by
  show pIs 8 (pText 1000 (pText 200 none).2).2 = none
  rw [pText_none0 (by decide : (0 : Int) ≤ 200)]
  show pIs 8 (pText 1000 none).2 = none
  rw [pText_none0 (by decide : (0 : Int) ≤ 1000)]
  exact pIs_none 8

theorem pNodes_none : ∀ k, (pNodes k none).2 = none
  | 0 => rfl
  | k + 1 => by
    show (pNode (pNodes k none).2).2 = none
    rw [pNodes_none k, pNode_none]

/-- A later state out of a former one. -/
theorem pNodes_add (s : RdSt) (j : Nat) : ∀ k, (pNodes (j + k) s).2 = (pNodes k (pNodes j s).2).2
  | 0 => rfl
  | k + 1 => by
    show (pNode (pNodes (j + k) s).2).2 = (pNode (pNodes k (pNodes j s).2).2).2
    rw [pNodes_add s j k]

theorem pNodes_bad {s : RdSt} {j n : Nat} (h : (pNodes j s).2 = none) (hj : j ≤ n) : (pNodes n s).2 = none := by
  rw [show n = j + (n - j) by omega, pNodes_add, h, pNodes_none]

theorem pSits_none : ∀ k, (pSits k none).2 = none
  | 0 => rfl
  | k + 1 => by
    show pIs 3 (pSits k none).2 = none
    rw [pSits_none k, pIs_none]

theorem pSits_add (s : RdSt) (j : Nat) : ∀ k, (pSits (j + k) s).2 = (pSits k (pSits j s).2).2
  | 0 => rfl
  | k + 1 => by
    show pIs 3 (pSits (j + k) s).2 = pIs 3 (pSits k (pSits j s).2).2
    rw [pSits_add s j k]

theorem pSits_bad {s : RdSt} {j n : Nat} (h : (pSits j s).2 = none) (hj : j ≤ n) : (pSits n s).2 = none := by
  rw [show n = j + (n - j) by omega, pSits_add, h, pSits_none]

theorem tailI_none (ns : List ToldD) (ss : List SitD) : tailI ns ss none = none := by
  unfold tailI
  rw [pText_none0 (by decide : (0 : Int) ≤ 1048576), pIs_none]
  split
  · rfl
  · rw [if_neg (by rintro ⟨h, _⟩; cases h)]

theorem sitsI_none (ns : List ToldD) : sitsI ns none = none := by
  unfold sitsI
  rw [pCount_none (by decide : (0 : Int) ≤ 200)]
  exact tailI_none _ _

theorem sitsI_bad (ns : List ToldD) {s : RdSt} {j : Nat} (h : (pSits j (pCount 200 s).2).2 = none) (hj : j ≤ (pCount 200 s).1.toNat) : sitsI ns s = none := by
  unfold sitsI
  rw [pSits_bad h hj]
  exact tailI_none _ _

theorem nodesI_bad {s : RdSt} {j : Nat} (h : (pNodes j (pCount 500 s).2).2 = none) (hj : j ≤ (pCount 500 s).1.toNat) : nodesI s = none := by
  unfold nodesI
  rw [pNodes_bad h hj]
  exact sitsI_none _

theorem pNodes_len (s : RdSt) : ∀ k, (pNodes k s).1.length = k
  | 0 => rfl
  | k + 1 => by
    show ((pNodes k s).1 ++ [_]).length = k + 1
    rw [List.length_append, pNodes_len s k]; rfl

theorem pSits_len (s : RdSt) : ∀ k, (pSits k s).1.length = k
  | 0 => rfl
  | k + 1 => by
    show ((pSits k s).1 ++ [_]).length = k + 1
    rw [List.length_append, pSits_len s k]; rfl

theorem pIs_stlen (s : RdSt) : ∀ k, stLen (pIs k s) ≤ stLen s
  | 0 => Nat.le_refl _
  | k + 1 => Nat.le_trans (pInt_len _) (pIs_stlen s k)

theorem pNode_stlen (s : RdSt) : stLen (pNode s).2 ≤ stLen s := by
  have h1 := (pText_len 200 s).1
  have h2 := (pText_len 1000 (pText 200 s).2).1
  have h3 := pIs_stlen (pText 1000 (pText 200 s).2).2 8
  show stLen (pIs 8 (pText 1000 (pText 200 s).2).2) ≤ _
  omega

theorem pNodes_stlen (s : RdSt) : ∀ k, stLen (pNodes k s).2 ≤ stLen s
  | 0 => Nat.le_refl _
  | k + 1 => Nat.le_trans (pNode_stlen _) (pNodes_stlen s k)

theorem pSits_stlen (s : RdSt) : ∀ k, stLen (pSits k s).2 ≤ stLen s
  | 0 => Nat.le_refl _
  | k + 1 => Nat.le_trans (pIs_stlen _ 3) (pSits_stlen s k)

theorem pText_short {most : Int} (hm : 0 ≤ most) (s : RdSt) : ((pText most s).1.length : Int) ≤ most := by
  have h := pCount_in (s := s) hm
  unfold pText
  split
  · exact hm
  · split
    · show (((List.take _ _).length : Nat) : Int) ≤ most
      rw [List.length_take]
      omega
    · exact hm

theorem pNodes_short (s : RdSt) : ∀ k, ∀ x ∈ (pNodes k s).1, x.path.data.toList.length ≤ 200
  | 0, x, hx => by cases hx
  | k + 1, x, hx => by
    rcases List.mem_append.1 hx with hx | hx
    · exact pNodes_short s k x hx
    · rw [List.mem_singleton] at hx
      subst hx
      have := pText_short (most := 200) (by decide) (pNodes k s).2
      show (pText 200 (pNodes k s).2).1.length ≤ 200
      omega

theorem pI_in (k : Nat) (s : RdSt) : I64 (pI k s) := pInt_in _

end
end Go.Proofs.YthbaimobihmhiaaGreatDoor

namespace Go.Proofs.YthbaimobihmhiaaGreatDoor
open Go.Sx Go.RowKit
noncomputable section
open Classical

/-- What is new behind A1, but for the row's own block. -/
def offA (A1 A : Arena) (g : Option Nat) : Arena := Arena.of fun j => if A1.blk j = none ∧ g ≠ some j then A.blk j else none

theorem offA_blk {A1 A : Arena} {g : Option Nat} {j : Nat} {o : Obj} (h : (offA A1 A g).blk j = some o) : A1.blk j = none ∧ g ≠ some j ∧ A.blk j = some o := by
  have h : (if A1.blk j = none ∧ g ≠ some j then A.blk j else none) = some o := h
  split at h
  · rename_i h1
    exact ⟨h1.1, h1.2, h⟩
  · cases h

theorem offA_mk {A1 A : Arena} {g : Option Nat} {j : Nat} {o : Obj} (h1 : A1.blk j = none) (h2 : g ≠ some j) (h3 : A.blk j = some o) : (offA A1 A g).blk j = some o := by
  show (if A1.blk j = none ∧ g ≠ some j then A.blk j else none) = some o
  rw [if_pos ⟨h1, h2⟩]
  exact h3

theorem offA_sub (A1 A : Arena) (g : Option Nat) : (offA A1 A g).Sub A := fun _ _ h => (offA_blk h).2.2

/-- A row of nodes that is new behind A1. -/
structure NodeRow (A1 A : Arena) (L : LsD) (xs : List (ToldD × Value)) : Prop where
  row : LsR A 12 46 L (xs.flatMap nodeC)
  new : ∀ g, L.g = some g → A1.blk g = none
  dat : ∀ x ∈ xs, SlB (offA A1 A L.g) x.2 x.1.data

theorem NodeRow.nil (A1 A : Arena) : NodeRow A1 A ⟨.slice none 0 0, 0, 0, none⟩ [] := ⟨.inl ⟨rfl, rfl, rfl, rfl, none, rfl⟩, fun _ h => (by cases h), fun _ h => (by cases h)⟩

theorem NodeRow.keep {A1 A A' : Arena} {L : LsD} {xs : List (ToldD × Value)} {r : Nat} (h : NodeRow A1 A L xs) (hk : KeepR A A' r) (hr : A1.blk r ≠ none) : NodeRow A1 A' L xs :=
  ⟨h.row.keep fun g o hg ho => hk g o ho fun e => hr (by rw [← e]; exact h.new g hg), h.new, fun x hx => (h.dat x hx).sub fun j o hj => by
    obtain ⟨h1, h2, h3⟩ := offA_blk hj
    exact offA_mk h1 h2 (hk j o h3 fun e => hr (by rw [← e]; exact h1))⟩

theorem dat_new {A1 A A' : Arena} {g : Option Nat} {v : Value} {d : List UInt8} (h : SlB (A'.minus A) v d) (h1 : ∀ j, A.blk j = none → A1.blk j = none) (h2 : ∀ j, g = some j → ∃ o, A.blk j = some o) : SlB (offA A1 A' g) v d :=
  h.sub fun j o hj => by
    obtain ⟨k1, k2⟩ := minus_blk hj
    refine offA_mk (h1 j k1) (fun e => ?_) k2
    obtain ⟨o', ho⟩ := h2 j e
    rw [k1] at ho; cases ho

theorem dat_keep {A1 A A' : Arena} {g : Option Nat} {v : Value} {d : List UInt8} {r : Nat} (h : SlB (offA A1 A g) v d) (hk : KeepR A A' r) (hr : A1.blk r ≠ none) : SlB (offA A1 A' g) v d :=
  h.sub fun j o hj => by
    obtain ⟨k1, k2, k3⟩ := offA_blk hj
    exact offA_mk k1 k2 (hk j o k3 fun e => hr (by rw [← e]; exact k1))

/-- One more. -/
theorem NodeRow.more {A1 A A' : Arena} {L L' : LsD} {xs : List (ToldD × Value)} {x : ToldD × Value} (h : NodeRow A1 A L xs) (hx : SlB (offA A1 A L.g) x.2 x.1.data) (h1 : ∀ j, A.blk j = none → A1.blk j = none)
    (q3 : LsR A' 12 46 L' (xs.flatMap nodeC ++ nodeC x)) (q4 : ∀ g, L'.g = some g → L.g = some g ∨ A.blk g = none) (q5 : ∀ k o, A.blk k = some o → L.g ≠ some k → A'.blk k = some o) : NodeRow A1 A' L' (xs ++ [x]) := by
  have hup : ∀ j o, (offA A1 A L.g).blk j = some o → (offA A1 A' L'.g).blk j = some o := fun j o hj => by
    obtain ⟨k1, k2, k3⟩ := offA_blk hj
    refine offA_mk k1 (fun e => ?_) (q5 j o k3 k2)
    rcases q4 j e with h | h
    · exact k2 h
    · rw [k3] at h; cases h
  refine ⟨?_, fun g hg => (q4 g hg).elim (h.new g) (h1 g), fun y hy => ?_⟩
  · rw [List.flatMap_append]
    simpa using q3
  · rcases List.mem_append.1 hy with hy | hy
    · exact (h.dat y hy).sub hup
    · rw [List.mem_singleton] at hy
      subst hy
      exact hx.sub hup

/-- As the rest reads it. -/
theorem NodeRow.nodes {A0 A1 A : Arena} {L : LsD} {xs : List (ToldD × Value)} (h : NodeRow A1 A L xs) (h0 : ∀ j, A1.blk j = none → A0.blk j = none) : NodesR (A.minus A0) L.v xs := by
  refine ⟨?_, fun x hx => (h.dat x hx).sub fun j o hj => ?_⟩
  · have hn := h.row.len
    rcases h.row with ⟨h1, h2, h3, h4, base, h5⟩ | ⟨g, h1, h2, h3, h4⟩
    · have hx0 : xs = [] := by
        cases xs with
        | nil => rfl
        | cons x xs => rw [List.flatMap_cons] at h4; cases h4
      subst hx0
      rw [h5]
      exact Sl.zero _ _ (fun _ => rfl) fun _ _ h => absurd h (Nat.lt_irrefl _)
    · have hl : L.n = xs.length := by
        have := flat_len nodeC 12 (fun _ => rfl) xs
        omega
      rw [h2]
      have h9 : Sl (A.minus A0) 12 L.n (.slice (some ⟨g, 0, none⟩) L.n L.c) (xs.flatMap nodeC) := Sl.row h4.le (rd_minus h4.rd (h0 g (h.new g h1)))
      rw [hl] at h9 ⊢
      exact h9
  · obtain ⟨k1, k2, k3⟩ := offA_blk hj
    exact minus_mk (h0 j k1) k3

end
end Go.Proofs.YthbaimobihmhiaaGreatDoor

namespace Go.Proofs.YthbaimobihmhiaaGreatDoor
open Go.Sx Go.RowKit
noncomputable section
open Classical

def goodF : RdSt → Bool := fun st => st.isSome

structure RxG where
  r : Nat
  st : RdSt
  B : Arena

def pTake (n : Int) : RdSt → List UInt8 × RdSt
  | none => ([], none)
  | some l => if 0 ≤ n ∧ n ≤ l.length then (l.take n.toNat, some (l.drop n.toNat)) else ([], none)

def xFailS : FSpec := ⟨RxG, fun g vs A => vs = [.pointer (some ⟨g.r, 0, none⟩)] ∧ RdG goodF g.B A g.r g.st, fun g _ A v A' => v = .tuple #[] ∧ KeepR A A' g.r ∧ RdG goodF g.B A' g.r none⟩

set_option maxRecDepth 100000 in
set_option maxHeartbeats 0 in
theorem xFail_ok : FOk Tryz.prog 103 xFailS := by
  refine fok_v mixed fun ⟨r, st, Dr⟩ vs A hp => ?_
  obtain ⟨rfl, hR⟩ : vs = [.pointer (some ⟨r, 0, none⟩)] ∧ RdG goodF Dr A r st := hp
  refine ⟨noC, noL, 60, noC_sound _, noL_sound _, fun blk os out tape D hD => ?_⟩
  obtain ⟨v, htop, hDs, hDr, hSl, hnil⟩ := hR
  conv => lhs; whnf
  refine (hD _).2 ⟨htop.room (by show 1 + 1 ≤ 2; omega), fun A1 hP1 => ?_⟩
  have hP1 : A.Put A1 r 1 [.bool false] := hP1
  have t1 : CellsAt A1 r [v, .bool false] := htop.put hP1 (by show 1 + 1 ≤ 2; omega)
  conv => lhs; whnf
  refine (hD _).2 ⟨t1.room (by show 0 + 1 ≤ 2; omega), fun A2 hP2 => ?_⟩
  have hP2 : A1.Put A2 r 0 [.slice none 0 0] := hP2
  have t2 : CellsAt A2 r [.slice none 0 0, .bool false] := t1.put hP2 (by show 0 + 1 ≤ 2; omega)
  have hend : xFailS.post ⟨r, st, Dr⟩ [] A (.tuple #[]) A2 := ⟨rfl, (KeepR.put hP1).trans (KeepR.put hP2), _, t2, hP2.sub (hP1.sub hDs hDr) hDr, hDr, Sl.nil _ _, fun _ => rfl⟩
  conv => lhs; whnf
  repeat (first | refine go_D hD rfl ?_
          conv => lhs; whnf)
  exact (hD _).2 hend

def xTakeS : FSpec := ⟨RxG × Int, fun g vs A => vs = [.pointer (some ⟨g.1.r, 0, none⟩), .int .i64 g.2] ∧ RdG goodF g.1.B A g.1.r g.1.st ∧ stLen g.1.st ≤ 900000000,
  fun g _ A v A' => Sl g.1.B 1 (pTake g.2 g.1.st).1.length v ((pTake g.2 g.1.st).1.map bv) ∧ KeepR A A' g.1.r ∧ RdG goodF g.1.B A' g.1.r (pTake g.2 g.1.st).2⟩

set_option maxRecDepth 100000 in
set_option maxHeartbeats 0 in
theorem xTake_ok : FOk Tryz.prog 102 xTakeS := by
  refine fok_v mixed fun ⟨⟨r, st, Dr⟩, n⟩ vs A hp => ?_
  obtain ⟨rfl, hR, hlen⟩ : vs = [.pointer (some ⟨r, 0, none⟩), .int .i64 n] ∧ RdG goodF Dr A r st ∧ stLen st ≤ 900000000 := hp
  have hC : CTSound Tryz.prog (lookC [specE 103 xFailS] noC) := lookC_sound (noC_sound _) (fun x hx => by
    simp only [List.mem_singleton] at hx
    subst hx
    exact specE_ok xFail_ok)
  refine ⟨_, noL, 60, hC, noL_sound _, fun blk os out tape D hD => ?_⟩
  have hR0 := hR
  obtain ⟨v, htop, hDs, hDr, hSl, hnil⟩ := hR0
  cases st with
  | none =>
    have r1 : A.rd r 1 1 = some [.bool false] := htop.rd (o := 1) (n := 1) (by show 1 + 1 ≤ 2; omega)
    have hend : xTakeS.post (⟨r, none, Dr⟩, n) [] A (.slice none 0 0) A := ⟨Sl.nil _ _, KeepR.refl _ _, hR⟩
    conv => lhs; whnf
    repeat (first | refine go_rd r1 ?_ | refine go_D hD rfl ?_
            conv => lhs; whnf)
    exact (hD _).2 hend
  | some l =>
    have hlen : l.length ≤ 900000000 := hlen
    have hSl : Sl Dr 1 l.length v (l.map bv) := hSl
    have hSl0 := hSl
    obtain ⟨ao, c, rfl, hc, -, ha1, ha2, ha3⟩ := hSl
    have htop : CellsAt A r [.slice ao l.length c, .bool true] := htop
    have r0 : A.rd r 0 1 = some [.slice ao l.length c] := htop.rd (o := 0) (n := 1) (by show 0 + 1 ≤ 2; omega)
    have r1 : A.rd r 1 1 = some [.bool true] := htop.rd (o := 1) (n := 1) (by show 1 + 1 ≤ 2; omega)
    have hbad : ¬ (0 ≤ n ∧ n ≤ l.length) → ∀ A1, KeepR A A1 r → RdG goodF Dr A1 r none → xTakeS.post (⟨r, some l, Dr⟩, n) [] A (.slice none 0 0) A1 := fun h A1 h1 h2 => by
      have e : pTake n (some l) = ([], none) := by
        show (if 0 ≤ n ∧ n ≤ (l.length : Int) then (l.take n.toNat, some (l.drop n.toNat)) else ([], none)) = _
        rw [if_neg h]
      show Sl Dr 1 (pTake n (some l)).1.length _ ((pTake n (some l)).1.map bv) ∧ KeepR A A1 r ∧ RdG goodF Dr A1 r (pTake n (some l)).2
      rw [e]
      exact ⟨Sl.nil _ _, h1, h2⟩
    conv => lhs; whnf
    repeat (first | refine go_rd r1 ?_ | refine go_D hD rfl ?_
            conv => lhs; whnf)
    refine split_dec (fun h0 => ?_) (fun h0 => ?_)
    · conv => lhs; whnf
      refine (hD _).2 ⟨(⟨r, some l, Dr⟩ : RxG), ⟨rfl, hR⟩, fun v A1 hq => ?_⟩
      obtain ⟨hv, k1, k2⟩ : v = .tuple #[] ∧ KeepR A A1 r ∧ RdG goodF Dr A1 r none := hq
      subst hv
      have hend := hbad (fun h => by omega) A1 k1 k2
      conv => lhs; whnf
      repeat (first | refine go_D hD rfl ?_
              conv => lhs; whnf)
      exact (hD _).2 hend
    conv => lhs; whnf
    repeat (first | refine go_rd r0 ?_ | refine go_D hD rfl ?_
            conv => lhs; whnf)
    refine split_dec (fun h1 => ?_) (fun h1 => ?_)
    · conv => lhs; whnf
      refine (hD _).2 ⟨(⟨r, some l, Dr⟩ : RxG), ⟨rfl, hR⟩, fun v A1 hq => ?_⟩
      obtain ⟨hv, k1, k2⟩ : v = .tuple #[] ∧ KeepR A A1 r ∧ RdG goodF Dr A1 r none := hq
      subst hv
      have hend := hbad (fun h => by omega) A1 k1 k2
      conv => lhs; whnf
      repeat (first | refine go_D hD rfl ?_
              conv => lhs; whnf)
      exact (hD _).2 hend
    obtain ⟨k, rfl⟩ : ∃ k : Nat, n = k := ⟨n.toNat, by omega⟩
    have hk : k ≤ l.length := by
      have h1 : ¬ (l.length : Int) < (k : Int) := h1
      omega
    have e : pTake (k : Int) (some l) = (l.take k, some (l.drop k)) := by
      show (if 0 ≤ (k : Int) ∧ (k : Int) ≤ (l.length : Int) then (l.take k, some (l.drop k)) else ([], none)) = _
      rw [if_pos (by omega)]
    have ht := Sl.tail hSl0 hk
    obtain ⟨-, -, hT, hpos, hzero⟩ := ht
    have hfin : ∀ (ao1 ao2 : Option Addr) (A1 : Arena), A.Put A1 r 0 [.slice ao2 (l.length - k) (c - k)] → Sl Dr 1 k (.slice ao1 k k) ((l.take k).map bv) → Sl Dr 1 (l.length - k) (.slice ao2 (l.length - k) (c - k)) ((l.drop k).map bv) → xTakeS.post (⟨r, some l, Dr⟩, (k : Int)) [] A (.slice ao1 k k) A1 := fun ao1 ao2 A1 hP h1 h2 => by
      have t1 : CellsAt A1 r [.slice ao2 (l.length - k) (c - k), .bool true] := htop.put hP (by show 0 + 1 ≤ 2; omega)
      show Sl Dr 1 (pTake (k : Int) (some l)).1.length _ ((pTake (k : Int) (some l)).1.map bv) ∧ KeepR A A1 r ∧ RdG goodF Dr A1 r (pTake (k : Int) (some l)).2
      rw [e]
      refine ⟨?_, KeepR.put hP, _, t1, hP.sub hDs hDr, hDr, ?_, fun h => (by cases h)⟩
      · show Sl Dr 1 (l.take k).length _ _
        rw [List.length_take, Nat.min_eq_left hk]
        exact h1
      · show Sl Dr 1 (l.drop k).length _ _
        rw [List.length_drop]
        exact h2
    by_cases hc0 : c = 0
    · have hl0 := hzero hc0
      subst hl0
      have hk0 : k = 0 := by
        have : ([] : List UInt8).length = 0 := rfl
        omega
      subst hk0
      subst hc0
      have hnil0 : ∀ ao', (ao' = none → (0 : Nat) = 0) → Sl Dr 1 0 (.slice ao' 0 0) ([] : List Value) := fun ao' h => Sl.zero _ _ h fun _ _ h => absurd h (Nat.lt_irrefl _)
      rcases ao with _ | ⟨g, o, _ | sp⟩
      all_goals
        conv => lhs; whnf
        repeat (first | refine go_rd r0 ?_ | refine go_D hD rfl ?_
                conv => lhs; whnf)
        refine (hD _).2 ⟨htop.room (by show 0 + 1 ≤ 2; omega), fun A1 hP => ?_⟩
        have hend := fun (ao1 ao2 : Option Addr) (hP : A.Put A1 r 0 [.slice ao2 (([] : List UInt8).length - 0) (0 - 0)]) => hfin ao1 ao2 A1 hP (hnil0 ao1 fun _ => rfl) (hnil0 ao2 fun _ => rfl)
        conv => lhs; whnf
        repeat (first | refine go_D hD rfl ?_
                conv => lhs; whnf)
        exact (hD _).2 (hend _ _ hP)
    · obtain ⟨g, o, rfl, hD2⟩ := hpos (by omega)
      have hb1 : ((decide ((0 : Int) ≤ 0) && decide ((0 : Int) ≤ (k : Int))) && decide ((k : Int) ≤ (k : Int)) && decide ((k : Int) ≤ (c : Int))) = true := by
        simp only [Bool.and_eq_true, decide_eq_true_iff]
        omega
      have hb2 : ((decide ((0 : Int) ≤ (k : Int)) && decide ((k : Int) ≤ (l.length : Int))) && (true || decide ((l.length : Int) ≤ (c : Int)))) = true := by
        simp only [Bool.and_eq_true, Bool.or_eq_true, decide_eq_true_iff]
        omega
      conv => lhs; whnf
      repeat (first | refine go_rd r0 ?_ | refine go_D hD rfl ?_
              conv => lhs; whnf)
      refine go_b hb1 ?_
      conv => lhs; whnf
      repeat (first | refine go_rd r0 ?_ | refine go_D hD rfl ?_
              conv => lhs; whnf)
      refine go_b hb2 ?_
      conv => lhs; whnf
      repeat (first | refine go_rd r0 ?_ | refine go_D hD rfl ?_
              conv => lhs; whnf)
      refine (hD _).2 ⟨htop.room (by show 0 + 1 ≤ 2; omega), fun A1 hP => ?_⟩
      have hP : A.Put A1 r 0 [.slice (some ⟨g, o + (bif c.beq k then 0 else k * 1), none⟩) (l.length - k) (c - k)] := hP
      have e8 : (bif k.beq (Int.toNat 0) then 0 else Int.toNat 0 * 1) = 0 := by cases k.beq (Int.toNat 0) <;> rfl
      have h2 := hD2 (some ⟨g, o + (bif c.beq k then 0 else k * 1), none⟩) (fun h => by rw [nbeq_ne (show c ≠ k by omega)]; show some (⟨g, o + k * 1, none⟩ : Addr) = _; rw [Nat.mul_one]) (fun _ => ⟨_, _, rfl⟩)
      have hend := hfin (some ⟨g, o + (bif k.beq (Int.toNat 0) then 0 else Int.toNat 0 * 1), none⟩) _ A1 hP (by rw [e8]; exact hT) h2
      conv => lhs; whnf
      repeat (first | refine go_D hD rfl ?_
              conv => lhs; whnf)
      exact (hD _).2 hend

end
end Go.Proofs.YthbaimobihmhiaaGreatDoor
