/-
  Contracts: strings.Split at a slash.
  Contracts: strings.Join with a slash, by the kit's law of it over any program.
  Contracts: the document's paths: a part.
  Contracts: the document's paths: parts, check, what stands over one, its last part.
  Contracts: path.Check.
  Contracts: bell: New, may, Add, Count.
  Contracts: the document's tower: New, may, less, Count, drop, Drop.
  Rows of rows: what lies at the front of one, and behind.
  Contracts: the document's tower: Add.
  What contracts of slices.SortFunc at structs want.
  Contracts: bell: how rings are compared.
  Contracts: bell: the closure that compares two rings.
-/
import Derived.Test.YtmhnhkigbfdapaaGreatDoorG07
import Derived.Shelf.Strings.OnBuilder
import Derived.Shelf.SlSortCmp.NoneTotal
import Derived.StillTailTactics
namespace Go.Proofs.YtmhnhkigbfdapaaGreatDoor
open Go.Sx Go.RowKit
noncomputable section
open Classical

theorem wrapI2 (k : Nat) (h : k < 1000000) : IntKind.i64.wrap ((k : Int) + 1) = ((k + 1 : Nat) : Int) := by
  rw [Sx.wrap_i64 (by omega) (by omega)]; rfl

def ctCnt : CT := fun args h K => match args with
  | [.v (.string s), .v (.int .u8 c)] => K (.v (.int .i64 (Lib.countByte s.data.toList c.toNat.toUInt8 : Nat))) h
  | [.str l, .v (.int .u8 c)] => K (.v (.int .i64 (Lib.countByte l c.toNat.toUInt8 : Nat))) h
  | _ => false

set_option maxRecDepth 100000 in
theorem cnt_sound : (⟨124, ctCnt⟩ : CEnt).Ok Tryz.prog := fun args h0 K hk ρ w H hargs => by
  have key : ∀ (s : ByteArray) (c : Int), (callFunc 124 #[.string s, .int .u8 c]).run Tryz.prog w = .ok (.value (.int .i64 (Lib.countByte s.data.toList c.toNat.toUInt8 : Nat))) w := fun s c => by
    rw [run_callFunc_extern Tryz.func124 (by kernel_rfl) (by kernel_rfl) (by kernel_rfl) (e := Extern.BytealgCount.count) (by kernel_rfl), Lib.run_countString]
    rfl
  change ctCnt args h0 K = true at hk
  unfold ctCnt at hk
  split at hk
  · rename_i s c
    exact goes_of_entry (key s c) H hk rfl trivial
  · rename_i l c
    exact goes_of_entry (key ⟨l.toArray⟩ c) H hk rfl trivial
  · exact absurd hk Bool.false_ne_true

def indexS : FSpec := ⟨ByteArray, fun s vs _ => vs = [.string s, .string ⟨#[47]⟩], fun s _ A v A' => A' = A ∧ v = .int .i64 (Lib.index s.data.toList [47])⟩

theorem index_ok : FOk Tryz.prog 110 indexS := by
  intro s vs A w hA hp
  obtain rfl : vs = [.string s, .string ⟨#[47]⟩] := hp
  refine goes_of_calls Tryz.func110 ⟨by kernel_rfl, by kernel_rfl⟩ ?_
  refine (idx2 s w).mono fun e w' ⟨he, hw⟩ => ?_
  subst hw
  exact ⟨_, he, A, ⟨rfl, rfl⟩, rfl, rfl, rfl, fun _ _ _ => rfl, hA, fun k o ho => .inl ⟨o, ho⟩⟩

theorem bnd_to {x : Int} {c k : Nat} (hx : x = k) (hk : k ≤ c) : ((decide ((0 : Int) ≤ 0) && decide ((0 : Int) ≤ x)) && (false || decide (x ≤ (c : Int)))) = true := by
  subst hx
  exact Bool.and_eq_true_iff.2 ⟨Bool.and_eq_true_iff.2 ⟨decide_eq_true (by omega), decide_eq_true (by omega)⟩, Bool.or_eq_true_iff.2 (.inr (decide_eq_true (by omega)))⟩

theorem bnd_from {x : Int} {c k : Nat} {t : Bool} (hx : x = k) (hk : k ≤ c) : ((decide ((0 : Int) ≤ x) && decide (x ≤ (c : Int))) && (true || t)) = true := by
  subst hx
  exact Bool.and_eq_true_iff.2 ⟨Bool.and_eq_true_iff.2 ⟨decide_eq_true (by omega), decide_eq_true (by omega)⟩, rfl⟩

structure SpG where
  i : Nat
  A : Arena
  rest : List UInt8
  parts : List (List UInt8)

structure SpI (A1 : Arena) (g N : Nat) (l : List UInt8) (s : SpG) : Prop where
  num : s.parts.length = s.i
  le : s.i ≤ N - 1
  split : splitL l = s.parts ++ splitL s.rest
  row : ∃ c, s.A.blk g = some (.cells c 9 (0, 0)) ∧ c.size = N ∧ c.toList.take s.i = s.parts.map strV
  oth : ∀ k, k ≠ g → s.A.blk k = A1.blk k
  len : s.rest.length ≤ l.length

def spInv (A1 : Arena) (g N : Nat) (l : List UInt8) : LInv := { γ := SpG, G := SpI A1 g N l, keepS := [1, 2], keepB := [], sl := fun s => [(0, .str s.rest), (3, .v (.int .i64 (N - 1 : Nat))), (9, .v (.slice (some ⟨g, 0, none⟩) N N)), (10, .v (.int .i64 s.i))], bl := fun _ => [], ar := fun s => s.A, mu := fun s => N - s.i }

def genS : FSpec := ⟨List UInt8, fun l vs _ => vs = [strV l, strV [47], .int .i64 0, .int .i64 (-1)] ∧ l.length ≤ 1000,
  fun l _ A v A' => A.Sub A' ∧ Sl (A'.minus A) 1 (splitL l).length v ((splitL l).map strV)⟩

set_option maxRecDepth 100000 in
set_option maxHeartbeats 0 in
theorem gen_ok : FOk Tryz.prog 108 genS := by
  refine fok_of_run mixed fun (l : List UInt8) vs A hp => ?_
  obtain ⟨rfl, hl⟩ : vs = [strV l, strV [47], .int .i64 0, .int .i64 (-1)] ∧ l.length ≤ 1000 := hp
  have hC : CTSound Tryz.prog (lookC [specE 110 indexS, ⟨124, ctCnt⟩] noC) := lookC_sound (noC_sound _) (fun x hx => by
    simp only [List.mem_cons, List.not_mem_nil, or_false] at hx
    rcases hx with rfl | rfl
    · exact specE_ok index_ok
    · exact cnt_sound)
  refine ⟨_, tabO Tryz.prog _ noL 60 [(108, 0)], 60, [.str l, .str [47], .v (.int .i64 0), .v (.int .i64 (-1))], hC, tabO_sound mixed hC (noL_sound _) _ _, rfl, fun ρ x hx => ?_, fun blk os out tape D hD => ?_⟩
  · simp only [List.mem_cons, List.not_mem_nil, or_false] at hx
    rcases hx with rfl | rfl | rfl | rfl <;> trivial
  conv => lhs; whnf
  have hcnt := splitL_len l
  have hcl : l.count 47 ≤ l.length := List.count_le_length
  have w1 : IntKind.i64.wrap (((Lib.countByte l (((([47] : List UInt8).getD (Int.toNat 0) 0).toNat : Int)).toNat.toUInt8 : Nat) : Int) + 1) = (((splitL l).length : Nat) : Int) := by
    rw [hcnt]; exact wrapI2 (l.count 47) (by omega)
  have w2 : IntKind.i64.wrap ((l.length : Int) + 1) = ((l.length + 1 : Nat) : Int) := wrapI2 l.length (by omega)
  have hM : (bif false then bif decide (IntKind.i64.wrap (((Lib.countByte l (((([47] : List UInt8).getD (Int.toNat 0) 0).toNat : Int)).toNat.toUInt8 : Nat) : Int) + 1) < IntKind.i64.wrap ((l.length : Int) + 1)) then IntKind.i64.wrap ((l.length : Int) + 1) else IntKind.i64.wrap (((Lib.countByte l (((([47] : List UInt8).getD (Int.toNat 0) 0).toNat : Int)).toNat.toUInt8 : Nat) : Int) + 1)
      else bif decide (IntKind.i64.wrap ((l.length : Int) + 1) < IntKind.i64.wrap (((Lib.countByte l (((([47] : List UInt8).getD (Int.toNat 0) 0).toNat : Int)).toNat.toUInt8 : Nat) : Int) + 1)) then IntKind.i64.wrap ((l.length : Int) + 1) else IntKind.i64.wrap (((Lib.countByte l (((([47] : List UInt8).getD (Int.toNat 0) 0).toNat : Int)).toNat.toUInt8 : Nat) : Int) + 1)) = (((splitL l).length : Nat) : Int) := by
    rw [w1, w2, decide_eq_false (show ¬ ((l.length + 1 : Nat) : Int) < (((splitL l).length : Nat) : Int) by omega)]; rfl
  have hMn := congrArg Int.toNat hM
  rw [Int.toNat_natCast] at hMn
  refine (hD _).2 ⟨Int.le_trans (Int.natCast_nonneg _) (Int.le_of_eq hM.symm), Int.le_refl _, Int.le_trans (Int.le_of_eq hM) (by omega), ?_, rfl, fun g A1 c hc hN => ?_⟩
  · refine Nat.le_trans (Nat.mul_le_mul_left 16 (Nat.le_of_eq hMn)) ?_
    omega
  have hN : A.New A1 g c 9 := hN
  conv => lhs; whnf
  obtain ⟨N, hN0⟩ : ∃ N, N = (splitL l).length := ⟨_, rfl⟩
  rw [← hN0] at hM hMn hcnt
  have hc : c.toList = (List.replicate N [Value.string ⟨#[]⟩]).flatten := hc.trans (congrArg (fun z => (List.replicate z [Value.string ⟨#[]⟩]).flatten) hMn)
  have hcs : c.size = N := by
    have h := congrArg List.length hc
    simpa using h
  have hn1 : IntKind.i64.wrap ((N : Int) - 1) = ((N - 1 : Nat) : Int) := by
    rw [Sx.wrap_i64 (by omega) (by omega)]; omega
  have hI0 : SpI A1 g N l ⟨0, A1, l, []⟩ := ⟨rfl, by show 0 ≤ N - 1; omega, rfl, ⟨c, hN.at_, hcs, rfl⟩, fun _ _ => rfl, Nat.le_refl _⟩
  refine (hD _).2 ⟨spInv A1 g N l, ⟨(⟨0, A1, l, []⟩ : SpG), hI0, ⟨rfl, congrArg (fun z : Int => some (SV.v (.int .i64 z))) ((congrArg (fun z : Int => IntKind.i64.wrap (z - 1)) hM).trans hn1), congrArg (fun z : Nat => some (SV.v (.slice (some ⟨g, 0, none⟩) z z))) hMn, rfl, trivial⟩, trivial, rfl⟩, fun (s : SpG) hG => ⟨⟨trivial, trivial, trivial, trivial, trivial⟩, trivial, ?_⟩⟩
  obtain ⟨i, Ai, rest, parts⟩ := s
  obtain ⟨hpl, hi, hsp, ⟨ci, hci, hcis, hcit⟩, hoth, hrl⟩ : SpI A1 g N l ⟨i, Ai, rest, parts⟩ := hG
  dsimp only at hpl hi hsp hci hcis hcit hoth hrl
  have hroom : ∀ n, i + n ≤ N → Ai.Room g (0 + i * 1) n := fun n hn => ⟨ci, _, _, hci, by omega, .inl rfl⟩
  conv => lhs; whnf
  refine split_dec (fun hlt => ?_) (fun hlt => ?_) <;> (conv => lhs; whnf)
  · have hi1 : i < N - 1 := by
      have hlt : (i : Int) < ((N - 1 : Nat) : Int) := hlt
      omega
    have h2 : 2 ≤ (splitL rest).length := by
      have := congrArg List.length hsp
      rw [List.length_append] at this
      omega
    obtain ⟨a, b, hab, hix, hsr⟩ := splitL_step h2
    have hal : rest.length = a.length + 1 + b.length := by rw [hab]; simp; omega
    refine (hD _).2 ⟨(⟨rest.toArray⟩ : ByteArray), rfl, fun v A9 hq => ?_⟩
    have hq : A9 = Ai ∧ v = .int .i64 (Lib.index rest [47]) := hq
    have h9 := hq.1.symm
    have hv := hq.2
    rw [hix] at hv
    subst h9
    subst hv
    conv => lhs; whnf
    have hx1 : IntKind.i64.wrap ((a.length : Int) + 0) = ((a.length : Nat) : Int) := by
      rw [Int.add_zero, Sx.wrap_i64 (by omega) (by omega)]
    have hx2 : IntKind.i64.wrap ((a.length : Int) + 1) = ((a.length + 1 : Nat) : Int) := wrapI2 a.length (by omega)
    refine go_b (bnd_to hx1 (show a.length ≤ rest.length by omega)) ?_
    conv => lhs; whnf
    have i0 : (0 : Int) ≤ (i : Int) ∧ (i : Int) < (N : Int) := by omega
    refine go_in i0 ?_
    conv => lhs; whnf
    refine (hD _).2 ⟨hroom 1 (by omega), fun A7 hP => ?_⟩
    have hP : Ai.Put A7 g (0 + i * 1) [.string ⟨((rest.drop 0).take ((IntKind.i64.wrap ((a.length : Int) + 0)).toNat - 0)).toArray⟩] := hP
    have hta : (rest.drop 0).take ((IntKind.i64.wrap ((a.length : Int) + 0)).toNat - 0) = a := by
      rw [hx1, Int.toNat_natCast, Nat.sub_zero, List.drop_zero, hab, List.take_left']
      rfl
    rw [hta] at hP
    conv => lhs; whnf
    refine go_b (bnd_from hx2 (show a.length + 1 ≤ rest.length by omega)) ?_
    conv => lhs; whnf
    have hrest : (rest.drop (IntKind.i64.wrap ((a.length : Int) + 1)).toNat).take (rest.length - (IntKind.i64.wrap ((a.length : Int) + 1)).toNat) = b := by
      rw [hx2, Int.toNat_natCast, hab]
      simp
      exact List.take_of_length_le (by omega)
    have hI : SpI A1 g N l ⟨i + 1, A7, b, parts ++ [a]⟩ := by
      obtain ⟨c0, t0, fz0, c7, k1, k2, k3⟩ := hP.at_
      rw [hci] at k1
      injection k1 with k1
      injection k1 with k1 k1' k1''
      subst k1; subst k1'; subst k1''
      refine ⟨by show (parts ++ [a]).length = i + 1; rw [List.length_append, hpl]; rfl, by show i + 1 ≤ N - 1; omega, by show splitL l = (parts ++ [a]) ++ splitL b; rw [hsp, hsr]; simp, ⟨c7, k2, ?_, ?_⟩, fun k hk => (hP.other k hk).trans (hoth k hk), by show b.length ≤ l.length; omega⟩
      · rw [← Array.length_toList, k3]
        simp only [List.length_append, List.length_take, List.length_drop, Array.length_toList, List.length_singleton]
        omega
      · show c7.toList.take (i + 1) = (parts ++ [a]).map strV
        have e : 0 + i * 1 = i := by omega
        rw [k3, e, List.map_append, ← hcit, List.take_append_of_le_length (by simp; omega)]
        rw [List.take_of_length_le (by simp; omega)]
        rfl
    exact (hD _).2 ⟨(⟨i + 1, A7, b, parts ++ [a]⟩ : SpG), ⟨hI, ⟨congrArg (fun z => some (SV.str z)) hrest, rfl, rfl, inc_slot (k := i) (by omega), trivial⟩, trivial, rfl⟩, by show N - (i + 1) < N - i; omega, ⟨same1 rfl rfl, same1 rfl rfl, trivial⟩, trivial⟩
  · have hi1 : i = N - 1 := by
      have hlt : ¬ (i : Int) < ((N - 1 : Nat) : Int) := hlt
      omega
    have hone : splitL rest = [rest] := by
      have h1 : (splitL rest).length = 1 := by
        have := congrArg List.length hsp
        rw [List.length_append] at this
        omega
      rcases index_cases rest with ⟨_, h2⟩ | ⟨a, b, h1', h2, h3⟩
      · exact splitL_none rest h2
      · rw [h1', splitL_cut a b h2, List.length_cons] at h1
        have := splitL_len b
        omega
    have i0 : (0 : Int) ≤ (i : Int) ∧ (i : Int) < (N : Int) := by omega
    refine go_in i0 ?_
    conv => lhs; whnf
    refine (hD _).2 ⟨hroom 1 (by omega), fun A7 hP => ?_⟩
    have hP : Ai.Put A7 g (0 + i * 1) [.string ⟨rest.toArray⟩] := hP
    conv => lhs; whnf
    have hx3 : IntKind.i64.wrap ((i : Int) + 1) = ((N : Nat) : Int) := by
      rw [wrapI2 i (by omega)]; omega
    have hend : genS.post l [strV l, strV [47], .int .i64 0, .int .i64 (-1)] A (.slice (some ⟨g, 0 + bif Nat.beq N 0 then 0 else 0 * 1, none⟩) ((IntKind.i64.wrap ((i : Int) + 1)).toNat - 0) (N - 0)) A7 := by
      have e0 : (0 + bif Nat.beq N 0 then 0 else 0 * 1) = 0 := by cases Nat.beq N 0 <;> rfl
      rw [hx3, Int.toNat_natCast, Nat.sub_zero, e0]
      have hg := hN.none_
      refine ⟨fun k o hk => ?_, ?_⟩
      · have hkg : k ≠ g := fun e => by rw [e, hg] at hk; cases hk
        rw [hP.other k hkg, hoth k hkg]
        exact hN.sub k o hk
      · obtain ⟨c0, t0, fz0, c7, k1, k2, k3⟩ := hP.at_
        rw [hci] at k1
        injection k1 with k1
        injection k1 with k1 k1' k1''
        subst k1; subst k1'; subst k1''
        have e : 0 + i * 1 = i := by omega
        have hl7 : c7.toList = (splitL l).map strV := by
          rw [k3, e, hcit, hsp, hone, List.map_append, List.drop_eq_nil_of_le (by simp; omega), List.append_nil]
          rfl
        have hs7 : c7.size = N := by rw [← Array.length_toList, hl7, List.length_map, hN0]
        show Sl (A7.minus A) 1 (splitL l).length _ _
        rw [← hN0]
        refine Sl.row (Nat.le_refl _) (rd_minus ?_ hg)
        rw [rd_mk k2 (by omega), List.drop_zero, Nat.mul_one, ← hl7, List.take_of_length_le (by rw [Array.length_toList]; omega)]
    refine go_b (bnd_to hx3 (Nat.le_refl _)) ?_
    conv => lhs; whnf
    exact (hD _).2 hend

def splitS : FSpec := ⟨List UInt8, fun l vs _ => vs = [strV l, strV [47]] ∧ l.length ≤ 1000,
  fun l _ A v A' => A.Sub A' ∧ Sl (A'.minus A) 1 (splitL l).length v ((splitL l).map strV)⟩

set_option maxRecDepth 100000 in
set_option maxHeartbeats 0 in
theorem split_ok : FOk Tryz.prog 98 splitS := by
  refine fok_v mixed fun (l : List UInt8) vs A hp => ?_
  obtain ⟨rfl, hl⟩ : vs = [.string ⟨l.toArray⟩, .string ⟨#[47]⟩] ∧ l.length ≤ 1000 := hp
  have hC : CTSound Tryz.prog (lookC [specE 108 genS] noC) := lookC_sound (noC_sound _) (fun x hx => by
    simp only [List.mem_singleton] at hx
    subst hx; exact specE_ok gen_ok)
  refine ⟨_, noL, 60, hC, noL_sound _, fun blk os out tape D hD => ?_⟩
  conv => lhs; whnf
  refine (hD _).2 ⟨l, ⟨rfl, hl⟩, fun v A' hq => ?_⟩
  have hq : splitS.post l [.string ⟨l.toArray⟩, .string ⟨#[47]⟩] A v A' := hq
  conv => lhs; whnf
  exact (hD _).2 hq

end
end Go.Proofs.YtmhnhkigbfdapaaGreatDoor

namespace Go.Proofs.YtmhnhkigbfdapaaGreatDoor
open Go.Sx Go.RowKit Go.Shelf
noncomputable section

def joinRen : Go.Shelf.Ren := ⟨fun | 156 => 109 | 165 => 115 | 166 => 116 | 169 => 117 | 240 => 125 | 241 => 126 | 276 => 130 | 277 => 131 | n => n, fun | 31 => 129 | 9 => 9 | 3 => 3 | 4 => 4 | 0 => 0 | 20 => 20 | 72 => 164 | 76 => 167 | 70 => 162 | 37 => 29 | 75 => 166 | 127 => 174 | 164 => 177 | 5 => 5 | 80 => 169 | n => n, fun | n => n⟩
theorem joinLays : Lays.n156 Tryz.prog joinRen where
  mixed := by kernel_rfl
  f156 := Tryz.func109.trans (congrArg some (by kernel_rfl))
  f165 := Tryz.func115.trans (congrArg some (by kernel_rfl))
  f166 := Tryz.func116.trans (congrArg some (by kernel_rfl))
  f169 := Tryz.func117.trans (congrArg some (by kernel_rfl))
  f240 := Tryz.func125.trans (congrArg some (by kernel_rfl))
  f241 := Tryz.func126.trans (congrArg some (by kernel_rfl))
  f276 := Tryz.func130.trans (congrArg some (by kernel_rfl))
  f277 := Tryz.func131.trans (congrArg some (by kernel_rfl))
  t0 := Tryz.underlying0
  a0 := Tryz.isAgg0
  z0 := Tryz.sizeOf0
  v0 := Tryz.zeroValue0
  t3 := Tryz.underlying3
  a3 := Tryz.isAgg3
  z3 := Tryz.sizeOf3
  v3 := Tryz.zeroValue3
  t4 := Tryz.underlying4
  a4 := Tryz.isAgg4
  z4 := Tryz.sizeOf4
  v4 := Tryz.zeroValue4
  t9 := Tryz.underlying9
  a9 := Tryz.isAgg9
  z9 := Tryz.sizeOf9
  v9 := Tryz.zeroValue9
  t20 := Tryz.underlying20
  a20 := Tryz.isAgg20
  z20 := Tryz.sizeOf20
  v20 := Tryz.zeroValue20
  t31 := Tryz.underlying129
  a31 := Tryz.isAgg129
  z31 := Tryz.sizeOf129
  v31 := Tryz.zeroValue129
  t37 := Tryz.underlying29
  a37 := Tryz.isAgg29
  z37 := Tryz.sizeOf29
  v37 := Tryz.zeroValue29
  t70 := Tryz.underlying162
  a70 := Tryz.isAgg162
  z70 := Tryz.sizeOf162
  v70 := Tryz.zeroValue162
  t72 := Tryz.underlying164
  a72 := Tryz.isAgg164
  z72 := Tryz.sizeOf164
  v72 := Tryz.zeroValue164
  t75 := Tryz.underlying166
  a75 := Tryz.isAgg166
  z75 := Tryz.sizeOf166
  v75 := Tryz.zeroValue166
  t76 := Tryz.underlying167
  a76 := Tryz.isAgg167
  z76 := Tryz.sizeOf167
  v76 := Tryz.zeroValue167
  t127 := Tryz.underlying174
  a127 := Tryz.isAgg174
  z127 := Tryz.sizeOf174
  v127 := Tryz.zeroValue174
  t164 := Tryz.underlying177
  a164 := Tryz.isAgg177
  z164 := Tryz.sizeOf177
  v164 := Tryz.zeroValue177

theorem joinExtra : Builder.Extra Tryz.prog joinRen where
  sizeBuilder := by kernel_rfl
  liesBuilder := by kernel_rfl
  t5 := Tryz.underlying5
  a5 := Tryz.isAgg5
  z5 := Tryz.sizeOf5
  v5 := Tryz.zeroValue5
  infoByte := by kernel_rfl
  cellsByte := by kernel_rfl
  sizeByte := by kernel_rfl
  neB5 := by decide

def joinS : FSpec := ⟨List (List UInt8), fun ls vs A => ∃ x, vs = [x, strV [47]] ∧ Sl A 1 ls.length x (ls.map strV) ∧ ls.length ≤ 1000 ∧ (Lib.join ls [47]).length ≤ 1000, fun ls _ A v A' => A' = A ∧ v = strV (Lib.join ls [47])⟩

theorem cell_at {A : Arena} {w : World} (hA : ∀ k o, A.blk k = some o → w.heap[k]? = some o) {g o n : Nat} {cs : List Value} (h : A.rd g o n = some cs) {j : Nat} {v : Value} (hj : cs[j]? = some v) : w.cell? ⟨g, o + j, none⟩ = some v ∧ g < w.heap.size := by
  obtain ⟨c, t, fz, hb, hle, rfl⟩ := rd_some h
  have hw := hA _ _ hb
  have hjn : j < n := by
    have := (List.getElem?_eq_some_iff.1 hj).1
    simp at this; omega
  rw [List.getElem?_take_of_lt hjn, List.getElem?_drop, Array.getElem?_toList] at hj
  refine ⟨?_, (Array.getElem?_eq_some_iff.1 hw).1⟩
  unfold World.cell?
  rw [hw]
  simp only [Option.isSome_none, Bool.false_eq_true, if_false]
  rw [hj]

theorem join_ok : FOk Tryz.prog 109 joinS := by
  intro (ls : List (List UInt8)) vs A w hA hp
  obtain ⟨x, rfl, ⟨ao, c, rfl, hc, hl, ha1, ha2, ha3⟩, hN, hlen⟩ : ∃ x, vs = [x, strV [47]] ∧ Sl A 1 ls.length x (ls.map strV) ∧ ls.length ≤ 1000 ∧ (Lib.join ls [47]).length ≤ 1000 := hp
  refine goes_of_calls joinLays.f156 ⟨by kernel_rfl, by kernel_rfl⟩ ?_
  have hlt : ∀ k o, A.blk k = some o → k < w.heap.size := fun k o hk => (Array.getElem?_eq_some_iff.1 (hA k o hk)).1
  by_cases h0 : ls = []
  · subst h0
    intro cs
    obtain ⟨e, w', fr, ⟨k1, k2⟩, k3⟩ := Any.strings_Join_none joinLays joinExtra ao c ⟨#[47]⟩ w cs
    subst k2
    exact ⟨e, w', fr, ⟨_, k1, A, ⟨rfl, rfl⟩, rfl, rfl, rfl, fun _ _ _ => rfl, hA, fun k o ho => .inl ⟨o, ho⟩⟩, k3⟩
  · have hpos : 0 < ls.length := by
      cases ls with
      | nil => exact absurd rfl h0
      | cons y ys => simp
    obtain ⟨g, o, rfl, hr⟩ := Sl.at_ hc ha1 ha2 ha3 hpos
    have hm : (ls.map fun l => (⟨l.toArray⟩ : ByteArray)).map (·.data.toList) = ls := by
      rw [List.map_map]
      conv => rhs; rw [← List.map_id ls]
      exact List.map_congr_left fun l _ => by simp
    have hcells : ∀ (j : Nat) x, (ls.map fun l => (⟨l.toArray⟩ : ByteArray))[j]? = some x → w.cell? ⟨g, o + j, none⟩ = some (.string x) := fun j x hx => by
      refine (cell_at hA hr (j := j) (v := .string x) ?_).1
      rw [List.getElem?_map] at hx ⊢
      cases h : ls[j]? with
      | none => rw [h] at hx; cases hx
      | some l =>
        rw [h] at hx
        injection hx with hx
        rw [← hx]; rfl
    have hg : g < w.heap.size := by
      have h1 : (ls.map strV)[0]? = some (strV ls[0]) := by rw [List.getElem?_map, List.getElem?_eq_getElem hpos]; rfl
      exact (cell_at hA hr h1).2
    have key := Any.strings_Join joinLays joinExtra g o c (ls.map fun l => (⟨l.toArray⟩ : ByteArray)) ⟨#[47]⟩ w hcells hg (by rw [List.length_map]; omega) (by rw [List.length_map]; exact hc) (by rw [hm]; show (Lib.join ls [47]).length ≤ _; omega)
    rw [hm, List.length_map] at key
    intro cs
    obtain ⟨e, w', fr, ⟨k1, b1, b2, b3, _, b5⟩, k3⟩ := key cs
    exact ⟨e, w', fr, ⟨_, k1, A, ⟨rfl, rfl⟩, b1, b3, b2, fun k _ hk => b5 k hk, fun k o hk => (b5 k (hlt k o hk)).trans (hA k o hk), fun k o ho => .inl ⟨o, ho⟩⟩, k3⟩

end
end Go.Proofs.YtmhnhkigbfdapaaGreatDoor

namespace Go.Proofs.YtmhnhkigbfdapaaGreatDoor
open Go.Sx Go.RowKit
noncomputable section
open Classical

theorem part_badL {l : List UInt8} {k : Nat} (hk : k < l.length) (h : okByte l[k] = false) : partOk l = false := by
  have : l.all okByte = false := by
    rw [List.all_eq_false]
    exact ⟨l[k], List.getElem_mem hk, by simp [h]⟩
  unfold partOk
  rw [this]; rfl

def refPartS : FSpec := ⟨ByteArray, fun s vs _ => vs = [.string s] ∧ s.data.toList.length ≤ 140737488351232, fun s _ A v A' => A' = A ∧ v = .bool (partOk s.data.toList)⟩

set_option maxRecDepth 100000 in
set_option maxHeartbeats 0 in
theorem refPart_ok : FOk Tryz.prog 99 refPartS := by
  refine fok_v mixed fun (s : ByteArray) vs A hp => ?_
  obtain ⟨rfl, hsz⟩ : vs = [.string s] ∧ s.data.toList.length ≤ 140737488351232 := hp
  refine ⟨noC, tabO Tryz.prog noC noL 60 [(99, 0)], 60, noC_sound _, tabO_sound mixed (noC_sound _) (noL_sound _) _ _, fun blk os out tape D hD => ?_⟩
  conv => lhs; whnf
  refine (hD _).2 ⟨cnt A 3 [0] [] s.data.toList.length fun k => (s.data.toList.take k).all okByte = true, ⟨(0 : Nat), ⟨Nat.zero_le _, by simp⟩, ⟨rfl, trivial⟩, trivial, rfl⟩, fun (k : Nat) hk => ⟨⟨trivial, trivial⟩, trivial, ?_⟩⟩
  simp only [cnt] at hk
  obtain ⟨hkl, hall⟩ := hk
  conv => lhs; whnf
  refine split_dec (fun hlt => ?_) (fun hlt => ?_) <;> (conv => lhs; whnf)
  · have hkl2 : k < s.data.toList.length := by
      have hlt : (k : Int) < (s.data.toList.length : Int) := hlt
      omega
    have i0 : (0 : Int) ≤ (k : Int) ∧ (k : Int) < (s.data.toList.length : Int) := by omega
    refine go_in i0 ?_
    conv => lhs; whnf
    have hg : s.data.toList.getD ((k : Nat) : Int).toNat 0 = s.data.toList[k] := by
      rw [Int.toNat_natCast, List.getD_eq_getElem?_getD, List.getElem?_eq_getElem hkl2]; rfl
    have hbad : okByte s.data.toList[k] = false → refPartS.post s [.string s] A (.bool false) A := fun hb => ⟨rfl, by rw [part_badL hkl2 hb]⟩
    refine split_dec (fun h1 => ?_) (fun h1 => ?_) <;> (conv => lhs; whnf)
    · rw [hg] at h1
      exact (hD _).2 (hbad (by unfold okByte; rw [decide_eq_false (by omega)]; rfl))
    repeat (refine go_in i0 ?_
            conv => lhs; whnf)
    refine split_dec (fun h2 => ?_) (fun h2 => ?_) <;> (conv => lhs; whnf)
    · rw [hg] at h2
      exact (hD _).2 (hbad (by unfold okByte; rw [decide_eq_false (p := (s.data.toList[k]).toNat ≤ 126) (by omega), Bool.and_false]; rfl))
    repeat (refine go_in i0 ?_
            conv => lhs; whnf)
    refine split_dec (fun h3 => ?_) (fun h3 => ?_) <;> (conv => lhs; whnf)
    · rw [hg] at h3
      have e : s.data.toList[k] = 47 := UInt8.toNat_inj.1 (Int.ofNat.inj h3)
      exact (hD _).2 (hbad (by rw [e]; rfl))
    rw [hg] at h1 h2 h3
    have hok : okByte s.data.toList[k] = true := by
      have e : s.data.toList[k] ≠ 47 := fun e => h3 (by rw [e]; rfl)
      unfold okByte
      rw [decide_eq_true (by omega), decide_eq_true (by omega)]
      simpa using e
    refine (hD _).2 ⟨(k + 1 : Nat), ⟨⟨by omega, ?_⟩, ⟨inc_slot (by omega), trivial⟩, trivial, rfl⟩, by show s.data.toList.length - (k + 1) < s.data.toList.length - k; omega, ⟨same1 rfl rfl, trivial⟩, trivial⟩
    show (s.data.toList.take (k + 1)).all okByte = true
    rw [List.take_succ_eq_append_getElem hkl2, List.all_append, hall]
    simpa using hok
  · have e : k = s.data.toList.length := by
      have hlt : ¬ (k : Int) < (s.data.toList.length : Int) := hlt
      omega
    rw [e, List.take_length] at hall
    have hend : ∀ b, b = (!s.data.toList.isEmpty && !(s.data.toList == [46]) && !(s.data.toList == [46, 46])) → refPartS.post s [.string s] A (.bool b) A := fun b hb => ⟨rfl, by rw [hb, partOk, hall, Bool.true_and]⟩
    refine split_b (fun h1 => ?_) (fun h1 => ?_) <;> (conv => lhs; whnf)
    rotate_left
    · have h1 : (!beqL s.data.toList []) = false := h1
      have e : s.data.toList = [] := beqL_iff.1 (by simpa using h1)
      exact (hD _).2 (hend false (by rw [e]; rfl))
    have h1 : (!beqL s.data.toList []) = true := h1
    have e1 : s.data.toList.isEmpty = false := by
      cases h : s.data.toList with
      | nil => rw [h] at h1; exact absurd h1 (by decide)
      | cons x xs => rfl
    refine split_b (fun h2 => ?_) (fun h2 => ?_) <;> (conv => lhs; whnf)
    rotate_left
    · have h2 : (!beqL s.data.toList [46]) = false := h2
      have e : s.data.toList = [46] := beqL_iff.1 (by simpa using h2)
      exact (hD _).2 (hend false (by rw [e]; rfl))
    have h2 : (!beqL s.data.toList [46]) = true := h2
    rw [beqL_eq] at h2
    have hfin := hend (!beqL s.data.toList [46, 46]) (by rw [beqL_eq, e1, h2]; rfl)
    exact (hD _).2 hfin

end
end Go.Proofs.YtmhnhkigbfdapaaGreatDoor

namespace Go.Proofs.YtmhnhkigbfdapaaGreatDoor
open Go.Sx Go.RowKit
noncomputable section
open Classical

/-- The parts of a right path. -/
def partsL (l : List UInt8) : List (List UInt8) := if pathOk l = true ∧ l ≠ [47] then splitL (l.drop 1) else []

theorem splitL_mem_len : ∀ (l y : List UInt8), y ∈ splitL l → y.length ≤ l.length
  | [], y, h => by
    simp only [splitL, List.mem_singleton] at h
    subst h; simp
  | b :: l, y, h => by
    have ih := splitL_mem_len l
    simp only [splitL] at h
    cases hb : b == 47 with
    | true =>
      rw [hb] at h
      simp only [cond_true] at h
      rcases List.mem_cons.1 h with e | h
      · subst e; simp
      · have := ih y h; simp; omega
    | false =>
      rw [hb] at h
      simp only [cond_false] at h
      cases hs : splitL l with
      | nil => exact absurd hs (splitL_ne l)
      | cons x xs =>
        rw [hs] at h
        simp only at h
        rcases List.mem_cons.1 h with e | h
        · subst e
          have := ih x (by rw [hs]; simp)
          simp; omega
        · have := ih y (by rw [hs]; simp [h])
          simp; omega

def refPartsS : FSpec := ⟨ByteArray, fun s vs _ => vs = [.string s] ∧ s.data.toList.length ≤ 140737488351232,
  fun s _ A v A' => A.Sub A' ∧ ∃ x, v = .tuple #[x, .bool (pathOk s.data.toList)] ∧ Sl (A'.minus A) 1 (partsL s.data.toList).length x ((partsL s.data.toList).map strV)⟩

set_option maxRecDepth 100000 in
set_option maxHeartbeats 0 in
theorem refParts_ok : FOk Tryz.prog 79 refPartsS := by
  refine fok_v mixed fun (s : ByteArray) vs A hp => ?_
  obtain ⟨rfl, hsz⟩ : vs = [.string s] ∧ s.data.toList.length ≤ 140737488351232 := hp
  have hC : CTSound Tryz.prog (lookC [specE 98 splitS, specE 99 refPartS] noC) := lookC_sound (noC_sound _) (fun x hx => by
    simp only [List.mem_cons, List.not_mem_nil, or_false] at hx
    rcases hx with rfl | rfl
    · exact specE_ok split_ok
    · exact specE_ok refPart_ok)
  refine ⟨_, tabO Tryz.prog _ noL 60 [(79, 0)], 60, hC, tabO_sound mixed hC (noL_sound _) _ _, fun blk os out tape D hD => ?_⟩
  obtain ⟨l, hl⟩ : ∃ l, l = s.data.toList := ⟨_, rfl⟩
  have hbad2 : ∀ A2, A.Sub A2 → pathOk l = false → refPartsS.post s [.string s] A (.tuple #[.slice none 0 0, .bool false]) A2 := fun A2 h2 hb => by
    refine ⟨h2, .slice none 0 0, by rw [← hl, hb], ?_⟩
    have e : partsL s.data.toList = [] := by rw [← hl, partsL, if_neg (by rw [hb]; simp)]
    rw [e]
    exact Sl.nil _ _
  have hbad := hbad2 A (Arena.Sub.refl _)
  conv => lhs; whnf
  refine split_dec (fun h1 => ?_) (fun h1 => ?_) <;> (conv => lhs; whnf)
  · have h1 : (200 : Int) < (s.data.toList.length : Int) := h1
    exact (hD _).2 (hbad (pathOk_no fun q e => by
      have := congrArg List.length e
      rw [List.length_cons, hl] at this
      omega))
  refine split_dec (fun h2 => ?_) (fun h2 => ?_) <;> (conv => lhs; whnf)
  · have h2 : (s.data.toList.length : Int) = 0 := h2
    exact (hD _).2 (hbad (pathOk_no fun q e => by
      have := congrArg List.length e
      rw [List.length_cons, hl] at this
      omega))
  have hlen : s.data.toList.length ≤ 200 := by
    have h1 : ¬ (200 : Int) < (s.data.toList.length : Int) := h1
    omega
  have hpos : 0 < s.data.toList.length := by
    have h2 : ¬ (s.data.toList.length : Int) = 0 := h2
    omega
  have i00 : (0 : Int) ≤ (0 : Int) ∧ (0 : Int) < (s.data.toList.length : Int) := by omega
  refine go_in i00 ?_
  conv => lhs; whnf
  obtain ⟨b, q, hbq⟩ : ∃ b q, s.data.toList = b :: q := by
    cases h : s.data.toList with
    | nil => rw [h] at hpos; exact absurd hpos (Nat.lt_irrefl _)
    | cons b q => exact ⟨b, q, rfl⟩
  have hg0 : s.data.toList.getD (Int.toNat 0) 0 = b := by rw [hbq]; rfl
  refine split_b (fun h3 => ?_) (fun h3 => ?_) <;> (conv => lhs; whnf)
  · have h3 : (!decide (((s.data.toList.getD (Int.toNat 0) 0).toNat : Int) = 47)) = true := h3
    rw [hg0] at h3
    refine (hD _).2 (hbad (pathOk_no fun q' e => ?_))
    rw [hl, hbq] at e
    injection e with e
    rw [e] at h3
    exact absurd h3 (by decide)
  have hb : b = 47 := by
    have h3 : (!decide (((s.data.toList.getD (Int.toNat 0) 0).toNat : Int) = 47)) = false := h3
    rw [hg0] at h3
    have h4 : ((b.toNat : Nat) : Int) = 47 := by simpa using h3
    exact UInt8.toNat_inj.1 (Int.ofNat.inj h4)
  rw [hb] at hbq
  refine split_b (fun h4 => ?_) (fun h4 => ?_) <;> (conv => lhs; whnf)
  · have h4 : s.data.toList = [47] := beqL_iff.1 h4
    have hend : refPartsS.post s [.string s] A (.tuple #[.slice none 0 0, .bool true]) A := by
      refine ⟨Arena.Sub.refl _, .slice none 0 0, by rw [h4]; rfl, ?_⟩
      have e : partsL s.data.toList = [] := by rw [partsL, if_neg (by simp [h4])]
      rw [e]
      exact Sl.nil _ _
    exact (hD _).2 hend
  have hq0 : q ≠ [] := fun e => by
    have h4 : ¬ s.data.toList = [47] := beqL_ff.1 h4
    exact h4 (by rw [hbq, e])
  have hqe : (s.data.toList.drop 1).take (s.data.toList.length - 1) = q := by
    rw [hbq]
    simp
  have hql : q.length ≤ 199 := by
    rw [hbq, List.length_cons] at hlen
    omega
  refine go_b (bnd_from (x := 1) (k := 1) rfl (show 1 ≤ s.data.toList.length by omega)) ?_
  conv => lhs; whnf
  refine (hD _).2 ⟨(s.data.toList.drop 1).take (s.data.toList.length - 1), ⟨rfl, by rw [hqe]; omega⟩, fun v A1 hq => ?_⟩
  have hq : A.Sub A1 ∧ Sl (A1.minus A) 1 (splitL ((s.data.toList.drop 1).take (s.data.toList.length - 1))).length v ((splitL ((s.data.toList.drop 1).take (s.data.toList.length - 1))).map strV) := hq
  rw [hqe] at hq
  obtain ⟨ps, hps⟩ : ∃ ps, ps = splitL q := ⟨_, rfl⟩
  have hpl : ps.length ≤ 200 := by
    rw [hps, splitL_len]
    have := List.count_le_length (a := (47 : UInt8)) (l := q)
    omega
  rw [← hps] at hq
  obtain ⟨s1, hS⟩ := hq
  have hS0 := hS
  obtain ⟨ao, c, rfl, hc, hsl, ha1, ha2, ha3⟩ := hS
  conv => lhs; whnf
  have hpk : pathOk l = ps.all partOk := by
    have e : q.isEmpty = false := by
      cases q with
      | nil => exact absurd rfl hq0
      | cons x xs => rfl
    rw [hl, hbq]
    show (decide (q.length < 200) && restOk q) = _
    rw [decide_eq_true (by omega), restOk, e, hps]
    rfl
  refine (hD _).2 ⟨cnt A1 5 [0, 4] [] ps.length fun k => (ps.take k).all partOk = true, ⟨(0 : Nat), ⟨Nat.zero_le _, by simp⟩, ⟨rfl, trivial⟩, trivial, rfl⟩, fun (k : Nat) hk => ⟨⟨trivial, trivial⟩, trivial, ?_⟩⟩
  simp only [cnt] at hk
  obtain ⟨hkl, hall⟩ := hk
  conv => lhs; whnf
  refine split_dec (fun hlt => ?_) (fun hlt => ?_) <;> (conv => lhs; whnf)
  · have hkl2 : k < ps.length := by
      have hlt : (k : Int) < (ps.length : Int) := hlt
      omega
    obtain ⟨g, o, rfl, hra⟩ := Sl.at_ hc ha1 ha2 ha3 (by omega)
    have r1 := rd_sub (minus_sub A A1) (text_at hra k hkl2 rfl)
    have i0 : (0 : Int) ≤ (k : Int) ∧ (k : Int) < (ps.length : Int) := by omega
    repeat (first | refine go_in i0 ?_ | refine go_rd r1 ?_
            conv => lhs; whnf)
    have hpkl : ps[k].length ≤ 1000 := by
      have h1 : ∀ (l : List UInt8) (y : List UInt8), y ∈ splitL l → y.length ≤ l.length := splitL_mem_len
      have := h1 q ps[k] (by rw [← hps]; exact List.getElem_mem _)
      omega
    refine (hD _).2 ⟨(⟨ps[k].toArray⟩ : ByteArray), ⟨rfl, by show ps[k].length ≤ _; omega⟩, fun v A9 hq => ?_⟩
    have hq : A9 = A1 ∧ v = .bool (partOk ps[k]) := hq
    have h9 := hq.1.symm
    have hv := hq.2
    subst h9
    by_cases hok : partOk ps[k] = true
    rotate_left
    · have hok : partOk ps[k] = false := by simpa using hok
      rw [hok] at hv
      subst hv
      have hend := hbad2 A1 s1 (by
        rw [hpk, List.all_eq_false]
        exact ⟨ps[k], List.getElem_mem _, by simp [hok]⟩)
      conv => lhs; whnf
      exact (hD _).2 hend
    rw [hok] at hv
    subst hv
    conv => lhs; whnf
    refine (hD _).2 ⟨(k + 1 : Nat), ⟨⟨by omega, ?_⟩, ⟨inc_slot (by omega), trivial⟩, trivial, rfl⟩, by show ps.length - (k + 1) < ps.length - k; omega, ⟨same1 rfl rfl, same1 rfl rfl, trivial⟩, trivial⟩
    show (ps.take (k + 1)).all partOk = true
    rw [List.take_succ_eq_append_getElem hkl2, List.all_append, hall]
    simpa using hok
  · have e : k = ps.length := by
      have hlt : ¬ (k : Int) < (ps.length : Int) := hlt
      omega
    rw [e, List.take_length] at hall
    have hend : refPartsS.post s [.string s] A (.tuple #[.slice ao ps.length c, .bool true]) A1 := by
      have hk1 : pathOk s.data.toList = true := by rw [← hl, hpk]; exact hall
      have e2 : partsL s.data.toList = ps := by
        rw [partsL, if_pos ⟨hk1, by rw [hbq]; intro e; injection e with _ e; exact hq0 e⟩, hbq, hps]; rfl
      refine ⟨s1, .slice ao ps.length c, by rw [hk1], ?_⟩
      rw [e2]
      exact hS0
    exact (hD _).2 hend

/-! ### Check, Parent, Base -/

theorem refPartsC : CTSound Tryz.prog (lookC [specE 79 refPartsS, specE 109 joinS] noC) := lookC_sound (noC_sound _) (fun x hx => by
  simp only [List.mem_cons, List.not_mem_nil, or_false] at hx
  rcases hx with rfl | rfl
  · exact specE_ok refParts_ok
  · exact specE_ok join_ok)

def refCheckS : FSpec := ⟨ByteArray, fun s vs _ => vs = [.string s] ∧ s.data.toList.length ≤ 140737488351232, fun s _ A v A' => A.Sub A' ∧ v = .bool (pathOk s.data.toList)⟩
def refParentS : FSpec := ⟨ByteArray, fun s vs _ => vs = [.string s] ∧ s.data.toList.length ≤ 140737488351232, fun s _ A v A' => A.Sub A' ∧ v = .string (parentP s)⟩
def refBaseS : FSpec := ⟨ByteArray, fun s vs _ => vs = [.string s] ∧ s.data.toList.length ≤ 140737488351232, fun s _ A v A' => A.Sub A' ∧ v = .string (baseP s)⟩

set_option maxRecDepth 100000 in
set_option maxHeartbeats 0 in
theorem refCheck_ok : FOk Tryz.prog 55 refCheckS := by
  refine fok_v mixed fun (s : ByteArray) vs A hp => ?_
  obtain ⟨rfl, hsz⟩ : vs = [.string s] ∧ s.data.toList.length ≤ 140737488351232 := hp
  refine ⟨_, noL, 60, refPartsC, noL_sound _, fun blk os out tape D hD => ?_⟩
  conv => lhs; whnf
  refine (hD _).2 ⟨s, ⟨rfl, hsz⟩, fun v A' hq => ?_⟩
  have hq : A.Sub A' ∧ ∃ x, v = .tuple #[x, .bool (pathOk s.data.toList)] ∧ Sl (A'.minus A) 1 (partsL s.data.toList).length x ((partsL s.data.toList).map strV) := hq
  obtain ⟨s1, x, hv, hS⟩ := hq
  subst hv
  have hend : refCheckS.post s [.string s] A (.bool (pathOk s.data.toList)) A' := ⟨s1, rfl⟩
  conv => lhs; whnf
  exact (hD _).2 hend

theorem parts_facts (s : ByteArray) : (partsL s.data.toList = [] → parentP s = ⟨#[]⟩ ∧ baseP s = ⟨#[]⟩) ∧ (∀ h : partsL s.data.toList ≠ [], parentP s = ⟨(47 :: Lib.join ((partsL s.data.toList).take ((partsL s.data.toList).length - 1)) [47]).toArray⟩ ∧ baseP s = ⟨((partsL s.data.toList).getLast h).toArray⟩) ∧ (partsL s.data.toList).length ≤ 200 ∧ (Lib.join ((partsL s.data.toList).take ((partsL s.data.toList).length - 1)) [47]).length ≤ 200 := by
  by_cases hk : pathOk s.data.toList = true ∧ s.data.toList ≠ [47]
  · obtain ⟨q, hq, hl, _⟩ := pathOk_head hk.1
    have hq0 : q ≠ [] := fun e => hk.2 (by rw [hq, e])
    have e : partsL s.data.toList = splitL q := by rw [partsL, if_pos hk, hq]; rfl
    have hpp := parent_parts (by rw [← hq]; exact hk.1) hq0
    rw [← hq] at hpp
    have hlen : (splitL q).length ≤ 200 := by
      rw [splitL_len]
      have := List.count_le_length (a := (47 : UInt8)) (l := q)
      omega
    rw [e]
    have hdl : (splitL q).take ((splitL q).length - 1) = (splitL q).dropLast := by rw [List.dropLast_eq_take]
    rw [hdl]
    refine ⟨fun h => absurd h (splitL_ne q), fun h => ⟨?_, ?_⟩, hlen, ?_⟩
    · unfold parentP
      rw [hpp.1]
    · unfold baseP
      have h2 := hpp.2
      rw [List.getLast?_eq_some_getLast h] at h2
      injection h2 with h2
      rw [h2]
    · have h1 := hpp.1
      have h3 : (cutP s.data.toList).1.length ≤ s.data.toList.length := by
        rw [cutP, if_pos hk]
        exact List.length_take_le' _ _
      rw [h1, List.length_cons, hq, List.length_cons] at h3
      omega
  · have e : partsL s.data.toList = [] := by rw [partsL, if_neg hk]
    rw [e]
    refine ⟨fun _ => ?_, fun h => absurd rfl h, by simp, by simp [Lib.join_nil]⟩
    unfold parentP baseP
    rw [cutP, if_neg hk]
    exact ⟨rfl, rfl⟩

set_option maxRecDepth 100000 in
set_option maxHeartbeats 0 in
theorem refParent_ok : FOk Tryz.prog 83 refParentS := by
  refine fok_v mixed fun (s : ByteArray) vs A hp => ?_
  obtain ⟨rfl, hsz⟩ : vs = [.string s] ∧ s.data.toList.length ≤ 140737488351232 := hp
  refine ⟨_, noL, 60, refPartsC, noL_sound _, fun blk os out tape D hD => ?_⟩
  conv => lhs; whnf
  refine (hD _).2 ⟨s, ⟨rfl, hsz⟩, fun v A' hq => ?_⟩
  have hq : A.Sub A' ∧ ∃ x, v = .tuple #[x, .bool (pathOk s.data.toList)] ∧ Sl (A'.minus A) 1 (partsL s.data.toList).length x ((partsL s.data.toList).map strV) := hq
  obtain ⟨hf1, hf2, hf3, hf4⟩ := parts_facts s
  obtain ⟨ps, hps⟩ : ∃ ps, ps = partsL s.data.toList := ⟨_, rfl⟩
  rw [← hps] at hq hf1 hf2 hf3 hf4
  obtain ⟨s1, x, hv, ao, c, rfl, hc, hsl, ha1, ha2, ha3⟩ := hq
  subst hv
  conv => lhs; whnf
  refine split_dec (fun h0 => ?_) (fun h0 => ?_) <;> (conv => lhs; whnf)
  · have h0 : (ps.length : Int) = 0 := h0
    have e : ps = [] := List.length_eq_zero_iff.1 (by omega)
    have hend : refParentS.post s [.string s] A (.string ⟨#[]⟩) A' := ⟨s1, by rw [(hf1 e).1]⟩
    exact (hD _).2 hend
  have hpos : 0 < ps.length := by
    have h0 : ¬ (ps.length : Int) = 0 := h0
    omega
  have hne : ps ≠ [] := fun e => by rw [e] at hpos; exact absurd hpos (Nat.lt_irrefl _)
  obtain ⟨g, o, rfl, hra⟩ := Sl.at_ hc ha1 ha2 ha3 hpos
  have hx : IntKind.i64.wrap ((ps.length : Int) - 1) = ((ps.length - 1 : Nat) : Int) := by
    rw [Sx.wrap_i64 (by omega) (by omega)]; omega
  conv => lhs; whnf
  refine go_b (bnd_to hx (show ps.length - 1 ≤ c by omega)) ?_
  have hJ : Sl A' 1 (ps.take (ps.length - 1)).length (.slice (some ⟨g, o + bif Nat.beq c 0 then 0 else 0 * 1, none⟩) ((IntKind.i64.wrap ((ps.length : Int) - 1)).toNat - 0) (c - 0)) ((ps.take (ps.length - 1)).map strV) := by
    have e0 : (o + bif Nat.beq c 0 then 0 else 0 * 1) = o := by cases Nat.beq c 0 <;> rfl
    have e1 : (ps.take (ps.length - 1)).length = ps.length - 1 := by rw [List.length_take]; omega
    rw [hx, Int.toNat_natCast, Nat.sub_zero, e0, e1, Nat.sub_zero]
    refine Sl.row (by omega) ?_
    have := rd_at (rd_sub (minus_sub A A') hra) (i := 0) (m := (ps.length - 1) * 1) (by omega)
    rw [Nat.add_zero, List.drop_zero, ← List.map_take] at this
    rw [Nat.mul_one] at this ⊢
    exact this
  have hJl : (ps.take (ps.length - 1)).length ≤ 1000 := by rw [List.length_take]; omega
  conv => lhs; whnf
  refine (hD _).2 ⟨ps.take (ps.length - 1), ⟨_, rfl, hJ, hJl, by omega⟩, fun v A9 hq => ?_⟩
  have hq : A9 = A' ∧ v = .string ⟨(Lib.join (ps.take (ps.length - 1)) [47]).toArray⟩ := hq
  have h9 := hq.1.symm
  have hv := hq.2
  subst h9
  subst hv
  have hend : refParentS.post s [.string s] A (.string ⟨(47 :: Lib.join (ps.take (ps.length - 1)) [47]).toArray⟩) A' := ⟨s1, by rw [(hf2 hne).1]⟩
  conv => lhs; whnf
  refine go_b (Nat.ble_eq_true_of_le (show 1 + (Lib.join (ps.take (ps.length - 1)) [47]).length ≤ 9223372036854775807 by omega)) ?_
  conv => lhs; whnf
  exact (hD _).2 hend

end
end Go.Proofs.YtmhnhkigbfdapaaGreatDoor

namespace Go.Proofs.YtmhnhkigbfdapaaGreatDoor
open Go.Sx Go.RowKit
noncomputable section
open Classical

def checkS : FSpec := ⟨ByteArray, fun p vs _ => vs = [.string p], fun p _ A v A' => A' = A ∧ v = .bool (pathOk p.data.toList)⟩

theorem check_ok : FOk Tryz.prog 41 checkS := by
  intro p vs A w hA hp
  obtain rfl : vs = [.string p] := hp
  refine goes_of_calls Tryz.func41 ⟨by kernel_rfl, by kernel_rfl⟩ ?_
  intro cs
  obtain ⟨e, w', fr, ⟨k1, b1, b2, b3, _, b5⟩, k3⟩ := check1 p w cs
  have hlt : ∀ k o, A.blk k = some o → k < w.heap.size := fun k o hk => (Array.getElem?_eq_some_iff.1 (hA k o hk)).1
  exact ⟨e, w', fr, ⟨_, k1, A, ⟨rfl, rfl⟩, b1, b3, b2, fun k _ hk => b5 k hk, fun k o hk => (b5 k (hlt k o hk)).trans (hA k o hk), fun k o ho => .inl ⟨o, ho⟩⟩, k3⟩

end
end Go.Proofs.YtmhnhkigbfdapaaGreatDoor

namespace Go.Proofs.YtmhnhkigbfdapaaGreatDoor
open Go.Sx Go.RowKit
noncomputable section
open Classical

/-- May a watch be? -/
def mayD (sort : Int) (p : ByteArray) : Bool := decide (1 ≤ sort) && decide (sort ≤ 3) && pathOk p.data.toList

structure TwG where
  t : Nat
  m : Nat
  ws : List WatchD

/-- What a tower's call leaves. -/
structure TwTo (A : Arena) (g : TwG) (ws' : List WatchD) (A' : Arena) : Prop where
  tower : TowerAt A' g.t g.m ws'
  keep : ∀ b o, b ≠ g.m → A.blk b = some o → A'.blk b = some o
  dom : ∀ b, A'.blk b = none → A.blk b = none

theorem TwTo.same {A : Arena} {g : TwG} {ws : List WatchD} (h : TowerAt A g.t g.m ws) : TwTo A g ws A := ⟨h, fun _ _ _ h => h, fun _ h => h⟩

theorem TwTo.of_set {A A' : Arena} {g : TwG} {ws ws' : List WatchD} (h : TowerAt A g.t g.m ws) (hM : MapAt A' g.m (wL ws')) (ho : ∀ b, b ≠ g.m → A'.blk b = A.blk b) (hn : ws'.Nodup) : TwTo A g ws' A' :=
  ⟨h.set hM ho hn, fun b o hb hk => by rw [ho b hb]; exact hk, fun b hb => by
    by_cases e : b = g.m
    · obtain ⟨es, clock, h1, _⟩ := hM
      rw [e, h1] at hb; cases hb
    · rw [ho b e] at hb; exact hb⟩

def bellNewS : FSpec := ⟨Unit, fun _ vs _ => vs = [], fun _ _ A v A' => A.Sub A' ∧ ∃ t m, v = .pointer (some ⟨t, 0, none⟩) ∧ TowerAt A' t m [] ∧ A.blk t = none ∧ A.blk m = none⟩

def alTower : TypeId → Bool := fun t => Nat.beq t 50

set_option maxRecDepth 100000 in
set_option maxHeartbeats 0 in
theorem bellNew_ok : FOk Tryz.prog 4 bellNewS := by
  refine fok_a mixed alTower fun _ vs A hp => ?_
  obtain rfl : vs = [] := hp
  refine ⟨noC, noL, 60, noC_sound _, noL_sound _, fun blk os out tape D hD => ?_⟩
  conv => lhs; whnf
  refine (hD _).2 fun m A1 hm ho hM => ?_
  have hm : A.blk m = none := hm
  have ho : ∀ b, b ≠ m → A1.blk b = A.blk b := ho
  have s1 : A.Sub A1 := fun k o hk => by
    rw [ho k fun e => (by subst e; rw [hm] at hk; cases hk)]
    exact hk
  conv => lhs; whnf
  refine (hD _).2 fun t A2 hN => ?_
  have hN : A1.New A2 t #[.map (some m)] 50 := hN
  obtain ⟨om, hom⟩ : ∃ o, A1.blk m = some o := by
    obtain ⟨es, clock, h1, _⟩ := hM
    exact ⟨_, h1⟩
  have hne : m ≠ t := fun e => by
    have := hN.none_
    rw [← e, hom] at this; cases this
  have htn : A.blk t = none := by
    cases h : A.blk t with
    | none => rfl
    | some o => have := hN.none_; rw [s1 t o h] at this; cases this
  have hend : bellNewS.post () [] A (.pointer (some ⟨t, 0, none⟩)) A2 := ⟨s1.trans hN.sub, t, m, rfl, ⟨CellsAt.new hN, hM.sub fun _ hb => hN.sub _ _ hb, List.nodup_nil, hne⟩, htn, hm⟩
  conv => lhs; whnf
  exact (hD _).2 hend

def mayS : FSpec := ⟨TwG × Int × ByteArray, fun g vs A => vs = [.pointer (some ⟨g.1.t, 0, none⟩), .int .u8 g.2.1, .string g.2.2] ∧ TowerAt A g.1.t g.1.m g.1.ws, fun g _ A v A' => A' = A ∧ v = .bool (mayD g.2.1 g.2.2)⟩

set_option maxRecDepth 100000 in
set_option maxHeartbeats 0 in
theorem may_ok : FOk Tryz.prog 25 mayS := by
  refine fok_v mixed fun ⟨⟨t, m, ws⟩, sort, p⟩ vs A hp => ?_
  obtain ⟨rfl, hT⟩ : vs = [.pointer (some ⟨t, 0, none⟩), .int .u8 sort, .string p] ∧ TowerAt A t m ws := hp
  have hC : CTSound Tryz.prog (lookC [specE 41 checkS] noC) := lookC_sound (noC_sound _) (fun x hx => by
    simp only [List.mem_singleton] at hx
    subst hx; exact specE_ok check_ok)
  refine ⟨_, noL, 60, hC, noL_sound _, fun blk os out tape D hD => ?_⟩
  have htop : A.rd t 0 1 = some [.map (some m)] := hT.top.rd (o := 0) (n := 1) (by show 0 + 1 ≤ 1; omega)
  by_cases h1 : (1 : Int) ≤ sort
  · by_cases h3 : sort ≤ 3
    · conv => lhs; whnf
      repeat (first | refine go_rd htop ?_ | refine go_dec h1 ?_ | refine go_dec h3 ?_
              conv => lhs; whnf)
      refine (hD _).2 ⟨p, rfl, fun v A1 hq => ?_⟩
      obtain ⟨h9, hv⟩ : A1 = A ∧ v = .bool (pathOk p.data.toList) := hq
      subst h9; subst hv
      have hend : mayS.post ((⟨t, m, ws⟩ : TwG), sort, p) [] A1 (.bool (pathOk p.data.toList)) A1 := ⟨rfl, by
        unfold mayD
        rw [decide_eq_true h1, decide_eq_true h3]
        rfl⟩
      conv => lhs; whnf
      exact (hD _).2 hend
    · conv => lhs; whnf
      repeat (first | refine go_rd htop ?_ | refine go_dec h1 ?_ | refine no_dec h3 ?_
              conv => lhs; whnf)
      refine (hD _).2 ⟨rfl, ?_⟩
      unfold mayD
      rw [decide_eq_false h3, Bool.and_false, Bool.false_and]
  · conv => lhs; whnf
    repeat (first | refine go_rd htop ?_ | refine no_dec h1 ?_
            conv => lhs; whnf)
    refine (hD _).2 ⟨rfl, ?_⟩
    unfold mayD
    rw [decide_eq_false h1, Bool.false_and, Bool.false_and]

def bellAddS : FSpec := ⟨TwG × WatchD, fun g vs A => vs = [.pointer (some ⟨g.1.t, 0, none⟩), .int .i64 g.2.conn, .int .u8 g.2.sort, .string g.2.path] ∧ TowerAt A g.1.t g.1.m g.1.ws,
  fun g _ A _ A' => TwTo A g.1 (if mayD g.2.sort g.2.path = true then wPut g.2 g.1.ws else g.1.ws) A'⟩

set_option maxRecDepth 100000 in
set_option maxHeartbeats 0 in
theorem bellAdd_ok : FOk Tryz.prog 10 bellAddS := by
  refine fok_v mixed fun ⟨⟨t, m, ws⟩, ⟨conn, sort, p⟩⟩ vs A hp => ?_
  obtain ⟨rfl, hT⟩ : vs = [.pointer (some ⟨t, 0, none⟩), .int .i64 conn, .int .u8 sort, .string p] ∧ TowerAt A t m ws := hp
  have hC : CTSound Tryz.prog (lookC [specE 25 mayS] noC) := lookC_sound (noC_sound _) (fun x hx => by
    simp only [List.mem_singleton] at hx
    subst hx; exact specE_ok may_ok)
  refine ⟨_, noL, 60, hC, noL_sound _, fun blk os out tape D hD => ?_⟩
  have htop : A.rd t 0 1 = some [.map (some m)] := hT.top.rd (o := 0) (n := 1) (by show 0 + 1 ≤ 1; omega)
  conv => lhs; whnf
  refine (hD _).2 ⟨((⟨t, m, ws⟩ : TwG), sort, p), ⟨rfl, hT⟩, fun v A1 hq => ?_⟩
  obtain ⟨h9, hv⟩ : A1 = A ∧ v = .bool (mayD sort p) := hq
  subst h9
  cases hm : mayD sort p with
  | false =>
    rw [hm] at hv
    subst hv
    have hend : ∀ v, bellAddS.post ((⟨t, m, ws⟩ : TwG), ⟨conn, sort, p⟩) [] A1 v A1 := fun _ => by
      show TwTo A1 _ (if mayD sort p = true then _ else _) A1
      rw [hm, if_neg Bool.false_ne_true]
      exact .same hT
    conv => lhs; whnf
    exact (hD _).2 (hend (.bool false))
  | true =>
    rw [hm] at hv
    subst hv
    conv => lhs; whnf
    repeat (first | refine go_rd htop ?_ | refine go_D hD rfl ?_
            conv => lhs; whnf)
    refine (hD _).2 ⟨by kernel_rfl, _, hT.map, wL_alike ⟨conn, sort, p⟩ ws, fun A2 hM ho => ?_⟩
    have hM : MapAt A2 m (putL (wKey ⟨conn, sort, p⟩) (.int .i64 1) (wL ws)) := hM
    rw [wL_put] at hM
    have hend : ∀ v, bellAddS.post ((⟨t, m, ws⟩ : TwG), ⟨conn, sort, p⟩) [] A1 v A2 := fun _ => by
      show TwTo A1 _ (if mayD sort p = true then _ else _) A2
      rw [hm, if_pos rfl]
      exact .of_set hT hM ho (wPut_nodup hT.nd)
    conv => lhs; whnf
    exact (hD _).2 (hend (.bool false))

def bellCountS : FSpec := ⟨TwG, fun g vs A => vs = [.pointer (some ⟨g.t, 0, none⟩)] ∧ TowerAt A g.t g.m g.ws, fun g _ A v A' => A' = A ∧ v = .int .i64 g.ws.length⟩

set_option maxRecDepth 100000 in
set_option maxHeartbeats 0 in
theorem bellCount_ok : FOk Tryz.prog 8 bellCountS := by
  refine fok_v mixed fun ⟨t, m, ws⟩ vs A hp => ?_
  obtain ⟨rfl, hT⟩ : vs = [.pointer (some ⟨t, 0, none⟩)] ∧ TowerAt A t m ws := hp
  refine ⟨noC, noL, 60, noC_sound _, noL_sound _, fun blk os out tape D hD => ?_⟩
  have htop : A.rd t 0 1 = some [.map (some m)] := hT.top.rd (o := 0) (n := 1) (by show 0 + 1 ≤ 1; omega)
  conv => lhs; whnf
  have hcnt : A.cnt m = some ws.length := by
    rw [cnt_at hT.map]
    unfold wL
    rw [List.length_map]
  repeat (first | refine go_rd htop ?_ | refine go_ct hcnt ?_ | refine go_D hD rfl ?_
          conv => lhs; whnf)
  exact (hD _).2 ⟨rfl, rfl⟩

end
end Go.Proofs.YtmhnhkigbfdapaaGreatDoor

namespace Go.Proofs.YtmhnhkigbfdapaaGreatDoor
open Go.Sx Go.RowKit
noncomputable section
open Classical

def rNewS : FSpec := ⟨Unit, fun _ vs _ => vs = [], fun _ _ A v A' => A.Sub A' ∧ ∃ r, v = .pointer (some ⟨r, 0, none⟩) ∧ RtAt A' Arena.void r [] ∧ A.blk r = none⟩

def alRef : TypeId → Bool := fun t => Nat.beq t 53

set_option maxRecDepth 100000 in
set_option maxHeartbeats 0 in
theorem rNew_ok : FOk Tryz.prog 5 rNewS := by
  refine fok_a mixed alRef fun _ vs A hp => ?_
  obtain rfl : vs = [] := hp
  refine ⟨noC, noL, 60, noC_sound _, noL_sound _, fun blk os out tape D hD => ?_⟩
  conv => lhs; whnf
  refine (hD _).2 fun r A1 hN => ?_
  have hN : A.New A1 r #[.slice none 0 0] 53 := hN
  have hend : rNewS.post () [] A (.pointer (some ⟨r, 0, none⟩)) A1 := ⟨hN.sub, r, rfl, ⟨⟨_, Arena.void, CellsAt.new hN, GrowR.nil _ _ _ _⟩, fun _ _ h => (by cases h), rfl, by simp⟩, hN.none_⟩
  conv => lhs; whnf
  exact (hD _).2 hend

def rMayS : FSpec := ⟨Int × ByteArray, fun g vs _ => vs = [.int .u8 g.1, .string g.2] ∧ g.2.data.toList.length ≤ 140737488351232, fun g _ A v A' => A.Sub A' ∧ v = .bool (mayD g.1 g.2)⟩

set_option maxRecDepth 100000 in
set_option maxHeartbeats 0 in
theorem rMay_ok : FOk Tryz.prog 28 rMayS := by
  refine fok_v mixed fun ⟨sort, p⟩ vs A hp => ?_
  obtain ⟨rfl, hpl⟩ : vs = [.int .u8 sort, .string p] ∧ p.data.toList.length ≤ 140737488351232 := hp
  have hC : CTSound Tryz.prog (lookC [specE 55 refCheckS] noC) := lookC_sound (noC_sound _) (fun x hx => by
    simp only [List.mem_singleton] at hx
    subst hx; exact specE_ok refCheck_ok)
  refine ⟨_, noL, 60, hC, noL_sound _, fun blk os out tape D hD => ?_⟩
  by_cases h1 : (1 : Int) ≤ sort
  · by_cases h3 : sort ≤ 3
    · conv => lhs; whnf
      repeat (first | refine go_dec h1 ?_ | refine go_dec h3 ?_
              conv => lhs; whnf)
      refine (hD _).2 ⟨p, ⟨rfl, hpl⟩, fun v A1 hq => ?_⟩
      obtain ⟨h9, hv⟩ : A.Sub A1 ∧ v = .bool (pathOk p.data.toList) := hq
      subst hv
      have hend : rMayS.post (sort, p) [] A (.bool (pathOk p.data.toList)) A1 := ⟨h9, by
        unfold mayD
        rw [decide_eq_true h1, decide_eq_true h3]
        rfl⟩
      conv => lhs; whnf
      exact (hD _).2 hend
    · conv => lhs; whnf
      repeat (first | refine go_dec h1 ?_ | refine no_dec h3 ?_
              conv => lhs; whnf)
      refine (hD _).2 ⟨Arena.Sub.refl _, ?_⟩
      unfold mayD
      rw [decide_eq_false h3, Bool.and_false, Bool.false_and]
  · conv => lhs; whnf
    repeat (first | refine no_dec h1 ?_
            conv => lhs; whnf)
    refine (hD _).2 ⟨Arena.Sub.refl _, ?_⟩
    unfold mayD
    rw [decide_eq_false h1, Bool.false_and, Bool.false_and]

def rLessS : FSpec := ⟨WatchD × WatchD, fun g vs _ => vs = [.agg g.1.cells.toArray, .agg g.2.cells.toArray], fun g _ A v A' => A' = A ∧ v = .bool (decide (wLt g.1 g.2))⟩

set_option maxRecDepth 100000 in
set_option maxHeartbeats 0 in
theorem rLess_ok : FOk Tryz.prog 30 rLessS := by
  refine fok_v mixed fun ⟨⟨c, s, p⟩, ⟨c', s', p'⟩⟩ vs A hp => ?_
  obtain rfl : vs = [.agg (WatchD.cells ⟨c, s, p⟩).toArray, .agg (WatchD.cells ⟨c', s', p'⟩).toArray] := hp
  refine ⟨noC, noL, 60, noC_sound _, noL_sound _, fun blk os out tape D hD => ?_⟩
  have fin : ∀ b : Bool, (b = true ↔ wLt ⟨c, s, p⟩ ⟨c', s', p'⟩) → rLessS.post (⟨c, s, p⟩, ⟨c', s', p'⟩) [] A (.bool b) A := fun b h => ⟨rfl, by
    show Value.bool b = .bool (decide (wLt _ _))
    by_cases hb : b = true
    · rw [decide_eq_true (h.1 hb), hb]
    · rw [decide_eq_false fun k => hb (h.2 k)]
      simpa using hb⟩
  by_cases hc : c = c'
  · subst hc
    by_cases hs : s = s'
    · subst hs
      have hend := fin (ltL p.data.toList p'.data.toList) (by simp [wLt])
      conv => lhs; whnf
      repeat (refine split_nd (fun _ => ?_) (fun h => absurd rfl h)
              conv => lhs; whnf)
      exact (hD _).2 hend
    · have hend := fin (decide (s < s')) (by simp [wLt, hs])
      conv => lhs; whnf
      repeat (first | refine split_nd (fun _ => ?_) (fun h => absurd rfl h) | refine split_nd (fun h => absurd h hs) (fun _ => ?_)
              conv => lhs; whnf)
      exact (hD _).2 hend
  · have hend := fin (decide (c < c')) (by simp [wLt, hc])
    conv => lhs; whnf
    repeat (first | refine split_nd (fun h => absurd h hc) (fun _ => ?_)
            conv => lhs; whnf)
    exact (hD _).2 hend

def rCountS : FSpec := ⟨Arena × Nat × List WatchD, fun g vs A => vs = [.pointer (some ⟨g.2.1, 0, none⟩)] ∧ RtAt A g.1 g.2.1 g.2.2, fun g _ A v A' => A' = A ∧ v = .int .i64 g.2.2.length⟩

set_option maxRecDepth 100000 in
set_option maxHeartbeats 0 in
theorem rCount_ok : FOk Tryz.prog 9 rCountS := by
  refine fok_v mixed fun ⟨S, r, l⟩ vs A hp => ?_
  obtain ⟨rfl, hR⟩ : vs = [.pointer (some ⟨r, 0, none⟩)] ∧ RtAt A S r l := hp
  obtain ⟨v, htop, hsl⟩ := hR.old
  obtain ⟨ao, c, rfl⟩ := hsl.form
  have htop : A.rd r 0 1 = some [.slice ao l.length c] := htop.rd (o := 0) (n := 1) (by show 0 + 1 ≤ 1; omega)
  refine ⟨noC, noL, 60, noC_sound _, noL_sound _, fun blk os out tape D hD => ?_⟩
  conv => lhs; whnf
  repeat (first | refine go_rd htop ?_ | refine go_D hD rfl ?_
          conv => lhs; whnf)
  exact (hD _).2 ⟨rfl, rfl⟩

/-- Watches that are left: they go to a new row. -/
structure RdL where
  k : Nat
  A : Arena
  v : Value

def leftInv (A0 : Arena) (s1 s2 : Nat) (keep kb : List Nat) (l : List WatchD) (f : WatchD → Bool) : LInv :=
  { γ := RdL, G := fun g => g.k ≤ l.length ∧ A0.Sub g.A ∧ GrowR A0 g.A 3 80 ((l.take g.k).filter f).length g.v (((l.take g.k).filter f).flatMap WatchD.cells),
    keepS := keep, keepB := kb, sl := fun g => [(s1, .v g.v), (s2, .v (.int .i64 g.k))], bl := fun _ => [], ar := fun g => g.A, mu := fun g => l.length - g.k }

def rDropS : FSpec := ⟨Arena × Nat × List WatchD × WatchD, fun g vs A => vs = [.pointer (some ⟨g.2.1, 0, none⟩), .agg g.2.2.2.cells.toArray] ∧ RtAt A g.1 g.2.1 g.2.2.1, fun g _ A _ A' => RtTo A g.1 g.2.1 (g.2.2.1.filter fun w => !decide (w = g.2.2.2)) A'⟩

set_option maxRecDepth 100000 in
set_option maxHeartbeats 0 in
theorem rDrop_ok : FOk Tryz.prog 29 rDropS := by
  refine fok_v mixed fun ⟨S, r, l, ⟨c, so, p⟩⟩ vs A hp => ?_
  obtain ⟨rfl, hR⟩ : vs = [.pointer (some ⟨r, 0, none⟩), .agg (WatchD.cells ⟨c, so, p⟩).toArray] ∧ RtAt A S r l := hp
  obtain ⟨v, htopC, hsl⟩ := hR.old
  obtain ⟨ao, cp, rfl, hc, _, ha1, ha2, ha3⟩ := hsl.sub hR.sub
  have htop : A.rd r 0 1 = some [.slice ao l.length cp] := htopC.rd (o := 0) (n := 1) (by show 0 + 1 ≤ 1; omega)
  refine ⟨noC, tabO Tryz.prog noC noL 60 [(29, 0)], 60, noC_sound _, tabO_sound mixed (noC_sound _) (noL_sound _) _ _, fun blk os out tape D hD => ?_⟩
  have htk : ∀ A1 : Arena, A.Sub A1 → A1.rd r 0 1 = some [.slice ao l.length cp] := fun A1 h1 => rd_sub h1 htop
  conv => lhs; whnf
  refine (hD _).2 ⟨leftInv A 4 5 [0, 3] [0] l fun w => !decide (w = (⟨c, so, p⟩ : WatchD)), ⟨(⟨0, A, .slice none 0 0⟩ : RdL), ⟨⟨Nat.zero_le _, Arena.Sub.refl _, GrowR.nil _ _ _ _⟩, ⟨rfl, rfl, trivial⟩, trivial, rfl⟩⟩, fun (g : RdL) hG => ⟨⟨trivial, trivial, trivial⟩, trivial, ?_⟩⟩
  obtain ⟨k, As, v1⟩ := g
  obtain ⟨hk, hs, hGr⟩ : k ≤ l.length ∧ A.Sub As ∧ GrowR A As 3 80 ((l.take k).filter fun w => !decide (w = (⟨c, so, p⟩ : WatchD))).length v1 (((l.take k).filter fun w => !decide (w = (⟨c, so, p⟩ : WatchD))).flatMap WatchD.cells) := hG
  have hts := htk As hs
  conv => lhs; whnf
  repeat (first | refine go_rd hts ?_ | refine go_D hD rfl ?_
          conv => lhs; whnf)
  refine split_dec (fun hlt => ?_) (fun hlt => ?_)
  rotate_left
  · have hkl : k = l.length := by
      have hlt : ¬ ((k : Int) < (l.length : Int)) := hlt
      omega
    rw [hkl, List.take_length] at hGr
    obtain ⟨b9, c9, rfl, hb9, -⟩ := hGr.formN
    conv => lhs; whnf
    refine (hD _).2 ⟨(htopC.sub fun o ho => hs _ _ ho).room (by show 0 + 1 ≤ 1; omega), fun A2 hP => ?_⟩
    have hend : ∀ u, rDropS.post (S, r, l, ⟨c, so, p⟩) [] A u A2 := fun u => RtTo.store hR hs hGr hP (Nat.le_trans (List.length_filter_le _ _) hR.le)
    conv => lhs; whnf
    exact (hD _).2 (hend (.bool false))
  have hlt : (k : Int) < (l.length : Int) := hlt
  have hkl : k < l.length := by omega
  have i0 : (0 : Int) ≤ (k : Int) ∧ (k : Int) < (l.length : Int) := by omega
  have hle := hR.le
  obtain ⟨g, o, rfl, hra⟩ := Sl.at_ hc ha1 ha2 ha3 (by omega)
  have hw := rd_sub hs (watch_at hra k hkl rfl)
  have htake := List.take_succ_eq_append_getElem hkl
  obtain ⟨w, hww⟩ : ∃ w, w = l[k] := ⟨_, rfl⟩
  rw [← hww] at hw htake
  obtain ⟨c', so', p'⟩ := w
  conv => lhs; whnf
  repeat (first | refine go_in i0 ?_ | refine go_rd hts ?_ | refine go_rd hw ?_ | refine go_D hD rfl ?_
          conv => lhs; whnf)
  refine go_D hD (by kernel_rfl) ?_
  conv => lhs; whnf
  have hmu : l.length - (k + 1) < l.length - k := by omega
  refine split_b (fun hb => ?_) (fun hb => ?_)
  rotate_left
  · have he : (⟨c', so', p'⟩ : WatchD) = ⟨c, so, p⟩ := by
      simp only [Bool.not_eq_false', Bool.and_eq_true, decide_eq_true_eq, Bool.and_true] at hb
      obtain ⟨h1, h2, h3⟩ := hb
      have h3 := toList_inj (beqL_iff.1 h3)
      subst h1; subst h2; subst h3; rfl
    have hn : (leftInv A 4 5 [0, 3] [0] l fun w => !decide (w = (⟨c, so, p⟩ : WatchD))).G (⟨k + 1, As, v1⟩ : RdL) := by
      refine ⟨hkl, hs, ?_⟩
      show GrowR A As 3 _ ((l.take (k + 1)).filter _).length v1 (((l.take (k + 1)).filter _).flatMap WatchD.cells)
      rw [htake, List.filter_append, List.filter_cons_of_neg (by rw [decide_eq_true he]; simp), List.filter_nil, List.append_nil]
      exact hGr
    conv => lhs; whnf
    exact (hD _).2 ⟨(⟨k + 1, As, v1⟩ : RdL), ⟨hn, ⟨rfl, inc_slot (by omega), trivial⟩, trivial, rfl⟩, hmu, ⟨same1 rfl rfl, same1 rfl rfl, trivial⟩, ⟨same1 rfl rfl, trivial⟩⟩
  have hne : ¬ (⟨c', so', p'⟩ : WatchD) = ⟨c, so, p⟩ := fun e => by
    injection e with e1 e2 e3
    subst e1; subst e2; subst e3
    rw [show beqL p'.data.toList p'.data.toList = true from beqL_iff.2 rfl] at hb
    simp at hb
  obtain ⟨n1, hn1⟩ : ∃ n, n = ((l.take k).filter fun w => !decide (w = (⟨c, so, p⟩ : WatchD))).length := ⟨_, rfl⟩
  have hn1l : n1 ≤ 1000000 := by
    have h1 := List.length_filter_le (fun w => !decide (w = (⟨c, so, p⟩ : WatchD))) (l.take k)
    have h2 := List.length_take_le k l
    omega
  rw [← hn1] at hGr
  obtain ⟨base, cp1, rfl, hbase, -⟩ := hGr.formN
  have hdn : ∀ k, As.blk k = none → A.blk k = none := fun k hk => by
    cases hA : A.blk k with
    | none => rfl
    | some o => rw [hs k o hA] at hk; cases hk
  have hfin : ∀ u A3 A4, As.Sub A3 → Appended A3 base n1 cp1 3 80 (((l.take k).filter fun w => !decide (w = (⟨c, so, p⟩ : WatchD))).flatMap WatchD.cells) (WatchD.cells ⟨c', so', p'⟩) 1 u A4 → (leftInv A 4 5 [0, 3] [0] l fun w => !decide (w = (⟨c, so, p⟩ : WatchD))).G ⟨k + 1, A4, u⟩ := fun u A3 A4 s3 hAp => by
    have h3 := hGr.sub s3
    obtain ⟨_, hA⟩ := h3.formB
    have hd3 : ∀ k, A3.blk k = none → A.blk k = none := fun k hk => hdn k (by
      cases hA : As.blk k with
      | none => rfl
      | some o => rw [s3 k o hA] at hk; cases hk)
    obtain ⟨k1, k2⟩ := hA 1 _ _ _ rfl hd3 hAp
    refine ⟨hkl, fun b o hb => by rw [k2 b o hb]; exact s3 _ _ (hs b o hb), ?_⟩
    show GrowR A A4 3 _ ((l.take (k + 1)).filter _).length u (((l.take (k + 1)).filter _).flatMap WatchD.cells)
    rw [htake, List.filter_append, List.filter_cons_of_pos (by rw [decide_eq_false hne]; rfl), List.filter_nil, List.length_append, List.flatMap_append, ← hn1]
    exact k1
  rcases hbase with rfl | ⟨g1, rfl⟩ <;> (conv => lhs; whnf)
  all_goals
    repeat (first | refine go_in i0 ?_ | refine go_rd hts ?_ | refine go_rd hw ?_ | refine go_D hD rfl ?_
            conv => lhs; whnf)
    refine (hD _).2 fun gb A3 hN => ?_
    have hN : As.New A3 gb #[.int .i64 c', .int .u8 so', .string p'] 80 := hN
    have hrow3 : A3.rd gb 0 (1 * 3) = some [.int .i64 c', .int .u8 so', .string p'] := hN.rd (o := 0) (n := 1 * 3) (by show 0 + 1 * 3 ≤ 3; omega)
    obtain ⟨hP, _⟩ := (hGr.sub hN.sub).formB
    have hP := hP 1 32 (by omega) (by omega)
    conv => lhs; whnf
    refine (hD _).2 ⟨_, WatchD.cells ⟨c', so', p'⟩, hP.rd, ?_, rfl, ?_, by show n1 + 1 ≤ 9223372036854775807; omega, hP.cap, rfl, hP.none_, fun g' o' he' hle' _ => hP.room 3 rfl g' o' he' hle', fun u A4 hAp => ?_⟩
    · show (if 1 * 3 = 0 then some [] else A3.rd gb 0 (1 * 3)) = _
      rw [if_neg (by omega)]; exact hrow3
    · intro v hv
      simp only [WatchD.cells, List.mem_cons, List.not_mem_nil, or_false] at hv
      rcases hv with rfl | rfl | rfl <;> rfl
    · have hn := hfin u A3 A4 hN.sub hAp
      conv => lhs; whnf
      exact (hD _).2 ⟨(⟨k + 1, A4, u⟩ : RdL), ⟨hn, ⟨rfl, inc_slot (by omega), trivial⟩, trivial, rfl⟩, hmu, ⟨same1 rfl rfl, same1 rfl rfl, trivial⟩, ⟨same1 rfl rfl, trivial⟩⟩

def rDropCS : FSpec := ⟨Arena × Nat × List WatchD × Int, fun g vs A => vs = [.pointer (some ⟨g.2.1, 0, none⟩), .int .i64 g.2.2.2] ∧ RtAt A g.1 g.2.1 g.2.2.1, fun g _ A _ A' => RtTo A g.1 g.2.1 (g.2.2.1.filter fun w => !decide (w.conn = g.2.2.2)) A'⟩

set_option maxRecDepth 100000 in
set_option maxHeartbeats 0 in
theorem rDropC_ok : FOk Tryz.prog 24 rDropCS := by
  refine fok_v mixed fun ⟨S, r, l, c⟩ vs A hp => ?_
  obtain ⟨rfl, hR⟩ : vs = [.pointer (some ⟨r, 0, none⟩), .int .i64 c] ∧ RtAt A S r l := hp
  obtain ⟨v, htopC, hsl⟩ := hR.old
  obtain ⟨ao, cp, rfl, hc, _, ha1, ha2, ha3⟩ := hsl.sub hR.sub
  have htop : A.rd r 0 1 = some [.slice ao l.length cp] := htopC.rd (o := 0) (n := 1) (by show 0 + 1 ≤ 1; omega)
  refine ⟨noC, tabO Tryz.prog noC noL 60 [(24, 0)], 60, noC_sound _, tabO_sound mixed (noC_sound _) (noL_sound _) _ _, fun blk os out tape D hD => ?_⟩
  have htk : ∀ A1 : Arena, A.Sub A1 → A1.rd r 0 1 = some [.slice ao l.length cp] := fun A1 h1 => rd_sub h1 htop
  conv => lhs; whnf
  refine (hD _).2 ⟨leftInv A 4 5 [0, 1] [] l fun w : WatchD => !decide (w.conn = c), ⟨(⟨0, A, .slice none 0 0⟩ : RdL), ⟨⟨Nat.zero_le _, Arena.Sub.refl _, GrowR.nil _ _ _ _⟩, ⟨rfl, rfl, trivial⟩, trivial, rfl⟩⟩, fun (g : RdL) hG => ⟨⟨trivial, trivial, trivial⟩, trivial, ?_⟩⟩
  obtain ⟨k, As, v1⟩ := g
  obtain ⟨hk, hs, hGr⟩ : k ≤ l.length ∧ A.Sub As ∧ GrowR A As 3 80 ((l.take k).filter fun w : WatchD => !decide (w.conn = c)).length v1 (((l.take k).filter fun w : WatchD => !decide (w.conn = c)).flatMap WatchD.cells) := hG
  have hts := htk As hs
  conv => lhs; whnf
  repeat (first | refine go_rd hts ?_ | refine go_D hD rfl ?_
          conv => lhs; whnf)
  refine split_dec (fun hlt => ?_) (fun hlt => ?_)
  rotate_left
  · have hkl : k = l.length := by
      have hlt : ¬ ((k : Int) < (l.length : Int)) := hlt
      omega
    rw [hkl, List.take_length] at hGr
    obtain ⟨b9, c9, rfl, hb9, -⟩ := hGr.formN
    conv => lhs; whnf
    refine (hD _).2 ⟨(htopC.sub fun o ho => hs _ _ ho).room (by show 0 + 1 ≤ 1; omega), fun A2 hP => ?_⟩
    have hend : ∀ u, rDropCS.post (S, r, l, c) [] A u A2 := fun u => RtTo.store hR hs hGr hP (Nat.le_trans (List.length_filter_le _ _) hR.le)
    conv => lhs; whnf
    exact (hD _).2 (hend (.bool false))
  have hlt : (k : Int) < (l.length : Int) := hlt
  have hkl : k < l.length := by omega
  have i0 : (0 : Int) ≤ (k : Int) ∧ (k : Int) < (l.length : Int) := by omega
  have hle := hR.le
  obtain ⟨g, o, rfl, hra⟩ := Sl.at_ hc ha1 ha2 ha3 (by omega)
  have hw := rd_sub hs (watch_at hra k hkl rfl)
  have htake := List.take_succ_eq_append_getElem hkl
  obtain ⟨w, hww⟩ : ∃ w, w = l[k] := ⟨_, rfl⟩
  rw [← hww] at hw htake
  obtain ⟨c', so', p'⟩ := w
  have hw0 : As.rd g (o + k * 3 + 0) 1 = some [.int .i64 c'] := rd_at (N := 3) (i := 0) (m := 1) hw (by omega)
  conv => lhs; whnf
  repeat (first | refine go_in i0 ?_ | refine go_rd hts ?_ | refine go_rd hw0 ?_ | refine go_rd hw ?_ | refine go_D hD rfl ?_
          conv => lhs; whnf)
  have hmu : l.length - (k + 1) < l.length - k := by omega
  refine split_nd (fun he => ?_) (fun hne => ?_)
  · have he : c' = c := he
    have hn : (leftInv A 4 5 [0, 1] [] l fun w : WatchD => !decide (w.conn = c)).G (⟨k + 1, As, v1⟩ : RdL) := by
      refine ⟨hkl, hs, ?_⟩
      show GrowR A As 3 _ ((l.take (k + 1)).filter _).length v1 (((l.take (k + 1)).filter _).flatMap WatchD.cells)
      rw [htake, List.filter_append, List.filter_cons_of_neg (by rw [decide_eq_true he]; simp), List.filter_nil, List.append_nil]
      exact hGr
    conv => lhs; whnf
    exact (hD _).2 ⟨(⟨k + 1, As, v1⟩ : RdL), ⟨hn, ⟨rfl, inc_slot (by omega), trivial⟩, trivial, rfl⟩, hmu, ⟨same1 rfl rfl, same1 rfl rfl, trivial⟩, trivial⟩
  have hne : ¬ c' = c := hne
  obtain ⟨n1, hn1⟩ : ∃ n, n = ((l.take k).filter fun w : WatchD => !decide (w.conn = c)).length := ⟨_, rfl⟩
  have hn1l : n1 ≤ 1000000 := by
    have h1 := List.length_filter_le (fun w : WatchD => !decide (w.conn = c)) (l.take k)
    have h2 := List.length_take_le k l
    omega
  rw [← hn1] at hGr
  obtain ⟨base, cp1, rfl, hbase, -⟩ := hGr.formN
  have hdn : ∀ k, As.blk k = none → A.blk k = none := fun k hk => by
    cases hA : A.blk k with
    | none => rfl
    | some o => rw [hs k o hA] at hk; cases hk
  have hfin : ∀ u A3 A4, As.Sub A3 → Appended A3 base n1 cp1 3 80 (((l.take k).filter fun w : WatchD => !decide (w.conn = c)).flatMap WatchD.cells) (WatchD.cells ⟨c', so', p'⟩) 1 u A4 → (leftInv A 4 5 [0, 1] [] l fun w : WatchD => !decide (w.conn = c)).G ⟨k + 1, A4, u⟩ := fun u A3 A4 s3 hAp => by
    have h3 := hGr.sub s3
    obtain ⟨_, hA⟩ := h3.formB
    have hd3 : ∀ k, A3.blk k = none → A.blk k = none := fun k hk => hdn k (by
      cases hA : As.blk k with
      | none => rfl
      | some o => rw [s3 k o hA] at hk; cases hk)
    obtain ⟨k1, k2⟩ := hA 1 _ _ _ rfl hd3 hAp
    refine ⟨hkl, fun b o hb => by rw [k2 b o hb]; exact s3 _ _ (hs b o hb), ?_⟩
    show GrowR A A4 3 _ ((l.take (k + 1)).filter _).length u (((l.take (k + 1)).filter _).flatMap WatchD.cells)
    rw [htake, List.filter_append, List.filter_cons_of_pos (by rw [decide_eq_false hne]; rfl), List.filter_nil, List.length_append, List.flatMap_append, ← hn1]
    exact k1
  rcases hbase with rfl | ⟨g1, rfl⟩ <;> (conv => lhs; whnf)
  all_goals
    repeat (first | refine go_in i0 ?_ | refine go_rd hts ?_ | refine go_rd hw ?_ | refine go_D hD rfl ?_
            conv => lhs; whnf)
    refine (hD _).2 fun gb A3 hN => ?_
    have hN : As.New A3 gb #[.int .i64 c', .int .u8 so', .string p'] 80 := hN
    have hrow3 : A3.rd gb 0 (1 * 3) = some [.int .i64 c', .int .u8 so', .string p'] := hN.rd (o := 0) (n := 1 * 3) (by show 0 + 1 * 3 ≤ 3; omega)
    obtain ⟨hP, _⟩ := (hGr.sub hN.sub).formB
    have hP := hP 1 32 (by omega) (by omega)
    conv => lhs; whnf
    refine (hD _).2 ⟨_, WatchD.cells ⟨c', so', p'⟩, hP.rd, ?_, rfl, ?_, by show n1 + 1 ≤ 9223372036854775807; omega, hP.cap, rfl, hP.none_, fun g' o' he' hle' _ => hP.room 3 rfl g' o' he' hle', fun u A4 hAp => ?_⟩
    · show (if 1 * 3 = 0 then some [] else A3.rd gb 0 (1 * 3)) = _
      rw [if_neg (by omega)]; exact hrow3
    · intro v hv
      simp only [WatchD.cells, List.mem_cons, List.not_mem_nil, or_false] at hv
      rcases hv with rfl | rfl | rfl <;> rfl
    · have hn := hfin u A3 A4 hN.sub hAp
      conv => lhs; whnf
      exact (hD _).2 ⟨(⟨k + 1, A4, u⟩ : RdL), ⟨hn, ⟨rfl, inc_slot (by omega), trivial⟩, trivial, rfl⟩, hmu, ⟨same1 rfl rfl, same1 rfl rfl, trivial⟩, trivial⟩

end
end Go.Proofs.YtmhnhkigbfdapaaGreatDoor

namespace Go.Sx
noncomputable section

theorem flatN_len {α : Type} {enc : α → List Value} {es : Nat} (he : ∀ x, (enc x).length = es) : ∀ l : List α, (l.flatMap enc).length = l.length * es
  | [] => by simp
  | x :: l => by rw [List.flatMap_cons, List.length_append, he, flatN_len he l, List.length_cons, Nat.succ_mul]; omega

theorem flat_takeN {α : Type} {enc : α → List Value} {es : Nat} (he : ∀ x, (enc x).length = es) : ∀ (q : Nat) (l : List α), (l.flatMap enc).take (q * es) = (l.take q).flatMap enc
  | 0, _ => by simp
  | q + 1, [] => by simp
  | q + 1, x :: l => by
    have e1 : (q + 1) * es - (enc x).length = q * es := by rw [he, Nat.succ_mul]; omega
    have e2 : (enc x).take ((q + 1) * es) = enc x := List.take_of_length_le (by rw [he, Nat.succ_mul]; omega)
    rw [List.flatMap_cons, List.take_append, e1, e2, flat_takeN he q l, List.take_succ_cons, List.flatMap_cons]

theorem flat_dropN {α : Type} {enc : α → List Value} {es : Nat} (he : ∀ x, (enc x).length = es) : ∀ (q : Nat) (l : List α), (l.flatMap enc).drop (q * es) = (l.drop q).flatMap enc
  | 0, _ => by simp
  | q + 1, [] => by simp
  | q + 1, x :: l => by
    have e1 : (q + 1) * es - (enc x).length = q * es := by rw [he, Nat.succ_mul]; omega
    have e2 : (enc x).drop ((q + 1) * es) = [] := List.drop_eq_nil_of_le (by rw [he, Nat.succ_mul]; omega)
    rw [List.flatMap_cons, List.drop_append, e1, e2, flat_dropN he q l, List.drop_succ_cons, List.nil_append]

theorem srcN_take {A : Arena} {g o n q es : Nat} {α : Type} {enc : α → List Value} (he : ∀ x, (enc x).length = es) {l : List α} (h : A.rd g 0 (n * es) = some (l.flatMap enc)) (hq : q ≤ n) (ho : o = 0) : (if q = 0 then some [] else A.rd g o (q * es)) = some ((l.take q).flatMap enc) := by
  subst ho
  by_cases h0 : q = 0
  · rw [if_pos h0, h0, List.take_zero]; rfl
  · rw [if_neg h0]
    have := rd_at h (i := 0) (m := q * es) (by rw [Nat.zero_add]; exact Nat.mul_le_mul_right _ hq)
    rw [Nat.add_zero, List.drop_zero, flat_takeN he] at this
    exact this

theorem srcN_drop {A : Arena} {g o n q es : Nat} {α : Type} {enc : α → List Value} (he : ∀ x, (enc x).length = es) {l : List α} (h : A.rd g 0 (n * es) = some (l.flatMap enc)) (hn : n = l.length) (ho : q < n → o = q * es) : (if n - q = 0 then some [] else A.rd g o ((n - q) * es)) = some ((l.drop q).flatMap enc) := by
  by_cases h0 : n - q = 0
  · rw [if_pos h0, List.drop_eq_nil_of_le (by omega)]; rfl
  · rw [if_neg h0, ho (by omega)]
    have hle : q * es + (n - q) * es ≤ n * es := by rw [← Nat.add_mul]; exact Nat.mul_le_mul_right _ (by omega)
    have := rd_at h (i := q * es) (m := (n - q) * es) hle
    rw [Nat.zero_add, flat_dropN he] at this
    rw [this, List.take_of_length_le]
    rw [flatN_len he, List.length_drop]
    exact Nat.mul_le_mul_right _ (by omega)

end
end Go.Sx

namespace Go.Proofs.YtmhnhkigbfdapaaGreatDoor
open Go.Sx Go.RowKit
noncomputable section
open Classical

theorem flat_subW {α : Type} {enc : α → List Value} {l l' : List α} (h : l'.Sublist l) {v : Value} (hv : v ∈ l'.flatMap enc) : v ∈ l.flatMap enc := by
  obtain ⟨x, hx, hv⟩ := List.mem_flatMap.1 hv
  exact List.mem_flatMap.2 ⟨x, h.subset hx, hv⟩

theorem beq_noW {m n : Nat} (h : n < m) : Nat.beq m n = false := by
  cases hb : Nat.beq m n with
  | false => rfl
  | true => have := Nat.eq_of_beq_eq_true hb; omega

/-- Where a watch stands. -/
def placeW (l : List WatchD) (w : WatchD) : Nat := (l.takeWhile fun x => decide (wLt x w)).length

def insW (w : WatchD) (l : List WatchD) : List WatchD := l.take (placeW l w) ++ w :: l.drop (placeW l w)

/-- A watch is set, in the document's row. -/
def addW (w : WatchD) (l : List WatchD) : List WatchD := insW w (l.filter fun x => !decide (x = w))

theorem placeW_at {N : List WatchD} {w : WatchD} {k : Nat} (hk : k ≤ N.length) (h0 : ∀ i (h : i < N.length), i < k → wLt N[i] w) (h1 : ∀ h : k < N.length, ¬ wLt N[k] w) : placeW N w = k := by
  induction N generalizing k with
  | nil =>
    have : k = 0 := by simpa using hk
    rw [this]; rfl
  | cons x N ih =>
    cases k with
    | zero =>
      have := h1 (by simp)
      unfold placeW
      rw [List.takeWhile_cons, if_neg (by simpa using this)]
      rfl
    | succ k =>
      have hx := h0 0 (by simp) (by omega)
      have := ih (k := k) (by simpa using hk) (fun i hi hik => h0 (i + 1) (by simpa using hi) (by omega)) (fun h => h1 (by simpa using h))
      unfold placeW at this ⊢
      rw [List.takeWhile_cons, if_pos (by simpa using hx), List.length_cons, this]

def rAddS : FSpec := ⟨Arena × Nat × List WatchD × WatchD, fun g vs A => vs = [.pointer (some ⟨g.2.1, 0, none⟩), .int .i64 g.2.2.2.conn, .int .u8 g.2.2.2.sort, .string g.2.2.2.path] ∧ RtAt A g.1 g.2.1 g.2.2.1 ∧ g.2.2.2.path.data.toList.length ≤ 140737488351232 ∧ g.2.2.1.length < 1000000,
  fun g _ A _ A' => RtTo A g.1 g.2.1 (if mayD g.2.2.2.sort g.2.2.2.path = true then addW g.2.2.2 g.2.2.1 else g.2.2.1) A'⟩

theorem RtAt.up {A A' S : Arena} {r : Nat} {l : List WatchD} (h : RtAt A S r l) (s : A.Sub A') : RtAt A' S r l := by
  obtain ⟨v, E, h1, h2⟩ := h.row
  exact ⟨⟨v, E, h1.sub fun o ho => s _ _ ho, h2⟩, h.sub.trans s, h.off, h.le⟩

theorem RtTo.early {A A1 A2 S : Arena} {r : Nat} {l : List WatchD} (s : A.Sub A1) (h : RtTo A1 S r l A2) : RtTo A S r l A2 := by
  obtain ⟨S', h1, h2⟩ := h.at_
  refine ⟨⟨S', h1, fun k o hk => (h2 k o hk).imp id fun h3 => ?_⟩, fun k o hk ho => h.keep k o hk (s k o ho), fun k hk => ?_⟩
  · cases hA : A.blk k with
    | none => rfl
    | some o' => rw [s k o' hA] at h3; cases h3
  · have h3 := h.dom k hk
    cases hA : A.blk k with
    | none => rfl
    | some o' => rw [s k o' hA] at h3; cases h3

set_option maxRecDepth 100000 in
set_option maxHeartbeats 0 in
theorem rAdd_ok : FOk Tryz.prog 17 rAddS := by
  refine fok_v mixed fun ⟨S, r, l0, ⟨cn, so, p⟩⟩ vs A hp => ?_
  obtain ⟨rfl, hR0, hpl, hlt0⟩ : vs = [.pointer (some ⟨r, 0, none⟩), .int .i64 cn, .int .u8 so, .string p] ∧ RtAt A S r l0 ∧ p.data.toList.length ≤ 140737488351232 ∧ l0.length < 1000000 := hp
  have hC : CTSound Tryz.prog (lookC [specE 28 rMayS, specE 29 rDropS, specE 30 rLessS] noC) := lookC_sound (noC_sound _) (fun x hx => by
    simp only [List.mem_cons, List.not_mem_nil, or_false] at hx
    rcases hx with rfl | rfl | rfl
    · exact specE_ok rMay_ok
    · exact specE_ok rDrop_ok
    · exact specE_ok rLess_ok)
  refine ⟨_, tabO Tryz.prog _ noL 60 [(17, 0)], 60, hC, tabO_sound mixed hC (noL_sound _) _ _, fun blk os out tape D hD => ?_⟩
  conv => lhs; whnf
  refine (hD _).2 ⟨(so, p), ⟨rfl, hpl⟩, fun v Aa hq => ?_⟩
  obtain ⟨sa, hv⟩ : A.Sub Aa ∧ v = .bool (mayD so p) := hq
  have hRa := hR0.up sa
  cases hm : mayD so p with
  | false =>
    rw [hm] at hv
    subst hv
    have hend : ∀ u, rAddS.post (S, r, l0, ⟨cn, so, p⟩) [] A u Aa := fun _ => by
      show RtTo A S r (if mayD so p = true then _ else _) Aa
      rw [hm, if_neg Bool.false_ne_true]
      exact RtTo.early sa (.same hRa)
    conv => lhs; whnf
    exact (hD _).2 (hend (.bool false))
  | true =>
  rw [hm] at hv
  subst hv
  conv => lhs; whnf
  refine (hD _).2 ⟨(S, r, l0, (⟨cn, so, p⟩ : WatchD)), ⟨rfl, hRa⟩, fun v A1 hq => ?_⟩
  have hq' : RtTo Aa S r (l0.filter fun w => !decide (w = (⟨cn, so, p⟩ : WatchD))) A1 := hq
  obtain ⟨S1, hR, hSn⟩ := hq'.at_
  obtain ⟨l, hl⟩ : ∃ l, l = l0.filter fun w => !decide (w = (⟨cn, so, p⟩ : WatchD)) := ⟨_, rfl⟩
  have hll : l.length < 1000000 := by
    rw [hl]
    exact Nat.lt_of_le_of_lt (List.length_filter_le _ _) hlt0
  rw [← hl] at hR
  -- LOOP
  obtain ⟨v0, E0, htopC, hG0⟩ := hR.row
  obtain ⟨base0, c, rfl, hb0, -⟩ := hG0.formN
  have hG1 := hG0.sub hR.sub
  have hcle := hG1.cap_le
  have htop : A1.rd r 0 1 = some [.slice (addrA base0) l.length c] := htopC.rd (o := 0) (n := 1) (by show 0 + 1 ≤ 1; omega)
  have he3 : ∀ x : WatchD, (WatchD.cells x).length = 3 := fun _ => rfl
  have hone : ∀ v ∈ l.flatMap WatchD.cells, v.oneCell' = true := watches_one l
  have honex : ∀ v ∈ WatchD.cells ⟨cn, so, p⟩, v.oneCell' = true := fun v hv => by
    simp only [WatchD.cells, List.mem_cons, List.not_mem_nil, or_false] at hv
    rcases hv with rfl | rfl | rfl <;> rfl
  have hn0 : GrowR A1 A1 3 80 0 (.slice (addrA none) 0 0) [] := GrowR.nil _ _ _ _
  obtain ⟨hP0, hA0⟩ := hn0.formB
  have hfinq : ∀ q, q ≤ l.length → (∀ i (h : i < l.length), i < q → wLt l[i] ⟨cn, so, p⟩) → (∀ h : q < l.length, ¬ wLt l[q] ⟨cn, so, p⟩) → ∀ A5 A6 v, A1.Sub A5 → GrowR A1 A5 3 80 (l.take q ++ (⟨cn, so, p⟩ : WatchD) :: l.drop q).length v ((l.take q ++ (⟨cn, so, p⟩ : WatchD) :: l.drop q).flatMap WatchD.cells) → A5.Put A6 r 0 [v] →
      rAddS.post (S, r, l0, ⟨cn, so, p⟩) [] A (.tuple #[]) A6 := fun q hq h0 h1 A5 A6 v s5 hG hP => by
    have hst := RtTo.store hR s5 hG hP (by rw [List.length_append, List.length_cons, List.length_take, List.length_drop]; omega)
    show RtTo A S r (if mayD so p = true then addW ⟨cn, so, p⟩ l0 else l0) A6
    rw [if_pos hm, addW, ← hl, insW, placeW_at hq h0 h1]
    exact RtTo.early sa (RtTo.trans hq' hSn hst)
  conv => lhs; whnf
  refine (hD _).2 ⟨⟨Nat, fun q => q ≤ l.length ∧ ∀ i (h : i < l.length), i < q → wLt l[i] ⟨cn, so, p⟩, [0, 8], [0], fun q => [(9, .v (.int .i64 q))], fun _ => [], fun _ => A1, fun q => l.length - q⟩, ⟨(0 : Nat), ⟨Nat.zero_le _, fun i _ h => absurd h (Nat.not_lt_zero i)⟩, ⟨rfl, trivial⟩, trivial, rfl⟩, fun (q : Nat) hq => ⟨⟨trivial, trivial⟩, trivial, ?_⟩⟩
  obtain ⟨hql, hqlt⟩ := hq
  have hfl1 : ((l.take q).flatMap WatchD.cells).length = q * 3 := by rw [flatN_len (enc := WatchD.cells) he3, List.length_take, Nat.min_eq_left hql]
  have hfl2 : ((l.drop q).flatMap WatchD.cells).length = (l.length - q) * 3 := by rw [flatN_len (enc := WatchD.cells) he3, List.length_drop]
  have hfinq := hfinq q hql hqlt
  rcases hb0 with rfl | ⟨gn, rfl⟩
  · obtain ⟨hl0, hc0⟩ : l.length = 0 ∧ c = 0 := by
      obtain ⟨_, ⟨h1, h2⟩ | ⟨g, nc, c', h3, _⟩⟩ := hG1
      · injection h2 with _ _ h2
        exact ⟨h1, h2⟩
      · cases h3
    have hfin := hfinq (fun h => absurd (hl0 ▸ h) (Nat.not_lt_zero q))
    clear hfinq hqlt
    obtain rfl : q = 0 := by omega
    subst hc0
    have hs1 : (if 0 = 0 then some [] else none) = some ((l.take 0).flatMap WatchD.cells) := by
      rw [if_pos rfl, List.take_zero]; rfl
    have hs2 : ∀ A4, A1.Sub A4 → (if l.length - 0 = 0 then some [] else none) = some ((l.drop 0).flatMap WatchD.cells) := fun A4 h4 => by
      rw [if_pos (by omega), List.length_eq_zero_iff.1 hl0]; rfl
    conv => lhs; whnf
    repeat (refine go_rd htop ?_
            conv => lhs; whnf)
    refine no_dec (by show ¬ ((0 : Nat) : Int) < (l.length : Int); omega) ?_
    conv => lhs; whnf
    repeat (refine go_rd htop ?_
            conv => lhs; whnf)
    refine (hD _).2 ⟨[], (l.take 0).flatMap WatchD.cells, rfl, hs1, hfl1, fun v hv => hone v (flat_subW (List.take_sublist 0 l) hv), by show 0 + 0 ≤ 9223372036854775807; omega, (hP0 0 32 (by omega) (by omega)).cap, rfl, fun _ => ⟨rfl, rfl⟩, fun _ _ h => (by cases h), fun v A2 hAp => ?_⟩
    obtain ⟨hG2, hk2⟩ := hA0 0 _ v A2 hfl1 (fun _ h => h) hAp
    rw [Nat.zero_add, List.nil_append] at hG2
    have s2 : A1.Sub A2 := fun j o hj => by rw [hk2 j o hj]; exact hj
    obtain ⟨b2, c2, hv2, hb2, -⟩ := hG2.formN
    subst hv2
    conv => lhs; whnf
    refine (hD _).2 fun gb A3 hNw => ?_
    have hNx : A2.New A3 gb (WatchD.cells ⟨cn, so, p⟩).toArray 80 := hNw
    have s3 : A1.Sub A3 := s2.trans hNx.sub
    obtain ⟨hP3, hA3⟩ := (hG2.sub hNx.sub).formB
    have hP3 := hP3 1 32 (by omega) (by omega)
    have hrow3 : A3.rd gb 0 (1 * 3) = some (WatchD.cells ⟨cn, so, p⟩) := hNx.rd (o := 0) (n := 1 * 3) (by show 0 + 1 * 3 ≤ 3; omega)
    have hd3 : ∀ j, A3.blk j = none → A1.blk j = none := fun j hj => by
      cases h9 : A1.blk j with
      | none => rfl
      | some o => rw [s3 _ _ h9] at hj; cases hj
    refine Or.elim hb2 (fun hb2 => ?_) (fun hb2 => ?_)
    rotate_left
    obtain ⟨g2, hb2⟩ := hb2
    all_goals
      subst hb2
      conv => lhs; whnf
      refine (hD _).2 ⟨(l.take 0).flatMap WatchD.cells, WatchD.cells ⟨cn, so, p⟩, hP3.rd, ?_, rfl, honex, ?_, hP3.cap, rfl, hP3.none_, fun g' o' he' hle' _ => hP3.room 3 rfl g' o' he' hle', fun v A4 hAp => ?_⟩
      · show (if 1 * 3 = 0 then some [] else A3.rd gb 0 (1 * 3)) = _
        rw [if_neg (by omega)]; exact hrow3
      · show 0 + 1 ≤ 9223372036854775807
        omega
      obtain ⟨hG4, hk4⟩ := hA3 1 _ v A4 rfl hd3 hAp
      have s4 : A1.Sub A4 := fun j o hj => by rw [hk4 j o hj]; exact s3 _ _ hj
      obtain ⟨b4, c4, hv4, hb4, -⟩ := hG4.formN
      subst hv4
      obtain ⟨hP4, hA4⟩ := hG4.formB
      have hP4 := hP4 (l.length - 0) 32 (by omega) (by omega)
      have hd4 : ∀ j, A4.blk j = none → A1.blk j = none := fun j hj => by
        cases h9 : A1.blk j with
        | none => rfl
        | some o => rw [s4 _ _ h9] at hj; cases hj
      have htop4 := rd_sub s4 htop
      conv => lhs; whnf
      repeat (refine go_rd htop4 ?_
              conv => lhs; whnf)
      refine Or.elim hb4 (fun hb4 => ?_) (fun hb4 => ?_)
      rotate_left
      obtain ⟨g4, hb4⟩ := hb4
      all_goals
        subst hb4
        conv => lhs; whnf
        refine (hD _).2 ⟨(l.take 0).flatMap WatchD.cells ++ WatchD.cells ⟨cn, so, p⟩, (l.drop 0).flatMap WatchD.cells, hP4.rd, hs2 A4 s4, hfl2, fun v hv => hone v (flat_subW (List.drop_sublist 0 l) hv), by show (0 + 1) + (l.length - 0) ≤ 9223372036854775807; omega, hP4.cap, rfl, hP4.none_, fun g' o' he' hle' _ => hP4.room _ hfl2 g' o' he' hle', fun v A5 hAp => ?_⟩
        obtain ⟨hG5, hk5⟩ := hA4 (l.length - 0) _ v A5 hfl2 hd4 hAp
        have s5 : A1.Sub A5 := fun j o hj => by rw [hk5 j o hj]; exact s4 _ _ hj
        have hG6 : GrowR A1 A5 3 80 (l.take 0 ++ (⟨cn, so, p⟩ : WatchD) :: l.drop 0).length v ((l.take 0 ++ (⟨cn, so, p⟩ : WatchD) :: l.drop 0).flatMap WatchD.cells) := by
          have e1 : (l.take 0 ++ (⟨cn, so, p⟩ : WatchD) :: l.drop 0).length = (0 + 1) + (l.length - 0) := by
            rw [List.length_append, List.length_cons, List.length_take, List.length_drop]; omega
          rw [e1, List.flatMap_append, List.flatMap_cons, ← List.append_assoc]
          exact hG5
        obtain ⟨b5, c5, hv5, -, -⟩ := hG6.formN
        subst hv5
        have hT5 := htopC.sub (A' := A5) fun o ho => s5 _ _ ho
        conv => lhs; whnf
        refine (hD _).2 ⟨hT5.room (o := 0) (n := 1) (by show 0 + 1 ≤ 1; omega), fun A6 hP => ?_⟩
        have hP : A5.Put A6 r 0 [.slice (addrA b5) (l.take 0 ++ (⟨cn, so, p⟩ : WatchD) :: l.drop 0).length c5] := hP
        have hend := hfin A5 A6 _ s5 hG6 hP
        conv => lhs; whnf
        exact (hD _).2 hend
  · have hra : A1.rd gn 0 (l.length * 3) = some (l.flatMap WatchD.cells) := by
      obtain ⟨_, ⟨_, h3⟩ | ⟨g, nc, c', h3, h4, _, _, h6, h7, h8⟩⟩ := hG1
      · cases h3
      · injection h3 with h3
        injection h3 with h3
        injection h3 with h3
        subst h3
        have := Nat.mul_le_mul_right 3 h4
        rw [rd_mk h6 (by omega), List.drop_zero, h8]
    have hs1 : (if q = 0 then some [] else A1.rd gn (0 + bif Nat.beq c 0 then 0 else 0 * 3) (q * 3)) = some ((l.take q).flatMap WatchD.cells) := srcN_take (enc := WatchD.cells) he3 hra (by omega) (by cases Nat.beq c 0 <;> rfl)
    have hs2 : ∀ A4, A1.Sub A4 → (if l.length - q = 0 then some [] else A4.rd gn (0 + bif Nat.beq c q then 0 else q * 3) ((l.length - q) * 3)) = some ((l.drop q).flatMap WatchD.cells) := fun A4 h4 => srcN_drop (enc := WatchD.cells) he3 (rd_sub h4 hra) rfl fun hlt => by
      rw [beq_noW (by omega)]
      show 0 + q * 3 = _
      omega
    conv => lhs; whnf
    repeat (refine go_rd htop ?_
            conv => lhs; whnf)
    refine split_dec (fun hlt3 => ?_) (fun hlt3 => ?_)
    · have hqo : q < l.length := by
        have hlt3 : (q : Int) < (l.length : Int) := hlt3
        omega
      have q0 : (0 : Int) ≤ (q : Int) ∧ (q : Int) < (l.length : Int) := by omega
      have hw := watch_at hra q hqo rfl
      obtain ⟨w9, hw9⟩ : ∃ w9, w9 = l[q] := ⟨_, rfl⟩
      have hfinq : ¬ wLt w9 ⟨cn, so, p⟩ → _ := fun h => hfinq (fun _ => hw9 ▸ h)
      have hqn : wLt w9 ⟨cn, so, p⟩ → ∀ i (h : i < l.length), i < q + 1 → wLt l[i] ⟨cn, so, p⟩ := fun h i hi hik => by
        by_cases e2 : i = q
        · subst e2; rw [← hw9]; exact h
        · exact hqlt i hi (by omega)
      rw [← hw9] at hw
      clear hqlt hw9
      obtain ⟨c9, s9, p9⟩ := w9
      conv => lhs; whnf
      repeat (first | refine go_in q0 ?_ | refine go_rd htop ?_ | refine go_rd hw ?_ | refine go_D hD rfl ?_
              conv => lhs; whnf)
      refine (hD _).2 ⟨((⟨c9, s9, p9⟩ : WatchD), (⟨cn, so, p⟩ : WatchD)), rfl, fun v A9 hq => ?_⟩
      obtain ⟨h9, hv⟩ : A9 = A1 ∧ v = .bool (decide (wLt ⟨c9, s9, p9⟩ ⟨cn, so, p⟩)) := hq
      have h9 := h9.symm
      subst h9; subst hv
      by_cases hlt : wLt ⟨c9, s9, p9⟩ ⟨cn, so, p⟩
      · rw [decide_eq_true hlt]
        have hqn := hqn hlt
        conv => lhs; whnf
        exact (hD _).2 ⟨(q + 1 : Nat), ⟨⟨hqo, hqn⟩, ⟨inc_slot (by omega), trivial⟩, trivial, rfl⟩, by show l.length - (q + 1) < l.length - q; omega, ⟨same1 rfl rfl, same1 rfl rfl, trivial⟩, ⟨same1 rfl rfl, trivial⟩⟩
      · rw [decide_eq_false hlt]
        have hfin := hfinq hlt
        clear hfinq hqn
        conv => lhs; whnf
        repeat (refine go_rd htop ?_
                conv => lhs; whnf)
        refine go_b (bnd_to (k := q) rfl (show q ≤ c by omega)) ?_
        conv => lhs; whnf
        refine (hD _).2 ⟨[], (l.take q).flatMap WatchD.cells, rfl, hs1, hfl1, fun v hv => hone v (flat_subW (List.take_sublist q l) hv), by show 0 + q ≤ 9223372036854775807; omega, (hP0 q 32 (by omega) (by omega)).cap, rfl, fun _ => ⟨rfl, rfl⟩, fun _ _ h => (by cases h), fun v A2 hAp => ?_⟩
        obtain ⟨hG2, hk2⟩ := hA0 q _ v A2 hfl1 (fun _ h => h) hAp
        rw [Nat.zero_add, List.nil_append] at hG2
        have s2 : A1.Sub A2 := fun j o hj => by rw [hk2 j o hj]; exact hj
        obtain ⟨b2, c2, hv2, hb2, -⟩ := hG2.formN
        subst hv2
        conv => lhs; whnf
        refine (hD _).2 fun gb A3 hNw => ?_
        have hNx : A2.New A3 gb (WatchD.cells ⟨cn, so, p⟩).toArray 80 := hNw
        have s3 : A1.Sub A3 := s2.trans hNx.sub
        obtain ⟨hP3, hA3⟩ := (hG2.sub hNx.sub).formB
        have hP3 := hP3 1 32 (by omega) (by omega)
        have hrow3 : A3.rd gb 0 (1 * 3) = some (WatchD.cells ⟨cn, so, p⟩) := hNx.rd (o := 0) (n := 1 * 3) (by show 0 + 1 * 3 ≤ 3; omega)
        have hd3 : ∀ j, A3.blk j = none → A1.blk j = none := fun j hj => by
          cases h9 : A1.blk j with
          | none => rfl
          | some o => rw [s3 _ _ h9] at hj; cases hj
        refine Or.elim hb2 (fun hb2 => ?_) (fun hb2 => ?_)
        rotate_left
        obtain ⟨g2, hb2⟩ := hb2
        all_goals
          subst hb2
          conv => lhs; whnf
          refine (hD _).2 ⟨(l.take q).flatMap WatchD.cells, WatchD.cells ⟨cn, so, p⟩, hP3.rd, ?_, rfl, honex, ?_, hP3.cap, rfl, hP3.none_, fun g' o' he' hle' _ => hP3.room 3 rfl g' o' he' hle', fun v A4 hAp => ?_⟩
          · show (if 1 * 3 = 0 then some [] else A3.rd gb 0 (1 * 3)) = _
            rw [if_neg (by omega)]; exact hrow3
          · show q + 1 ≤ 9223372036854775807
            omega
          obtain ⟨hG4, hk4⟩ := hA3 1 _ v A4 rfl hd3 hAp
          have s4 : A1.Sub A4 := fun j o hj => by rw [hk4 j o hj]; exact s3 _ _ hj
          obtain ⟨b4, c4, hv4, hb4, -⟩ := hG4.formN
          subst hv4
          obtain ⟨hP4, hA4⟩ := hG4.formB
          have hP4 := hP4 (l.length - q) 32 (by omega) (by omega)
          have hd4 : ∀ j, A4.blk j = none → A1.blk j = none := fun j hj => by
            cases h9 : A1.blk j with
            | none => rfl
            | some o => rw [s4 _ _ h9] at hj; cases hj
          have htop4 := rd_sub s4 htop
          conv => lhs; whnf
          repeat (refine go_rd htop4 ?_
                  conv => lhs; whnf)
          refine go_b (bnd_from (k := q) rfl (show q ≤ l.length by omega)) ?_
          refine Or.elim hb4 (fun hb4 => ?_) (fun hb4 => ?_)
          rotate_left
          obtain ⟨g4, hb4⟩ := hb4
          all_goals
            subst hb4
            conv => lhs; whnf
            refine (hD _).2 ⟨(l.take q).flatMap WatchD.cells ++ WatchD.cells ⟨cn, so, p⟩, (l.drop q).flatMap WatchD.cells, hP4.rd, hs2 A4 s4, hfl2, fun v hv => hone v (flat_subW (List.drop_sublist q l) hv), by show (q + 1) + (l.length - q) ≤ 9223372036854775807; omega, hP4.cap, rfl, hP4.none_, fun g' o' he' hle' _ => hP4.room _ hfl2 g' o' he' hle', fun v A5 hAp => ?_⟩
            obtain ⟨hG5, hk5⟩ := hA4 (l.length - q) _ v A5 hfl2 hd4 hAp
            have s5 : A1.Sub A5 := fun j o hj => by rw [hk5 j o hj]; exact s4 _ _ hj
            have hG6 : GrowR A1 A5 3 80 (l.take q ++ (⟨cn, so, p⟩ : WatchD) :: l.drop q).length v ((l.take q ++ (⟨cn, so, p⟩ : WatchD) :: l.drop q).flatMap WatchD.cells) := by
              have e1 : (l.take q ++ (⟨cn, so, p⟩ : WatchD) :: l.drop q).length = (q + 1) + (l.length - q) := by
                rw [List.length_append, List.length_cons, List.length_take, List.length_drop]; omega
              rw [e1, List.flatMap_append, List.flatMap_cons, ← List.append_assoc]
              exact hG5
            obtain ⟨b5, c5, hv5, -, -⟩ := hG6.formN
            subst hv5
            have hT5 := htopC.sub (A' := A5) fun o ho => s5 _ _ ho
            conv => lhs; whnf
            refine (hD _).2 ⟨hT5.room (o := 0) (n := 1) (by show 0 + 1 ≤ 1; omega), fun A6 hP => ?_⟩
            have hP : A5.Put A6 r 0 [.slice (addrA b5) (l.take q ++ (⟨cn, so, p⟩ : WatchD) :: l.drop q).length c5] := hP
            have hend := hfin A5 A6 _ s5 hG6 hP
            conv => lhs; whnf
            exact (hD _).2 hend
    · have hqe : q = l.length := by
        have hlt3 : ¬ (q : Int) < (l.length : Int) := hlt3
        omega
      have hfin := hfinq (fun h => absurd h (Nat.not_lt.2 (Nat.le_of_eq hqe.symm)))
      clear hfinq
      conv => lhs; whnf
      repeat (refine go_rd htop ?_
              conv => lhs; whnf)
      refine go_b (bnd_to (k := q) rfl (show q ≤ c by omega)) ?_
      conv => lhs; whnf
      refine (hD _).2 ⟨[], (l.take q).flatMap WatchD.cells, rfl, hs1, hfl1, fun v hv => hone v (flat_subW (List.take_sublist q l) hv), by show 0 + q ≤ 9223372036854775807; omega, (hP0 q 32 (by omega) (by omega)).cap, rfl, fun _ => ⟨rfl, rfl⟩, fun _ _ h => (by cases h), fun v A2 hAp => ?_⟩
      obtain ⟨hG2, hk2⟩ := hA0 q _ v A2 hfl1 (fun _ h => h) hAp
      rw [Nat.zero_add, List.nil_append] at hG2
      have s2 : A1.Sub A2 := fun j o hj => by rw [hk2 j o hj]; exact hj
      obtain ⟨b2, c2, hv2, hb2, -⟩ := hG2.formN
      subst hv2
      conv => lhs; whnf
      refine (hD _).2 fun gb A3 hNw => ?_
      have hNx : A2.New A3 gb (WatchD.cells ⟨cn, so, p⟩).toArray 80 := hNw
      have s3 : A1.Sub A3 := s2.trans hNx.sub
      obtain ⟨hP3, hA3⟩ := (hG2.sub hNx.sub).formB
      have hP3 := hP3 1 32 (by omega) (by omega)
      have hrow3 : A3.rd gb 0 (1 * 3) = some (WatchD.cells ⟨cn, so, p⟩) := hNx.rd (o := 0) (n := 1 * 3) (by show 0 + 1 * 3 ≤ 3; omega)
      have hd3 : ∀ j, A3.blk j = none → A1.blk j = none := fun j hj => by
        cases h9 : A1.blk j with
        | none => rfl
        | some o => rw [s3 _ _ h9] at hj; cases hj
      refine Or.elim hb2 (fun hb2 => ?_) (fun hb2 => ?_)
      rotate_left
      obtain ⟨g2, hb2⟩ := hb2
      all_goals
        subst hb2
        conv => lhs; whnf
        refine (hD _).2 ⟨(l.take q).flatMap WatchD.cells, WatchD.cells ⟨cn, so, p⟩, hP3.rd, ?_, rfl, honex, ?_, hP3.cap, rfl, hP3.none_, fun g' o' he' hle' _ => hP3.room 3 rfl g' o' he' hle', fun v A4 hAp => ?_⟩
        · show (if 1 * 3 = 0 then some [] else A3.rd gb 0 (1 * 3)) = _
          rw [if_neg (by omega)]; exact hrow3
        · show q + 1 ≤ 9223372036854775807
          omega
        obtain ⟨hG4, hk4⟩ := hA3 1 _ v A4 rfl hd3 hAp
        have s4 : A1.Sub A4 := fun j o hj => by rw [hk4 j o hj]; exact s3 _ _ hj
        obtain ⟨b4, c4, hv4, hb4, -⟩ := hG4.formN
        subst hv4
        obtain ⟨hP4, hA4⟩ := hG4.formB
        have hP4 := hP4 (l.length - q) 32 (by omega) (by omega)
        have hd4 : ∀ j, A4.blk j = none → A1.blk j = none := fun j hj => by
          cases h9 : A1.blk j with
          | none => rfl
          | some o => rw [s4 _ _ h9] at hj; cases hj
        have htop4 := rd_sub s4 htop
        conv => lhs; whnf
        repeat (refine go_rd htop4 ?_
                conv => lhs; whnf)
        refine go_b (bnd_from (k := q) rfl (show q ≤ l.length by omega)) ?_
        refine Or.elim hb4 (fun hb4 => ?_) (fun hb4 => ?_)
        rotate_left
        obtain ⟨g4, hb4⟩ := hb4
        all_goals
          subst hb4
          conv => lhs; whnf
          refine (hD _).2 ⟨(l.take q).flatMap WatchD.cells ++ WatchD.cells ⟨cn, so, p⟩, (l.drop q).flatMap WatchD.cells, hP4.rd, hs2 A4 s4, hfl2, fun v hv => hone v (flat_subW (List.drop_sublist q l) hv), by show (q + 1) + (l.length - q) ≤ 9223372036854775807; omega, hP4.cap, rfl, hP4.none_, fun g' o' he' hle' _ => hP4.room _ hfl2 g' o' he' hle', fun v A5 hAp => ?_⟩
          obtain ⟨hG5, hk5⟩ := hA4 (l.length - q) _ v A5 hfl2 hd4 hAp
          have s5 : A1.Sub A5 := fun j o hj => by rw [hk5 j o hj]; exact s4 _ _ hj
          have hG6 : GrowR A1 A5 3 80 (l.take q ++ (⟨cn, so, p⟩ : WatchD) :: l.drop q).length v ((l.take q ++ (⟨cn, so, p⟩ : WatchD) :: l.drop q).flatMap WatchD.cells) := by
            have e1 : (l.take q ++ (⟨cn, so, p⟩ : WatchD) :: l.drop q).length = (q + 1) + (l.length - q) := by
              rw [List.length_append, List.length_cons, List.length_take, List.length_drop]; omega
            rw [e1, List.flatMap_append, List.flatMap_cons, ← List.append_assoc]
            exact hG5
          obtain ⟨b5, c5, hv5, -, -⟩ := hG6.formN
          subst hv5
          have hT5 := htopC.sub (A' := A5) fun o ho => s5 _ _ ho
          conv => lhs; whnf
          refine (hD _).2 ⟨hT5.room (o := 0) (n := 1) (by show 0 + 1 ≤ 1; omega), fun A6 hP => ?_⟩
          have hP : A5.Put A6 r 0 [.slice (addrA b5) (l.take q ++ (⟨cn, so, p⟩ : WatchD) :: l.drop q).length c5] := hP
          have hend := hfin A5 A6 _ s5 hG6 hP
          conv => lhs; whnf
          exact (hD _).2 hend

end
end Go.Proofs.YtmhnhkigbfdapaaGreatDoor

namespace Go.Proofs.YtmhnhkigbfdapaaGreatDoor
open Go.Sx Go.RowKit Go.Sort Go.Shelf
noncomputable section

theorem flat_get {α : Type} [Inhabited α] (enc : α → List Value) (k : Nat) (hk : ∀ x, (enc x).length = k) (hp : 0 < k) : ∀ (l : List α) (t : Nat), t < l.length * k → (l.flatMap enc)[t]? = (enc (l[t / k]!))[t % k]?
  | [], t, h => by simp at h
  | x :: l, t, h => by
    rw [List.flatMap_cons]
    by_cases ht : t < k
    · rw [List.getElem?_append_left (by rw [hk]; exact ht), Nat.div_eq_of_lt ht, Nat.mod_eq_of_lt ht]; rfl
    · rw [List.getElem?_append_right (by rw [hk]; omega), hk]
      have hlt : t - k < l.length * k := by
        rw [List.length_cons, Nat.succ_mul] at h; omega
      rw [flat_get enc k hk hp l (t - k) hlt]
      have e1 : t / k = (t - k) / k + 1 := by
        rw [Nat.div_eq_sub_div hp (by omega)]
      have e2 : t % k = (t - k) % k := by rw [Nat.mod_eq_sub_mod (by omega)]
      rw [e1, e2]
      simp

theorem flatK_list {α : Type} [Inhabited α] (enc : α → List Value) (k : Nat) (hk : ∀ x, (enc x).length = k) (hp : 0 < k) (l : List α) : (flatK enc k l.toArray).toList = l.flatMap enc := by
  have hlen : (l.flatMap enc).length = l.length * k := by
    induction l with
    | nil => simp
    | cons x l ih => rw [List.flatMap_cons, List.length_append, hk, ih, List.length_cons, Nat.succ_mul]; omega
  refine List.ext_getElem? fun t => ?_
  by_cases ht : t < l.length * k
  · rw [flat_get enc k hk hp l t ht]
    have hm : t % k < k := Nat.mod_lt _ hp
    simp only [flatK, Array.toList_map, Array.toList_range, List.getElem?_map, List.size_toArray]
    rw [List.getElem?_range ht]
    simp only [Option.map_some, List.getElem!_toArray]
    rw [List.getElem?_eq_getElem (by rw [hk]; exact hm)]
    congr 1
    rw [List.getElem!_eq_getElem?_getD, List.getElem?_eq_getElem (by rw [hk]; exact hm)]
    rfl
  · rw [List.getElem?_eq_none (by rw [Array.length_toList, size_flatK, List.size_toArray]; omega), List.getElem?_eq_none (by rw [hlen]; omega)]

theorem putC_toList {β : Type} [Inhabited β] (enc : β → Value) (d : Array β) (c : Array Value) (h : d.size ≤ c.size) : (putCells enc 0 d c).toList = c.toList.take 0 ++ d.toList.map enc ++ c.toList.drop (0 + (d.toList.map enc).length) := by
  obtain ⟨d⟩ := d
  have h : d.length ≤ c.size := h
  refine List.ext_getElem? fun k => ?_
  simp only [putCells, Array.toList_mapIdx, List.getElem?_mapIdx, List.take_zero, List.nil_append, List.length_map, Nat.zero_add, Nat.zero_le, true_and, List.size_toArray, Nat.sub_zero]
  by_cases hk : k < d.length
  · rw [List.getElem?_append_left (by simpa using hk), List.getElem?_map, List.getElem?_eq_getElem hk]
    have hkc : k < c.toList.length := Nat.lt_of_lt_of_le hk h
    have h1 : c.toList[k]? = some c.toList[k] := List.getElem?_eq_getElem hkc
    rw [h1]
    simp [hk]
  · rw [List.getElem?_append_right (by simpa using Nat.le_of_not_lt hk), List.length_map, List.getElem?_drop, Nat.add_sub_cancel' (Nat.le_of_not_lt hk)]
    cases c.toList[k]? <;> simp [hk]

/-- A world that a sort leaves, as an arena. -/
theorem put_moves {β : Type} [Inhabited β] (enc : β → Value) {A : Arena} {w w' : World} (hA : ∀ k o, A.blk k = some o → w.heap[k]? = some o) {g : Nat} {c : Array Value} {t : TypeId} {fz : Nat × Nat} (hb : A.blk g = some (.cells c t fz)) {arr : Array β} (hd : arr.size ≤ c.size) {n : Nat} {os : Array Obj}
    (k2 : w' = grow (putRow enc (Sort.ahead w n) g 0 arr) os) : ∃ A', A.Put A' g 0 (arr.toList.map enc) ∧ Moves A A' w w' := by
  subst k2
  have hw := hA _ _ hb
  have hsz : g < w.heap.size := (Array.getElem?_eq_some_iff.1 hw).1
  refine ⟨Arena.of (fun k => if k = g then some (.cells (putCells enc 0 arr c) t fz) else A.blk k), ⟨⟨c, t, fz, _, hb, if_pos rfl, putC_toList enc arr c hd⟩, fun k hk => if_neg hk⟩, ?_⟩
  have at_ : ∀ k, k < w.heap.size → (grow (putRow enc (Sort.ahead w n) g 0 arr) os).heap[k]? = if k = g then some (.cells (putCells enc 0 arr c) t fz) else w.heap[k]? := fun k hk => by
    show (((w.heap.modify g (onCells (putCells enc 0 arr))) ++ os)[k]?) = _
    rw [Array.getElem?_append_left (by simpa using hk), Array.getElem?_modify]
    by_cases e : k = g
    · subst e; rw [if_pos rfl, if_pos rfl, hw]; rfl
    · rw [if_neg (fun h => e h.symm), if_neg e]
  have lt_ : ∀ k o, A.blk k = some o → k < w.heap.size := fun k o hk => (Array.getElem?_eq_some_iff.1 (hA k o hk)).1
  refine ⟨rfl, rfl, rfl, fun k hk hks => ?_, fun k o hk => ?_, fun k o hk => ?_⟩
  · rw [at_ k hks, if_neg fun e => (by rw [e, hb] at hk; cases hk)]
  · have hk : (if k = g then some (Obj.cells (putCells enc 0 arr c) t fz) else A.blk k) = some o := hk
    by_cases e : k = g
    · rw [if_pos e] at hk
      rw [at_ k (e ▸ hsz), if_pos e, hk]
    · rw [if_neg e] at hk
      rw [at_ k (lt_ k o hk), if_neg e]; exact hA k o hk
  · have hk : (if k = g then some (Obj.cells (putCells enc 0 arr c) t fz) else A.blk k) = some o := hk
    by_cases e : k = g
    · exact .inl ⟨_, e ▸ hb⟩
    · rw [if_neg e] at hk; exact .inl ⟨o, hk⟩

end
end Go.Proofs.YtmhnhkigbfdapaaGreatDoor

namespace Go.Proofs.YtmhnhkigbfdapaaGreatDoor
open Go.Sx Go.RowKit Go.Sort Go.Shelf
noncomputable section

def cmpI (x y : Int) : Int := if x < y then -1 else if y < x then 1 else 0

set_option maxHeartbeats 1000000 in
theorem cmpInt_calls (x y : Int) (W : World) : Calls Tryz.prog 52 #[.int .i64 x, .int .i64 y] W fun e w' => e = .returned (.int .i64 (cmpI x y)) ∧ w' = W := by
  by_cases h : x < y
  · have hc : cmpI x y = -1 := if_pos h
    rw [hc]
    go_enter Tryz.func52, Tryz.ntmps52
    go_wp2
    go_ret
    exact ⟨rfl, rfl⟩
  · by_cases h2 : y < x
    · have hc : cmpI x y = 1 := by rw [cmpI, if_neg h, if_pos h2]
      rw [hc]
      go_enter Tryz.func52, Tryz.ntmps52
      go_wp2
      go_ret
      exact ⟨rfl, rfl⟩
    · have hc : cmpI x y = 0 := by rw [cmpI, if_neg h, if_neg h2]
      rw [hc]
      go_enter Tryz.func52, Tryz.ntmps52
      go_wp2
      go_ret
      exact ⟨rfl, rfl⟩

set_option maxHeartbeats 1000000 in
theorem cmpU8_calls (x y : Int) (W : World) : Calls Tryz.prog 53 #[.int .u8 x, .int .u8 y] W fun e w' => e = .returned (.int .i64 (cmpI x y)) ∧ w' = W := by
  by_cases h : x < y
  · have hc : cmpI x y = -1 := if_pos h
    rw [hc]
    go_enter Tryz.func53, Tryz.ntmps53
    go_wp2
    go_ret
    exact ⟨rfl, rfl⟩
  · by_cases h2 : y < x
    · have hc : cmpI x y = 1 := by rw [cmpI, if_neg h, if_pos h2]
      rw [hc]
      go_enter Tryz.func53, Tryz.ntmps53
      go_wp2
      go_ret
      exact ⟨rfl, rfl⟩
    · have hc : cmpI x y = 0 := by rw [cmpI, if_neg h, if_neg h2]
      rw [hc]
      go_enter Tryz.func53, Tryz.ntmps53
      go_wp2
      go_ret
      exact ⟨rfl, rfl⟩

def cmpS (x y : ByteArray) : Int := if ltL x.data.toList y.data.toList = true then -1 else if x = y then 0 else 1

theorem cmpS_cases (x y : ByteArray) : (Op.bytesLess x.toList y.toList = true ∧ cmpS x y = -1) ∨ (Op.bytesLess x.toList y.toList = false ∧ (x.toList == y.toList) = true ∧ cmpS x y = 0) ∨ (Op.bytesLess x.toList y.toList = false ∧ (x.toList == y.toList) = false ∧ cmpS x y = 1) := by
  rw [ByteArray.toList_eq, ByteArray.toList_eq, ← ltL_eq]
  unfold cmpS
  cases h : ltL x.data.toList y.data.toList with
  | true => exact .inl ⟨rfl, rfl⟩
  | false =>
    by_cases e : x = y
    · subst e
      exact .inr (.inl ⟨rfl, by simp, by simp⟩)
    · have : ¬ x.data.toList = y.data.toList := fun h => e (toList_inj h)
      exact .inr (.inr ⟨rfl, by simpa using this, by simp [e]⟩)

theorem gtr_run {x y : ByteArray} {r : Bool} (h : (!(Op.bytesLess x.toList y.toList || x.toList == y.toList)) = r) (t : TypeId) (w : World) : (binOp .gtr t (.string x) (.string y)).run Tryz.prog w = .ok (.bool r) w := by
  simp only [binOp, Op.stringOp]
  rw [h]
  rfl

set_option maxHeartbeats 1000000 in
theorem cmpStr_calls (x y : ByteArray) (W : World) : Calls Tryz.prog 54 #[.string x, .string y] W fun e w' => e = .returned (.int .i64 (cmpS x y)) ∧ w' = W := by
  rcases cmpS_cases x y with ⟨h, hc⟩ | ⟨h, h2, hc⟩ | ⟨h, h2, hc⟩
  · rw [hc]
    clear hc
    go_enter Tryz.func54, Tryz.ntmps54
    go_wp2
    go_ret
    exact ⟨rfl, rfl⟩
  · rw [hc]
    clear hc
    have hg := fun w => gtr_run (x := x) (y := y) (r := false) (by rw [h, h2]; rfl) 9 w
    clear h2
    go_enter Tryz.func54, Tryz.ntmps54
    go_wp2
    go_ret
    exact ⟨rfl, rfl⟩
  · rw [hc]
    clear hc
    have hg := fun w => gtr_run (x := x) (y := y) (r := true) (by rw [h, h2]; rfl) 9 w
    clear h2
    go_enter Tryz.func54, Tryz.ntmps54
    go_wp2
    go_ret
    exact ⟨rfl, rfl⟩

def orI (x y z : Int) : Int := if x ≠ 0 then x else if y ≠ 0 then y else z

set_option maxHeartbeats 1000000 in
theorem cmpOr_calls (x y z : Int) (g c : Nat) (W : World) (h0 : W.cell? ⟨g, 0, none⟩ = some (.int .i64 x)) (h1 : W.cell? ⟨g, 1, none⟩ = some (.int .i64 y)) (h2 : W.cell? ⟨g, 2, none⟩ = some (.int .i64 z)) : Calls Tryz.prog 51 #[.slice (some ⟨g, 0, none⟩) 3 c] W fun e w' => e = .returned (.int .i64 (orI x y z)) ∧ w' = W := by
  by_cases hx : x = 0
  · by_cases hy : y = 0
    · by_cases hz : z = 0
      · subst hx; subst hy; subst hz
        rw [show orI 0 0 0 = 0 from rfl]
        go_enter Tryz.func51, Tryz.ntmps51
        go_wp2
        refine wp_loop_rounds 4 ?_
        rw [rounds_succ]
        go_wp2
        rw [rounds_succ]
        go_wp2
        rw [rounds_succ]
        go_wp2
        rw [rounds_succ]
        go_wp2
        go_ret
        exact ⟨rfl, rfl⟩
      · have hc : orI x y z = z := by simp [orI, hx, hy]
        rw [hc]
        have hz' : (z != 0) = true := by simpa using hz
        subst hx; subst hy
        go_enter Tryz.func51, Tryz.ntmps51
        go_wp2
        refine wp_loop_rounds 4 ?_
        rw [rounds_succ]
        go_wp2
        rw [rounds_succ]
        go_wp2
        rw [rounds_succ]
        go_wp2
        go_ret
        exact ⟨rfl, rfl⟩
    · have hc : orI x y z = y := by simp [orI, hx, hy]
      rw [hc]
      have hy' : (y != 0) = true := by simpa using hy
      subst hx
      go_enter Tryz.func51, Tryz.ntmps51
      go_wp2
      refine wp_loop_rounds 4 ?_
      rw [rounds_succ]
      go_wp2
      rw [rounds_succ]
      go_wp2
      go_ret
      exact ⟨rfl, rfl⟩
  · have hc : orI x y z = x := by simp [orI, hx]
    rw [hc]
    have hx' : (x != 0) = true := by simpa using hx
    go_enter Tryz.func51, Tryz.ntmps51
    go_wp2
    refine wp_loop_rounds 4 ?_
    rw [rounds_succ]
    go_wp2
    go_ret
    exact ⟨rfl, rfl⟩

end
end Go.Proofs.YtmhnhkigbfdapaaGreatDoor

namespace Go.Proofs.YtmhnhkigbfdapaaGreatDoor
open Go.Sx Go.RowKit Go.Sort Go.Shelf
noncomputable section

theorem cell_new (W : World) (c : Array Value) (t : TypeId) (i : Nat) (v : Value) (h : c[i]? = some v) : (W.alloc (.cells c t)).cell? ⟨W.heap.size, i, none⟩ = some v := by
  have h1 : (W.alloc (.cells c t)).heap[W.heap.size]? = some (.cells c t (0, 0)) := by
    show (W.heap.push (.cells c t (0, 0)))[W.heap.size]? = _
    rw [Array.getElem?_push_size]
  unfold World.cell?
  rw [h1]
  exact h

theorem cell_old (W : World) (o : Obj) (b i : Nat) (v : Value) (h : W.cell? ⟨b, i, none⟩ = some v) : (W.alloc o).cell? ⟨b, i, none⟩ = some v := by
  unfold World.cell? at *
  have h1 : b < W.heap.size := by
    by_cases hb : b < W.heap.size
    · exact hb
    · have h9 : W.heap[b]? = none := Array.getElem?_eq_none (Nat.le_of_not_lt hb)
      rw [h9] at h
      cases h
  have h2 : (W.alloc o).heap[b]? = W.heap[b]? := by
    show (W.heap.push o)[b]? = _
    rw [Array.getElem?_push_lt h1, Array.getElem?_eq_getElem h1]
  rw [h2]
  exact h

theorem size_one (W : World) (a : Obj) : (W.alloc a).heap.size = W.heap.size + 1 := by
  show (W.heap.push a).size = _
  rw [Array.size_push]

def cfR (x y : WatchD) : Int := orI (cmpI x.conn y.conn) (cmpI x.sort y.sort) (cmpS x.path y.path)

set_option maxHeartbeats 0 in
set_option maxRecDepth 100000 in
/-- The closure: which ring comes first. -/
theorem cmpRing (k k' z z' : Int) (x y : WatchD) (W : World) : Calls Tryz.prog 50 #[.agg (ringOf k z x).cells.toArray, .agg (ringOf k' z' y).cells.toArray] W fun e w' => e = .returned (.int .i64 (cfR x y)) ∧ ∃ q os', w' = grow (W.drewN q) os' := by
  have c1 := fun W' => cmpInt_calls x.conn y.conn W'
  have c2 := fun W' => cmpU8_calls x.sort y.sort W'
  have c3 := fun W' => cmpStr_calls x.path y.path W'
  unfold cfR
  generalize cmpI x.conn y.conn = r1 at c1 ⊢
  generalize cmpI x.sort y.sort = r2 at c2 ⊢
  generalize cmpS x.path y.path = r3 at c3 ⊢
  obtain ⟨a, b, c⟩ := x
  obtain ⟨a', b', c'⟩ := y
  simp only [ringOf, RingD.cells] at c1 c2 c3 ⊢
  go_enter Tryz.func50, Tryz.ntmps50
  go_wp2
  have f0 := cell_old _ (.cells #[.int .i64 a', .int .u8 k', .int .u8 b', .string c', .int .i64 z'] 65) _ _ _ (cell_new W #[.int .i64 a, .int .u8 k, .int .u8 b, .string c, .int .i64 z] 65 0 _ rfl)
  have f2 := cell_old _ (.cells #[.int .i64 a', .int .u8 k', .int .u8 b', .string c', .int .i64 z'] 65) _ _ _ (cell_new W #[.int .i64 a, .int .u8 k, .int .u8 b, .string c, .int .i64 z] 65 2 _ rfl)
  have f3 := cell_old _ (.cells #[.int .i64 a', .int .u8 k', .int .u8 b', .string c', .int .i64 z'] 65) _ _ _ (cell_new W #[.int .i64 a, .int .u8 k, .int .u8 b, .string c, .int .i64 z] 65 3 _ rfl)
  have g0 := cell_new (W.alloc (.cells #[.int .i64 a, .int .u8 k, .int .u8 b, .string c, .int .i64 z] 65)) #[.int .i64 a', .int .u8 k', .int .u8 b', .string c', .int .i64 z'] 65 0 _ rfl
  have g2 := cell_new (W.alloc (.cells #[.int .i64 a, .int .u8 k, .int .u8 b, .string c, .int .i64 z] 65)) #[.int .i64 a', .int .u8 k', .int .u8 b', .string c', .int .i64 z'] 65 2 _ rfl
  have g3 := cell_new (W.alloc (.cells #[.int .i64 a, .int .u8 k, .int .u8 b, .string c, .int .i64 z] 65)) #[.int .i64 a', .int .u8 k', .int .u8 b', .string c', .int .i64 z'] 65 3 _ rfl
  rw [size_one] at g0 g2 g3
  obtain ⟨os2, hgr⟩ : ∃ os2, grow W os2 = (W.alloc (.cells #[.int .i64 a, .int .u8 k, .int .u8 b, .string c, .int .i64 z] 65)).alloc (.cells #[.int .i64 a', .int .u8 k', .int .u8 b', .string c', .int .i64 z'] 65) := ⟨_, by rw [alloc_eq_grow, alloc_eq_grow, grow_grow]⟩
  generalize (W.alloc (.cells #[.int .i64 a, .int .u8 k, .int .u8 b, .string c, .int .i64 z] 65)).alloc (.cells #[.int .i64 a', .int .u8 k', .int .u8 b', .string c', .int .i64 z'] 65) = w2 at f0 f2 f3 g0 g2 g3 hgr ⊢
  refine wp_region_still_tail 19 (by kernel_rfl) (by kernel_rfl) ?_
  simp only [List.take_succ_cons, List.take_zero, List.drop_succ_cons, List.drop_zero]
  change wpStill _ _ w2.drew _ _ _
  repeat (first | still_step | still_call (c1 _) | still_call (c2 _) | still_call (c3 _))
  refine wpStill_nil ?_
  change wpList _ _ _ _ _ w2.drew
  clear f0 f2 f3 g0 g2 g3 c1 c2 c3
  obtain ⟨os3, hgr⟩ : ∃ os3, (grow W os3).drew = w2.drew := ⟨os2, by rw [hgr]⟩
  generalize w2.drew = w3 at hgr ⊢
  have co := cmpOr_calls r1 r2 r3 w3.heap.size 3 (w3.alloc (.cells #[.int .i64 r1, .int .i64 r2, .int .i64 r3] 3)) (cell_new _ _ _ 0 _ rfl) (cell_new _ _ _ 1 _ rfl) (cell_new _ _ _ 2 _ rfl)
  go_wp2_with (go_at_call 51; refine co.mono ?_; rintro e w' ⟨rfl, rfl⟩)
  go_ret
  exact ⟨rfl, 1, _, by rw [alloc_eq_grow, ← hgr, show (grow W os3).drew = grow (W.drewN 1) os3 from rfl, grow_grow]⟩

end
end Go.Proofs.YtmhnhkigbfdapaaGreatDoor
