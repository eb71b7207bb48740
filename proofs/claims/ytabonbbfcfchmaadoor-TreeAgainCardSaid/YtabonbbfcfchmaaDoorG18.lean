/-
  Contracts: the paths of all nodes of some lists, rising.
-/
import Derived.Test.YtabonbbfcfchmaaDoorG17
import Derived.Test.YtabonbbfcfchmaaDoorG15
namespace Go.Proofs.YtabonbbfcfchmaaDoor
open Go.Sx Go.RowKit
noncomputable section
open Classical

abbrev StL := List (Value × List (ToldD × Value))

def seenL (g : StL) : List (List UInt8) := g.flatMap fun e => e.2.map fun y => pathL y.1.path

/-- A row of rows of nodes. -/
def StatesR (A : Arena) (x : Value) (g : StL) : Prop := Sl A 1 g.length x (g.map (·.1)) ∧ ∀ e ∈ g, NodesR A e.1 e.2

theorem StatesR.sub {A B : Arena} (h : B.Sub A) {x : Value} {g : StL} (hs : StatesR B x g) : StatesR A x g :=
  ⟨hs.1.sub h, fun e he => ⟨(hs.2 e he).1.sub h, fun y hy => ((hs.2 e he).2 y hy).sub h⟩⟩

theorem val_at {A : Arena} {g o n : Nat} {l : List Value} (h : A.rd g o (n * 1) = some l) (k : Nat) (hk : k < l.length) (hn : n = l.length) : A.rd g (o + k * 1) 1 = some [l[k]] := by
  rw [rd_at h (i := k * 1) (m := 1) (by omega), Nat.mul_one, List.drop_eq_getElem_cons hk]
  rfl

def allPathsS : FSpec := ⟨StL, fun g vs A => ∃ x, vs = [x] ∧ StatesR A x g ∧ (seenL g).length ≤ 1000000 ∧ g.length ≤ 1000000,
  fun g _ A v A' => A.Sub A' ∧ ∃ ps : List (List UInt8), Sl A' 1 ps.length v (ps.map strV) ∧ ps.length ≤ 1000000 ∧ Rising ps ∧ ∀ x, x ∈ ps ↔ x ∈ seenL g⟩

structure PaG where
  i : Nat
  A : Arena
  v : Value
  out : List (List UInt8)

structure PaI (A0 : Arena) (seen : List (List UInt8)) (s : PaG) : Prop where
  sub : A0.Sub s.A
  row : GrowR A0 s.A 1 9 s.out.length s.v (s.out.map strV)
  rising : Rising s.out
  mem : ∀ x, x ∈ s.out ↔ x ∈ seen
  len : s.out.length ≤ seen.length

def paInv1 (A0 : Arena) (g : StL) : LInv := { γ := PaG, G := fun s => s.i ≤ g.length ∧ PaI A0 (seenL (g.take s.i)) s, keepS := [0], keepB := [], sl := fun s => [(4, .v (.int .i64 s.i)), (3, .v s.v)], bl := fun _ => [], ar := fun s => s.A, mu := fun s => g.length - s.i }

def paInv2 (A0 : Arena) (g : StL) (i : Nat) (l : List (ToldD × Value)) : LInv := { γ := PaG, G := fun s => s.i ≤ l.length ∧ PaI A0 (seenL (g.take i) ++ (l.take s.i).map fun y => pathL y.1.path) s, keepS := [0, 4], keepB := [], sl := fun s => [(5, .v (.int .i64 s.i)), (3, .v s.v)], bl := fun _ => [], ar := fun s => s.A, mu := fun s => l.length - s.i }

theorem seen_take (g : StL) (i : Nat) (hi : i < g.length) : seenL (g.take (i + 1)) = seenL (g.take i) ++ g[i].2.map fun y => pathL y.1.path := by
  unfold seenL
  rw [List.take_succ_eq_append_getElem hi, List.flatMap_append, List.flatMap_singleton]

theorem seen_le (g : StL) (i : Nat) : (seenL (g.take i)).length ≤ (seenL g).length := by
  have h : seenL g = seenL (g.take i) ++ seenL (g.drop i) := by
    unfold seenL
    rw [← List.flatMap_append, List.take_append_drop]
  rw [h, List.length_append]; omega

theorem beq_no {m n : Nat} (h : n < m) : m.beq n = false := by
  cases hb : m.beq n with
  | false => rfl
  | true => have := Nat.eq_of_beq_eq_true hb; omega

set_option maxRecDepth 100000 in
set_option maxHeartbeats 0 in
theorem allPaths_ok : FOk Tryd.prog 10 allPathsS := by
  refine fok_v mixed fun (g : StL) vs A hp => ?_
  obtain ⟨x, rfl, ⟨⟨ao, c, rfl, hc, hxl, ha1, ha2, ha3⟩, hN⟩, hsz, hgl⟩ : ∃ x, vs = [x] ∧ StatesR A x g ∧ (seenL g).length ≤ 1000000 ∧ g.length ≤ 1000000 := hp
  refine ⟨noC, tabO Tryd.prog noC (tabO Tryd.prog noC (tabO Tryd.prog noC noL 60 [(10, 4)]) 60 [(10, 2)]) 60 [(10, 0)], 60, noC_sound _, tabO_sound mixed (noC_sound _) (tabO_sound mixed (noC_sound _) (tabO_sound mixed (noC_sound _) (noL_sound _) _ _) _ _) _ _, fun blk os out tape D hD => ?_⟩
  conv => lhs; whnf
  have hI0 : PaI A (seenL (g.take 0)) ⟨0, A, .slice none 0 0, []⟩ := ⟨Arena.Sub.refl _, GrowR.nil _ _ _ _, List.Pairwise.nil, fun _ => Iff.rfl, Nat.le_refl _⟩
  refine (hD _).2 ⟨paInv1 A g, ⟨(⟨0, A, .slice none 0 0, []⟩ : PaG), ⟨Nat.zero_le _, hI0⟩, ⟨rfl, rfl, trivial⟩, trivial, rfl⟩, fun (s : PaG) hG => ⟨⟨trivial, trivial, trivial⟩, trivial, ?_⟩⟩
  obtain ⟨i, A1, v1, out1⟩ := s
  obtain ⟨hi, h1⟩ : i ≤ g.length ∧ PaI A (seenL (g.take i)) ⟨i, A1, v1, out1⟩ := hG
  conv => lhs; whnf
  refine split_dec (fun hlt => ?_) (fun hlt => ?_) <;> (conv => lhs; whnf)
  rotate_left
  · have e : i = g.length := by
      have hlt : ¬ (i : Int) < (g.length : Int) := hlt
      omega
    subst e
    rw [List.take_length] at h1
    have hlen := h1.len
    have hend : allPathsS.post g [.slice ao g.length c] A v1 A1 := ⟨h1.sub, out1, h1.row.sl, by dsimp only at hlen; omega, h1.rising, h1.mem⟩
    exact (hD _).2 hend
  have hig : i < g.length := by
    have hlt : (i : Int) < (g.length : Int) := hlt
    omega
  obtain ⟨gs, os', rfl, hra⟩ := Sl.at_ hc ha1 ha2 ha3 (by omega)
  obtain ⟨⟨w, l⟩, hx⟩ : ∃ e, e = g[i] := ⟨_, rfl⟩
  have hrw := val_at hra i (by rw [List.length_map]; exact hig) (by rw [List.length_map])
  rw [List.getElem_map, ← hx] at hrw
  have hNl : NodesR A w l := hN (w, l) (by rw [hx]; exact List.getElem_mem _)
  have hst := seen_take g i hig
  rw [← hx] at hst
  have hsl := seen_le g (i + 1)
  rw [hst, List.length_append, List.length_map] at hsl
  dsimp only at hst hsl hrw
  obtain ⟨⟨aw, cw, rfl, hcw, hwl, hw1, hw2, hw3⟩, hNd⟩ := hNl
  have i0 : (0 : Int) ≤ (i : Int) ∧ (i : Int) < (g.length : Int) := by omega
  have hI2 : PaI A (seenL (g.take i) ++ (l.take 0).map fun y => pathL y.1.path) ⟨0, A1, v1, out1⟩ := by
    rw [List.take_zero, List.map_nil, List.append_nil]
    exact ⟨h1.sub, h1.row, h1.rising, h1.mem, h1.len⟩
  refine (hD _).2 ⟨paInv2 A g i l, ⟨(⟨0, A1, v1, out1⟩ : PaG), ⟨Nat.zero_le _, hI2⟩, ⟨rfl, rfl, trivial⟩, trivial, rfl⟩, fun (s : PaG) hG => ⟨⟨trivial, trivial, trivial⟩, trivial, ?_⟩⟩
  obtain ⟨k, Ak, vk, outk⟩ := s
  obtain ⟨hk, hI⟩ : k ≤ l.length ∧ PaI A (seenL (g.take i) ++ (l.take k).map fun y => pathL y.1.path) ⟨k, Ak, vk, outk⟩ := hG
  obtain ⟨hAk, hrow, hris, hmem, hlen⟩ := hI
  dsimp only at hAk hrow hris hmem hlen
  have hrk := rd_sub hAk hrw
  conv => lhs; whnf
  repeat (first | refine go_in i0 ?_ | refine go_rd hrk ?_
          conv => lhs; whnf)
  refine split_dec (fun hlt2 => ?_) (fun hlt2 => ?_) <;> (conv => lhs; whnf)
  rotate_left
  · have e : k = l.length := by
      have hlt : ¬ (k : Int) < (l.length : Int) := hlt2
      omega
    subst e
    rw [List.take_length, ← hst] at hmem hlen
    exact (hD _).2 ⟨(⟨i + 1, Ak, vk, outk⟩ : PaG), ⟨⟨by show i + 1 ≤ g.length; omega, hAk, hrow, hris, hmem, hlen⟩, ⟨inc_slot (k := i) (by omega), rfl, trivial⟩, trivial, rfl⟩, by show g.length - (i + 1) < g.length - i; omega, ⟨rfl, trivial⟩, trivial⟩
  have hkl : k < l.length := by
    have hlt : (k : Int) < (l.length : Int) := hlt2
    omega
  obtain ⟨gw, ow, rfl, hrb⟩ := Sl.at_ hcw hw1 hw2 hw3 (by omega)
  obtain ⟨⟨⟨pb, d, st⟩, vd⟩, hy⟩ : ∃ y, y = l[k] := ⟨_, rfl⟩
  obtain ⟨p, hpb⟩ : ∃ p, p = pathL pb := ⟨_, rfl⟩
  have hr2 := rd_sub hAk (rd_at (row_at (enc := nodeC) (fun _ => rfl) hrb k hkl rfl) (i := 0) (m := 1) (by omega))
  rw [Nat.add_zero, List.drop_zero, ← hy] at hr2
  have hr2 : Ak.rd gw (ow + k * 12) 1 = some [.string pb] := hr2
  have k0 : (0 : Int) ≤ (k : Int) ∧ (k : Int) < (l.length : Int) := by omega
  have hsn : (seenL (g.take i) ++ (l.take (k + 1)).map fun y => pathL y.1.path) = (seenL (g.take i) ++ (l.take k).map fun y => pathL y.1.path) ++ [p] := by
    rw [List.take_succ_eq_append_getElem hkl, ← hy, List.map_append, List.map_singleton, List.append_assoc, hpb]
  have hsn2 : (seenL (g.take i) ++ (l.take k).map fun y => pathL y.1.path).length + 1 ≤ 1000000 := by
    rw [List.length_append, List.length_map, List.length_take]; omega
  generalize hseen : (seenL (g.take i) ++ (l.take k).map fun y => pathL y.1.path) = seen at hmem hlen hsn hsn2
  obtain ⟨base, c9, rfl, hbase, hP, hA⟩ := hrow.formN
  repeat (first | refine go_in i0 ?_ | refine go_rd hrk ?_ | refine go_in k0 ?_ | refine go_rd hr2 ?_
          conv => lhs; whnf)
  refine (hD _).2 ⟨cnt Ak 7 [0, 3, 4, 5, 6] [] outk.length fun q => ∀ x ∈ outk.take q, ltL x p = true, ⟨(0 : Nat), ⟨Nat.zero_le _, by simp⟩, ⟨rfl, trivial⟩, trivial, rfl⟩, fun (q : Nat) hq => ⟨⟨trivial, trivial⟩, trivial, ?_⟩⟩
  simp only [cnt] at hq
  obtain ⟨hql, hqlt⟩ := hq
  conv => lhs; whnf
  refine split_dec (fun hlt3 => ?_) (fun hlt3 => ?_)
  · have hqo : q < outk.length := by
      have hlt3 : (q : Int) < (outk.length : Int) := hlt3
      omega
    have q0 : (0 : Int) ≤ (q : Int) ∧ (q : Int) < (outk.length : Int) := by omega
    rcases hbase with rfl | ⟨g0, rfl⟩
    · exact absurd ((hP 1 16 (by omega) (by omega)).none_ rfl).1 (by omega)
    have hrq : Ak.rd g0 0 (outk.length * 1) = some (outk.map strV) := by
      have := (hP 1 16 (by omega) (by omega)).rd
      have h2 : (if outk.length * 1 = 0 then some [] else Ak.rd g0 0 (outk.length * 1)) = some (outk.map strV) := this
      rw [if_neg (by omega)] at h2
      exact h2
    have hr3 := text_at hrq q hqo rfl
    conv => lhs; whnf
    refine go_in q0 ?_
    conv => lhs; whnf
    refine go_rd hr3 ?_
    conv => lhs; whnf
    refine split_b (fun hb => ?_) (fun hb => ?_) <;> (conv => lhs; whnf)
    · have hb : ltL outk[q] p = true := by rw [hpb]; exact hb
      refine (hD _).2 ⟨(q + 1 : Nat), ⟨⟨by omega, ?_⟩, ⟨inc_slot (by omega), trivial⟩, trivial, rfl⟩, ?_, ⟨rfl, rfl, rfl, rfl, rfl, trivial⟩, trivial⟩
      · show ∀ x ∈ outk.take (q + 1), ltL x p = true
        rw [List.take_succ_eq_append_getElem hqo]
        intro x hm
        rcases List.mem_append.1 hm with hm | hm
        · exact hqlt x hm
        · simp only [List.mem_singleton] at hm
          rw [hm]; exact hb
      · show outk.length - (q + 1) < outk.length - q
        omega
    have hb : ltL outk[q] p = false := by rw [hpb]; exact hb
    refine go_dec (by omega) ?_
    conv => lhs; whnf
    refine go_in q0 ?_
    conv => lhs; whnf
    refine go_rd hr3 ?_
    conv => lhs; whnf
    refine split_b (fun he => ?_) (fun he => ?_) <;> (conv => lhs; whnf)
    · have he : outk[q] = p := by rw [hpb]; exact beqL_iff.1 he
      refine (hD _).2 ⟨(⟨k + 1, Ak, .slice (addrA (some (g0, 0))) outk.length c9, outk⟩ : PaG), ⟨⟨by show k + 1 ≤ l.length; omega, hAk, hrow, hris, fun x => ?_, by show outk.length ≤ _; rw [hsn, List.length_append]; omega⟩, ⟨inc_slot (k := k) (by omega), rfl, trivial⟩, trivial, rfl⟩, by show l.length - (k + 1) < l.length - k; omega, ⟨rfl, rfl, trivial⟩, trivial⟩
      show x ∈ outk ↔ _
      rw [hsn, List.mem_append, ← hmem, List.mem_singleton]
      exact ⟨.inl, fun h => h.elim id fun e => by rw [e, ← he]; exact List.getElem_mem _⟩
    have he : outk[q] ≠ p := fun e => beqL_ff.1 he (by rw [e, hpb]; rfl)
    have hge : ∀ (hk : q < outk.length), ltL p outk[q] = true := fun hk => by
      cases hx : ltL p outk[q] with
      | true => rfl
      | false => exact absurd (ltL_tri hb hx) he
    have hcap : outk.length ≤ c9 := hrow.cap_le
    have hn0 : GrowR Ak Ak 1 9 0 (.slice (addrA none) 0 0) [] := GrowR.nil _ _ _ _
    obtain ⟨hP0, hA0⟩ := hn0.formB
    have hs1 : (if q = 0 then some [] else Ak.rd g0 (0 + bif c9.beq 0 then 0 else 0 * 1) (q * 1)) = some ((outk.take q).map strV) := src_take hrq (by omega) (by cases c9.beq 0 <;> rfl)
    have hs2 : ∀ A4, Ak.Sub A4 → (if outk.length - q = 0 then some [] else A4.rd g0 (0 + bif c9.beq q then 0 else q * 1) ((outk.length - q) * 1)) = some ((outk.drop q).map strV) := fun A4 h4 => src_drop (rd_sub h4 hrq) rfl fun hlt => by
      rw [beq_no (by omega)]
      show 0 + q * 1 = q
      omega
    have hgb : ((decide ((0 : Int) ≤ 0) && decide ((0 : Int) ≤ (q : Int))) && (false || decide ((q : Int) ≤ (c9 : Int)))) = true := Bool.and_eq_true_iff.2 ⟨Bool.and_eq_true_iff.2 ⟨decide_eq_true (by omega), decide_eq_true (by omega)⟩, Bool.or_eq_true_iff.2 (.inr (decide_eq_true (by omega)))⟩
    have hgc : ((decide ((0 : Int) ≤ (q : Int)) && decide ((q : Int) ≤ (outk.length : Int))) && (true || decide ((outk.length : Int) ≤ (c9 : Int)))) = true := Bool.and_eq_true_iff.2 ⟨Bool.and_eq_true_iff.2 ⟨decide_eq_true (by omega), decide_eq_true (by omega)⟩, Bool.or_eq_true_iff.2 (.inl rfl)⟩
    refine go_b hgb ?_
    conv => lhs; whnf
    refine (hD _).2 ⟨[], (outk.take q).map strV, rfl, ?_, by rw [List.length_map, List.length_take]; show min q outk.length = q * 1; omega, fun v hv => (by
      obtain ⟨y, _, rfl⟩ := List.mem_map.1 hv
      rfl), by show 0 + q ≤ 9223372036854775807; omega, (hP0 q 16 (by omega) (by omega)).cap, rfl, fun _ => ⟨rfl, rfl⟩, fun _ _ h => (by cases h), fun v A2 hAp => ?_⟩
    · exact hs1
    obtain ⟨hG2, hk2⟩ := hA0 q _ v A2 (by rw [List.length_map, List.length_take, Nat.mul_one]; omega) (fun _ h => h) hAp
    rw [Nat.zero_add, List.nil_append] at hG2
    have s2 : Ak.Sub A2 := fun j o hj => by rw [hk2 j o hj]; exact hj
    obtain ⟨b2, c2, rfl, hb2, -⟩ := hG2.formN
    conv => lhs; whnf
    refine (hD _).2 fun gb A3 hN => ?_
    have hN : A2.New A3 gb #[.string pb] 9 := hN
    obtain ⟨hP3, hA3⟩ := (hG2.sub hN.sub).formB
    have s3 : Ak.Sub A3 := s2.trans hN.sub
    have hd3 : ∀ j, A3.blk j = none → Ak.blk j = none := fun j hj => by
      cases h9 : Ak.blk j with
      | none => rfl
      | some o => rw [s3 _ _ h9] at hj; cases hj
    have hrow3 : A3.rd gb 0 (1 * 1) = some [.string pb] := hN.rd (o := 0) (n := 1 * 1) (by show 0 + 1 * 1 ≤ 1; omega)
    have hP3 := hP3 1 16 (by omega) (by omega)
    rcases hb2 with rfl | ⟨g2, rfl⟩ <;> (conv => lhs; whnf)
    all_goals
      refine (hD _).2 ⟨(outk.take q).map strV, [.string pb], hP3.rd, ?_, rfl, ?_, ?_, hP3.cap, rfl, hP3.none_, fun g' o' he' hle' _ => hP3.room 1 rfl g' o' he' hle', fun v A4 hAp => ?_⟩
      · show (if 1 * 1 = 0 then some [] else A3.rd gb 0 (1 * 1)) = _
        rw [if_neg (by omega)]; exact hrow3
      · intro v hv
        simp only [List.mem_cons, List.not_mem_nil, or_false] at hv
        subst hv; rfl
      · show q + 1 ≤ 9223372036854775807
        omega
      obtain ⟨hG4, hk4⟩ := hA3 1 [.string pb] v A4 rfl hd3 hAp
      have s4 : Ak.Sub A4 := fun j o hj => by rw [hk4 j o hj]; exact s3 _ _ hj
      obtain ⟨b4, c4, rfl, hb4, -⟩ := hG4.formN
      obtain ⟨hP4, hA4⟩ := hG4.formB
      have hP4 := hP4 (outk.length - q) 16 (by omega) (by omega)
      have hd4 : ∀ j, A4.blk j = none → Ak.blk j = none := fun j hj => by
        cases h9 : Ak.blk j with
        | none => rfl
        | some o => rw [s4 _ _ h9] at hj; cases hj
      conv => lhs; whnf
      refine go_b hgc ?_
      conv => lhs; whnf
      rcases hb4 with rfl | ⟨g4, rfl⟩ <;> (conv => lhs; whnf)
      all_goals
        refine (hD _).2 ⟨(outk.take q).map strV ++ ([Value.string pb] : List Value), (outk.drop q).map strV, hP4.rd, ?_, by rw [List.length_map, List.length_drop]; show outk.length - q = (outk.length - q) * 1; omega, fun v hv => (by
          obtain ⟨y, _, rfl⟩ := List.mem_map.1 hv
          rfl), by show (q + 1) + (outk.length - q) ≤ 9223372036854775807; omega, hP4.cap, rfl, hP4.none_, fun g' o' he' hle' _ => hP4.room _ (by rw [List.length_map, List.length_drop]; omega) g' o' he' hle', fun v A5 hAp => ?_⟩
        · exact hs2 A4 s4
        obtain ⟨hG5, hk5⟩ := hA4 (outk.length - q) _ v A5 (by rw [List.length_map, List.length_drop]; omega) hd4 hAp
        have s5 : Ak.Sub A5 := fun j o hj => by rw [hk5 j o hj]; exact s4 _ _ hj
        have hnew : outk.take q ++ p :: outk.drop q = outk.take q ++ [p] ++ outk.drop q := by simp
        have hlen5 : (outk.take q ++ p :: outk.drop q).length = outk.length + 1 := by
          rw [List.length_append, List.length_cons, List.length_take, List.length_drop]; omega
        have hpv : Value.string pb = strV p := by rw [hpb]; rfl
        have hrow5 : GrowR A A5 1 9 (outk.take q ++ p :: outk.drop q).length v ((outk.take q ++ p :: outk.drop q).map strV) := by
          have h5 := grow_know (K' := A) hG5 fun j o h1 h2 => (by
            cases h9 : A.blk j with
            | none => rfl
            | some o' => rw [hAk _ _ h9] at h1; cases h1)
          have e1 : (q + 1) + (outk.length - q) = outk.length + 1 := by omega
          rw [e1, hpv] at h5
          rw [hlen5, hnew, List.map_append, List.map_append, List.map_singleton]
          exact h5
        have hI5 : PaI A (seen ++ [p]) ⟨k + 1, A5, v, outk.take q ++ p :: outk.drop q⟩ := ⟨hAk.trans s5, hrow5, ins_rising hris hqlt hge, fun x => by
          show x ∈ outk.take q ++ p :: outk.drop q ↔ _
          rw [ins_mem, List.mem_append, List.mem_singleton, hmem], by show (outk.take q ++ p :: outk.drop q).length ≤ _; rw [hlen5, List.length_append]; show _ ≤ seen.length + 1; omega⟩
        conv => lhs; whnf
        exact (hD _).2 ⟨(⟨k + 1, A5, v, outk.take q ++ p :: outk.drop q⟩ : PaG), ⟨⟨by show k + 1 ≤ l.length; omega, by rw [hsn]; exact hI5⟩, ⟨inc_slot (k := k) (by omega), rfl, trivial⟩, trivial, rfl⟩, by show l.length - (k + 1) < l.length - k; omega, ⟨rfl, rfl, trivial⟩, trivial⟩
  · have hqe : q = outk.length := by
      have hlt3 : ¬ (q : Int) < (outk.length : Int) := hlt3
      omega
    conv => lhs; whnf
    refine no_dec (by omega) ?_
    conv => lhs; whnf
    have hcap : outk.length ≤ c9 := hrow.cap_le
    have hn0 : GrowR Ak Ak 1 9 0 (.slice (addrA none) 0 0) [] := GrowR.nil _ _ _ _
    obtain ⟨hP0, hA0⟩ := hn0.formB
    have hge : ∀ (hk : q < outk.length), ltL p outk[q] = true := fun hk => absurd hk (by omega)
    rcases hbase with rfl | ⟨g0, rfl⟩
    · have hz : outk.length = 0 := ((hP 1 16 (by omega) (by omega)).none_ rfl).1
      have hz9 : c9 = 0 := ((hP 1 16 (by omega) (by omega)).none_ rfl).2
      have hzq : q = 0 := by omega
      subst hz9
      subst hzq
      have hs1 : (if 0 = 0 then some [] else none) = some ((outk.take 0).map strV) := by
        rw [if_pos rfl, List.take_zero]; rfl
      have hs2 : ∀ A4, Ak.Sub A4 → (if outk.length - 0 = 0 then some [] else none) = some ((outk.drop 0).map strV) := fun A4 h4 => by
        rw [if_pos (by omega), List.length_eq_zero_iff.1 hz]; rfl
      conv => lhs; whnf
      have hgb : ((decide ((0 : Int) ≤ 0) && decide ((0 : Int) ≤ (0 : Int))) && (false || decide ((0 : Int) ≤ (0 : Int)))) = true := Bool.and_eq_true_iff.2 ⟨Bool.and_eq_true_iff.2 ⟨decide_eq_true (by omega), decide_eq_true (by omega)⟩, Bool.or_eq_true_iff.2 (.inr (decide_eq_true (by omega)))⟩
      have hgc : ((decide ((0 : Int) ≤ (0 : Int)) && decide ((0 : Int) ≤ (outk.length : Int))) && (true || decide ((outk.length : Int) ≤ (0 : Int)))) = true := Bool.and_eq_true_iff.2 ⟨Bool.and_eq_true_iff.2 ⟨decide_eq_true (by omega), decide_eq_true (by omega)⟩, Bool.or_eq_true_iff.2 (.inl rfl)⟩
      refine (hD _).2 ⟨[], (outk.take 0).map strV, rfl, ?_, by rw [List.length_map, List.length_take]; show min 0 outk.length = 0 * 1; omega, fun v hv => (by
        obtain ⟨y, _, rfl⟩ := List.mem_map.1 hv
        rfl), by show 0 + 0 ≤ 9223372036854775807; omega, (hP0 0 16 (by omega) (by omega)).cap, rfl, fun _ => ⟨rfl, rfl⟩, fun _ _ h => (by cases h), fun v A2 hAp => ?_⟩
      · exact hs1
      obtain ⟨hG2, hk2⟩ := hA0 0 _ v A2 (by rw [List.length_map, List.length_take, Nat.mul_one]; omega) (fun _ h => h) hAp
      rw [Nat.zero_add, List.nil_append] at hG2
      have s2 : Ak.Sub A2 := fun j o hj => by rw [hk2 j o hj]; exact hj
      obtain ⟨b2, c2, rfl, hb2, -⟩ := hG2.formN
      conv => lhs; whnf
      refine (hD _).2 fun gb A3 hN => ?_
      have hN : A2.New A3 gb #[.string pb] 9 := hN
      obtain ⟨hP3, hA3⟩ := (hG2.sub hN.sub).formB
      have s3 : Ak.Sub A3 := s2.trans hN.sub
      have hd3 : ∀ j, A3.blk j = none → Ak.blk j = none := fun j hj => by
        cases h9 : Ak.blk j with
        | none => rfl
        | some o => rw [s3 _ _ h9] at hj; cases hj
      have hrow3 : A3.rd gb 0 (1 * 1) = some [.string pb] := hN.rd (o := 0) (n := 1 * 1) (by show 0 + 1 * 1 ≤ 1; omega)
      have hP3 := hP3 1 16 (by omega) (by omega)
      rcases hb2 with rfl | ⟨g2, rfl⟩ <;> (conv => lhs; whnf)
      all_goals
        refine (hD _).2 ⟨(outk.take 0).map strV, [.string pb], hP3.rd, ?_, rfl, ?_, ?_, hP3.cap, rfl, hP3.none_, fun g' o' he' hle' _ => hP3.room 1 rfl g' o' he' hle', fun v A4 hAp => ?_⟩
        · show (if 1 * 1 = 0 then some [] else A3.rd gb 0 (1 * 1)) = _
          rw [if_neg (by omega)]; exact hrow3
        · intro v hv
          simp only [List.mem_cons, List.not_mem_nil, or_false] at hv
          subst hv; rfl
        · show 0 + 1 ≤ 9223372036854775807
          omega
        obtain ⟨hG4, hk4⟩ := hA3 1 [.string pb] v A4 rfl hd3 hAp
        have s4 : Ak.Sub A4 := fun j o hj => by rw [hk4 j o hj]; exact s3 _ _ hj
        obtain ⟨b4, c4, rfl, hb4, -⟩ := hG4.formN
        obtain ⟨hP4, hA4⟩ := hG4.formB
        have hP4 := hP4 (outk.length - 0) 16 (by omega) (by omega)
        have hd4 : ∀ j, A4.blk j = none → Ak.blk j = none := fun j hj => by
          cases h9 : Ak.blk j with
          | none => rfl
          | some o => rw [s4 _ _ h9] at hj; cases hj
        conv => lhs; whnf
        rcases hb4 with rfl | ⟨g4, rfl⟩ <;> (conv => lhs; whnf)
        all_goals
          refine (hD _).2 ⟨(outk.take 0).map strV ++ ([Value.string pb] : List Value), (outk.drop 0).map strV, hP4.rd, ?_, by rw [List.length_map, List.length_drop]; show outk.length - 0 = (outk.length - 0) * 1; omega, fun v hv => (by
            obtain ⟨y, _, rfl⟩ := List.mem_map.1 hv
            rfl), by show (0 + 1) + (outk.length - 0) ≤ 9223372036854775807; omega, hP4.cap, rfl, hP4.none_, fun g' o' he' hle' _ => hP4.room _ (by rw [List.length_map, List.length_drop]; omega) g' o' he' hle', fun v A5 hAp => ?_⟩
          · exact hs2 A4 s4
          obtain ⟨hG5, hk5⟩ := hA4 (outk.length - 0) _ v A5 (by rw [List.length_map, List.length_drop]; omega) hd4 hAp
          have s5 : Ak.Sub A5 := fun j o hj => by rw [hk5 j o hj]; exact s4 _ _ hj
          have hnew : outk.take 0 ++ p :: outk.drop 0 = outk.take 0 ++ [p] ++ outk.drop 0 := by simp
          have hlen5 : (outk.take 0 ++ p :: outk.drop 0).length = outk.length + 1 := by
            rw [List.length_append, List.length_cons, List.length_take, List.length_drop]; omega
          have hpv : Value.string pb = strV p := by rw [hpb]; rfl
          have hrow5 : GrowR A A5 1 9 (outk.take 0 ++ p :: outk.drop 0).length v ((outk.take 0 ++ p :: outk.drop 0).map strV) := by
            have h5 := grow_know (K' := A) hG5 fun j o h1 h2 => (by
              cases h9 : A.blk j with
              | none => rfl
              | some o' => rw [hAk _ _ h9] at h1; cases h1)
            have e1 : (0 + 1) + (outk.length - 0) = outk.length + 1 := by omega
            rw [e1, hpv] at h5
            rw [hlen5, hnew, List.map_append, List.map_append, List.map_singleton]
            exact h5
          have hI5 : PaI A (seen ++ [p]) ⟨k + 1, A5, v, outk.take 0 ++ p :: outk.drop 0⟩ := ⟨hAk.trans s5, hrow5, ins_rising hris hqlt hge, fun x => by
            show x ∈ outk.take 0 ++ p :: outk.drop 0 ↔ _
            rw [ins_mem, List.mem_append, List.mem_singleton, hmem], by show (outk.take 0 ++ p :: outk.drop 0).length ≤ _; rw [hlen5, List.length_append]; show _ ≤ seen.length + 1; omega⟩
          conv => lhs; whnf
          exact (hD _).2 ⟨(⟨k + 1, A5, v, outk.take 0 ++ p :: outk.drop 0⟩ : PaG), ⟨⟨by show k + 1 ≤ l.length; omega, by rw [hsn]; exact hI5⟩, ⟨inc_slot (k := k) (by omega), rfl, trivial⟩, trivial, rfl⟩, by show l.length - (k + 1) < l.length - k; omega, ⟨rfl, rfl, trivial⟩, trivial⟩
    · have hrq : baseRd Ak (some (g0, 0)) (outk.length * 1) = some (outk.map strV) := (hP 1 16 (by omega) (by omega)).rd
      have hrq2 : outk.length ≠ 0 → Ak.rd g0 0 (outk.length * 1) = some (outk.map strV) := fun h0 => by
        have h2 : (if outk.length * 1 = 0 then some [] else Ak.rd g0 0 (outk.length * 1)) = some (outk.map strV) := hrq
        rw [if_neg (by omega)] at h2
        exact h2
      have hs1 : (if q = 0 then some [] else Ak.rd g0 (0 + bif c9.beq 0 then 0 else 0 * 1) (q * 1)) = some ((outk.take q).map strV) := by
        by_cases h0 : q = 0
        · rw [if_pos h0, h0, List.take_zero]; rfl
        · rw [if_neg h0]
          have := src_take (q := q) (o := 0 + bif c9.beq 0 then 0 else 0 * 1) (hrq2 (by omega)) (by omega) (by cases c9.beq 0 <;> rfl)
          rw [if_neg h0] at this
          exact this
      have hs2 : ∀ A4, Ak.Sub A4 → (if outk.length - q = 0 then some [] else A4.rd g0 (0 + bif c9.beq q then 0 else q * 1) ((outk.length - q) * 1)) = some ((outk.drop q).map strV) := fun A4 h4 => by
        rw [if_pos (by omega), List.drop_eq_nil_of_le (by omega)]; rfl
      conv => lhs; whnf
      have hgb : ((decide ((0 : Int) ≤ 0) && decide ((0 : Int) ≤ (q : Int))) && (false || decide ((q : Int) ≤ (c9 : Int)))) = true := Bool.and_eq_true_iff.2 ⟨Bool.and_eq_true_iff.2 ⟨decide_eq_true (by omega), decide_eq_true (by omega)⟩, Bool.or_eq_true_iff.2 (.inr (decide_eq_true (by omega)))⟩
      have hgc : ((decide ((0 : Int) ≤ (q : Int)) && decide ((q : Int) ≤ (outk.length : Int))) && (true || decide ((outk.length : Int) ≤ (c9 : Int)))) = true := Bool.and_eq_true_iff.2 ⟨Bool.and_eq_true_iff.2 ⟨decide_eq_true (by omega), decide_eq_true (by omega)⟩, Bool.or_eq_true_iff.2 (.inl rfl)⟩
      refine go_b hgb ?_
      conv => lhs; whnf
      refine (hD _).2 ⟨[], (outk.take q).map strV, rfl, ?_, by rw [List.length_map, List.length_take]; show min q outk.length = q * 1; omega, fun v hv => (by
        obtain ⟨y, _, rfl⟩ := List.mem_map.1 hv
        rfl), by show 0 + q ≤ 9223372036854775807; omega, (hP0 q 16 (by omega) (by omega)).cap, rfl, fun _ => ⟨rfl, rfl⟩, fun _ _ h => (by cases h), fun v A2 hAp => ?_⟩
      · exact hs1
      obtain ⟨hG2, hk2⟩ := hA0 q _ v A2 (by rw [List.length_map, List.length_take, Nat.mul_one]; omega) (fun _ h => h) hAp
      rw [Nat.zero_add, List.nil_append] at hG2
      have s2 : Ak.Sub A2 := fun j o hj => by rw [hk2 j o hj]; exact hj
      obtain ⟨b2, c2, rfl, hb2, -⟩ := hG2.formN
      conv => lhs; whnf
      refine (hD _).2 fun gb A3 hN => ?_
      have hN : A2.New A3 gb #[.string pb] 9 := hN
      obtain ⟨hP3, hA3⟩ := (hG2.sub hN.sub).formB
      have s3 : Ak.Sub A3 := s2.trans hN.sub
      have hd3 : ∀ j, A3.blk j = none → Ak.blk j = none := fun j hj => by
        cases h9 : Ak.blk j with
        | none => rfl
        | some o => rw [s3 _ _ h9] at hj; cases hj
      have hrow3 : A3.rd gb 0 (1 * 1) = some [.string pb] := hN.rd (o := 0) (n := 1 * 1) (by show 0 + 1 * 1 ≤ 1; omega)
      have hP3 := hP3 1 16 (by omega) (by omega)
      rcases hb2 with rfl | ⟨g2, rfl⟩ <;> (conv => lhs; whnf)
      all_goals
        refine (hD _).2 ⟨(outk.take q).map strV, [.string pb], hP3.rd, ?_, rfl, ?_, ?_, hP3.cap, rfl, hP3.none_, fun g' o' he' hle' _ => hP3.room 1 rfl g' o' he' hle', fun v A4 hAp => ?_⟩
        · show (if 1 * 1 = 0 then some [] else A3.rd gb 0 (1 * 1)) = _
          rw [if_neg (by omega)]; exact hrow3
        · intro v hv
          simp only [List.mem_cons, List.not_mem_nil, or_false] at hv
          subst hv; rfl
        · show q + 1 ≤ 9223372036854775807
          omega
        obtain ⟨hG4, hk4⟩ := hA3 1 [.string pb] v A4 rfl hd3 hAp
        have s4 : Ak.Sub A4 := fun j o hj => by rw [hk4 j o hj]; exact s3 _ _ hj
        obtain ⟨b4, c4, rfl, hb4, -⟩ := hG4.formN
        obtain ⟨hP4, hA4⟩ := hG4.formB
        have hP4 := hP4 (outk.length - q) 16 (by omega) (by omega)
        have hd4 : ∀ j, A4.blk j = none → Ak.blk j = none := fun j hj => by
          cases h9 : Ak.blk j with
          | none => rfl
          | some o => rw [s4 _ _ h9] at hj; cases hj
        conv => lhs; whnf
        refine go_b hgc ?_
        conv => lhs; whnf
        rcases hb4 with rfl | ⟨g4, rfl⟩ <;> (conv => lhs; whnf)
        all_goals
          refine (hD _).2 ⟨(outk.take q).map strV ++ ([Value.string pb] : List Value), (outk.drop q).map strV, hP4.rd, ?_, by rw [List.length_map, List.length_drop]; show outk.length - q = (outk.length - q) * 1; omega, fun v hv => (by
            obtain ⟨y, _, rfl⟩ := List.mem_map.1 hv
            rfl), by show (q + 1) + (outk.length - q) ≤ 9223372036854775807; omega, hP4.cap, rfl, hP4.none_, fun g' o' he' hle' _ => hP4.room _ (by rw [List.length_map, List.length_drop]; omega) g' o' he' hle', fun v A5 hAp => ?_⟩
          · exact hs2 A4 s4
          obtain ⟨hG5, hk5⟩ := hA4 (outk.length - q) _ v A5 (by rw [List.length_map, List.length_drop]; omega) hd4 hAp
          have s5 : Ak.Sub A5 := fun j o hj => by rw [hk5 j o hj]; exact s4 _ _ hj
          have hnew : outk.take q ++ p :: outk.drop q = outk.take q ++ [p] ++ outk.drop q := by simp
          have hlen5 : (outk.take q ++ p :: outk.drop q).length = outk.length + 1 := by
            rw [List.length_append, List.length_cons, List.length_take, List.length_drop]; omega
          have hpv : Value.string pb = strV p := by rw [hpb]; rfl
          have hrow5 : GrowR A A5 1 9 (outk.take q ++ p :: outk.drop q).length v ((outk.take q ++ p :: outk.drop q).map strV) := by
            have h5 := grow_know (K' := A) hG5 fun j o h1 h2 => (by
              cases h9 : A.blk j with
              | none => rfl
              | some o' => rw [hAk _ _ h9] at h1; cases h1)
            have e1 : (q + 1) + (outk.length - q) = outk.length + 1 := by omega
            rw [e1, hpv] at h5
            rw [hlen5, hnew, List.map_append, List.map_append, List.map_singleton]
            exact h5
          have hI5 : PaI A (seen ++ [p]) ⟨k + 1, A5, v, outk.take q ++ p :: outk.drop q⟩ := ⟨hAk.trans s5, hrow5, ins_rising hris hqlt hge, fun x => by
            show x ∈ outk.take q ++ p :: outk.drop q ↔ _
            rw [ins_mem, List.mem_append, List.mem_singleton, hmem], by show (outk.take q ++ p :: outk.drop q).length ≤ _; rw [hlen5, List.length_append]; show _ ≤ seen.length + 1; omega⟩
          conv => lhs; whnf
          exact (hD _).2 ⟨(⟨k + 1, A5, v, outk.take q ++ p :: outk.drop q⟩ : PaG), ⟨⟨by show k + 1 ≤ l.length; omega, by rw [hsn]; exact hI5⟩, ⟨inc_slot (k := k) (by omega), rfl, trivial⟩, trivial, rfl⟩, by show l.length - (k + 1) < l.length - k; omega, ⟨rfl, rfl, trivial⟩, trivial⟩

end
end Go.Proofs.YtabonbbfcfchmaaDoor
