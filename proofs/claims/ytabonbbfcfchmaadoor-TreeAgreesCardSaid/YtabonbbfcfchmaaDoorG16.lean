/-
  Contracts: the paths of a session's nodes; a text among some; are two nodes the same?
-/
import Derived.Test.YtabonbbfcfchmaaDoorG15
namespace Go.Proofs.YtabonbbfcfchmaaDoor
open Go.Sx Go.RowKit
noncomputable section
open Classical

/-! ### Owned -/

def isOwn (T : TreeD) (s : Int) (x : List UInt8) : Bool := decide (1 ≤ s ∧ ∃ n, kGet (bytesOf x) T.nodes = some n ∧ n.stat.owner = s)
def ownedP (T : TreeD) (s : Int) : List (List UInt8) := (treePaths T).filter (isOwn T s)

structure OwG where
  k : Nat
  A : Arena
  v : Value

def ownInv (_A0 A1 : Arena) (T : TreeD) (s : Int) (ps : List (List UInt8)) : LInv :=
  { γ := OwG, G := fun g => g.k ≤ ps.length ∧ A1.Sub g.A ∧ GrowR A1 g.A 1 9 ((ps.take g.k).filter (isOwn T s)).length g.v (((ps.take g.k).filter (isOwn T s)).map strV),
    keepS := [0, 1, 9, 10], keepB := [], sl := fun g => [(11, .v (.int .i64 g.k)), (5, .v g.v)], bl := fun _ => [], ar := fun g => g.A, mu := fun g => ps.length - g.k }

def ownedS : FSpec := ⟨TG × Int, fun g vs A => vs = [.pointer (some ⟨g.1.t, 0, none⟩), .int .i64 g.2] ∧ TreeAt A g.1.B g.1.O g.1.t g.1.T ∧ g.1.T.nodes.length ≤ 1000000,
  fun g _ A v A' => A.Sub A' ∧ Sl (A'.minus A) 1 (ownedP g.1.T g.2).length v ((ownedP g.1.T g.2).map strV)⟩

theorem filter_snoc {α : Type} (f : α → Bool) (l : List α) (k : Nat) (hk : k < l.length) : (l.take (k + 1)).filter f = (l.take k).filter f ++ if f l[k] = true then [l[k]] else [] := by
  rw [List.take_succ_eq_append_getElem hk, List.filter_append]
  congr 1
  by_cases h : f l[k] = true
  · rw [if_pos h]; simp [h]
  · rw [if_neg h]; simp [h]

set_option maxRecDepth 100000 in
set_option maxHeartbeats 0 in
theorem owned_ok : FOk Tryd.prog 21 ownedS := by
  refine fok_v mixed fun ⟨⟨T, B, O, t⟩, s⟩ vs A hp => ?_
  obtain ⟨rfl, hT, hlen⟩ : vs = [.pointer (some ⟨t, 0, none⟩), .int .i64 s] ∧ TreeAt A B O t T ∧ T.nodes.length ≤ 1000000 := hp
  have hCt : CTSound Tryd.prog (lookC [specE 28 pathsS] noC) := lookC_sound (noC_sound _) (fun x hx => by
    simp only [List.mem_singleton] at hx
    subst hx; exact specE_ok paths_ok)
  refine ⟨_, tabO Tryd.prog _ noL 60 [(21, 0)], 60, hCt, tabO_sound mixed hCt (noL_sound _) _ _, fun blk os out tape D hD => ?_⟩
  conv => lhs; whnf
  refine (hD _).2 ⟨⟨T, B, O, t⟩, ⟨rfl, hT, hlen⟩, fun v A1 hq => ?_⟩
  obtain ⟨s1, hS⟩ : A.Sub A1 ∧ Sl (A1.minus A) 1 (treePaths T).length v ((treePaths T).map strV) := hq
  obtain ⟨ps, hps⟩ : ∃ ps, ps = treePaths T := ⟨_, rfl⟩
  rw [← hps] at hS
  have hpl : ps.length ≤ 1000000 := by rw [hps, treePaths, sortL_length, List.length_map]; exact hlen
  obtain ⟨ao, cp, rfl, hcp, _, ha1, ha2, ha3⟩ := hS
  conv => lhs; whnf
  refine (hD _).2 ⟨ownInv A A1 T s ps, ⟨(⟨0, A1, .slice none 0 0⟩ : OwG), ⟨Nat.zero_le _, Arena.Sub.refl _, GrowR.nil _ _ _ _⟩, ⟨rfl, rfl, trivial⟩, trivial, rfl⟩, fun (sg : OwG) hG => ⟨⟨trivial, trivial, trivial⟩, trivial, ?_⟩⟩
  obtain ⟨k, As, v0⟩ := sg
  obtain ⟨hk, hAs, hGs⟩ : k ≤ ps.length ∧ A1.Sub As ∧ GrowR A1 As 1 9 ((ps.take k).filter (isOwn T s)).length v0 (((ps.take k).filter (isOwn T s)).map strV) := hG
  conv => lhs; whnf
  refine split_dec (fun hlt => ?_) (fun hlt => ?_) <;> (conv => lhs; whnf)
  · have hkl : k < ps.length := by
      have hlt : (k : Int) < (ps.length : Int) := hlt
      omega
    obtain ⟨g, o, rfl, hra⟩ := Sl.at_ hcp ha1 ha2 ha3 (by omega)
    have hrow := rd_sub ((minus_sub A A1).trans hAs) (text_at hra k hkl rfl)
    obtain ⟨q, hq⟩ : ∃ q, q = bytesOf ps[k] := ⟨_, rfl⟩
    have hqv : Value.string q = strV ps[k] := by rw [hq]; rfl
    have hrow : As.rd g (o + k * 1) 1 = some [.string q] := by rw [hrow, hq]; rfl
    have i0 : (0 : Int) ≤ (k : Int) ∧ (k : Int) < (ps.length : Int) := by omega
    have hsn := filter_snoc (isOwn T s) ps k hkl
    obtain ⟨n, hn⟩ : ∃ n, kGet q T.nodes = some n := by
      rw [hq]; exact all_get (hps ▸ List.getElem_mem hkl)
    have hown : isOwn T s ps[k] = decide (1 ≤ s ∧ n.stat.owner = s) := by
      unfold isOwn
      rw [← hq, hn]
      congr 1
      refine propext ⟨fun ⟨h1, m, h2, h3⟩ => ?_, fun ⟨h1, h2⟩ => ⟨h1, n, rfl, h2⟩⟩
      injection h2 with h2
      subst h2; exact ⟨h1, h3⟩
    obtain ⟨m, s', E, h⟩ := TreeAt_sub hT (s1.trans hAs)
    have htop : As.rd t 0 1 = some [.map (some m)] := h.top.rd (o := 0) (n := 1) (by show 0 + 1 ≤ 2; omega)
    obtain ⟨⟨gn, n'⟩, hkE, rfl⟩ : ∃ x, kGet q E = some x ∧ x.2 = n := by
      rw [h.get] at hn
      cases hE : kGet q E with
      | none => rw [hE] at hn; cases hn
      | some x => rw [hE] at hn; exact ⟨x, rfl, by injection hn⟩
    obtain ⟨w, hc, hs⟩ := h.cells _ (kGet_mem (bytes_key _) hkE)
    have hlk : As.look m (.string q) = some (some (.pointer (some ⟨gn, 0, none⟩))) := by rw [h.look, hkE]; rfl
    have hrd : As.rd gn 8 1 = some [.int .i64 n'.stat.owner] := hc.rd (o := 8) (n := 1) (by show 8 + 1 ≤ 11; omega)
    repeat (first | refine go_in i0 ?_ | refine go_rd hrow ?_
            conv => lhs; whnf)
    have hnext : isOwn T s ps[k] = false → (ownInv A A1 T s ps).G (⟨k + 1, As, v0⟩ : OwG) := fun hf => ⟨by show k + 1 ≤ ps.length; omega, hAs, by
      show GrowR A1 As 1 9 ((ps.take (k + 1)).filter (isOwn T s)).length v0 (((ps.take (k + 1)).filter (isOwn T s)).map strV)
      rw [hsn, if_neg (by rw [hf]; simp), List.append_nil]; exact hGs⟩
    refine split_dec (fun h1 => ?_) (fun h1 => ?_) <;> (conv => lhs; whnf)
    rotate_left
    · exact (hD _).2 ⟨(⟨k + 1, As, v0⟩ : OwG), ⟨hnext (by rw [hown]; exact decide_eq_false fun h => h1 h.1), ⟨inc_slot (k := k) (by omega), rfl, trivial⟩, trivial, rfl⟩, by show ps.length - (k + 1) < ps.length - k; omega, ⟨rfl, rfl, rfl, rfl, trivial⟩, trivial⟩
    repeat (first | refine go_rd htop ?_ | refine go_lk hlk ?_ | refine go_rd hrd ?_ | refine go_D hD rfl ?_
            conv => lhs; whnf)
    refine split_dec (fun h2 => ?_) (fun h2 => ?_) <;> (conv => lhs; whnf)
    rotate_left
    · exact (hD _).2 ⟨(⟨k + 1, As, v0⟩ : OwG), ⟨hnext (by rw [hown]; exact decide_eq_false fun h => h2 h.2), ⟨inc_slot (k := k) (by omega), rfl, trivial⟩, trivial, rfl⟩, by show ps.length - (k + 1) < ps.length - k; omega, ⟨rfl, rfl, rfl, rfl, trivial⟩, trivial⟩
    have hyes : isOwn T s ps[k] = true := by rw [hown]; exact decide_eq_true ⟨h1, h2⟩
    rw [if_pos hyes] at hsn
    have hlen3 : ((ps.take k).filter (isOwn T s)).length ≤ k := by
      have := List.length_filter_le (isOwn T s) (ps.take k)
      rw [List.length_take] at this
      omega
    refine (hD _).2 fun gb A7 hN => ?_
    have hN : As.New A7 gb #[.string q] 9 := hN
    have hG7 := hGs.sub hN.sub
    have hAs7 := hAs.trans hN.sub
    have hd7 : ∀ j, A7.blk j = none → A1.blk j = none := fun j hj => by
      cases h9 : A1.blk j with
      | none => rfl
      | some o => rw [hAs7 _ _ h9] at hj; cases hj
    obtain ⟨base, cp9, rfl, hbase, hP, hA⟩ := hG7.form
    have hP := hP 16 (by omega) (by omega)
    have hrow9 : A7.rd gb 0 (1 * 1) = some [.string q] := hN.rd (o := 0) (n := 1 * 1) (by show 0 + 1 * 1 ≤ 1; omega)
    rcases hbase with rfl | ⟨g0, rfl⟩ <;> (conv => lhs; whnf)
    all_goals
      refine (hD _).2 ⟨((ps.take k).filter (isOwn T s)).map strV, [.string q], hP.rd, ?_, rfl, ?_, ?_, hP.cap, rfl, hP.none_, fun g' o' he' hle' _ => hP.room 1 rfl g' o' he' hle', fun v A6 hAp => ?_⟩
      · show (if 1 * 1 = 0 then some [] else A7.rd gb 0 (1 * 1)) = _
        rw [if_neg (by omega)]; exact hrow9
      · intro v hv
        simp only [List.mem_cons, List.not_mem_nil, or_false] at hv
        subst hv; rfl
      · show ((ps.take k).filter (isOwn T s)).length + 1 ≤ 9223372036854775807
        omega
      · obtain ⟨hG6, hk6⟩ := hA _ _ _ rfl hd7 hAp
        have hA6 : A1.Sub A6 := fun j o hj => by rw [hk6 j o hj]; exact hAs7 _ _ hj
        have hg6 : (ownInv A A1 T s ps).G (⟨k + 1, A6, v⟩ : OwG) := ⟨by show k + 1 ≤ ps.length; omega, hA6, by
          show GrowR A1 A6 1 9 ((ps.take (k + 1)).filter (isOwn T s)).length v (((ps.take (k + 1)).filter (isOwn T s)).map strV)
          rw [hsn, List.length_append, List.map_append, List.map_singleton, ← hqv]; exact hG6⟩
        conv => lhs; whnf
        exact (hD _).2 ⟨(⟨k + 1, A6, v⟩ : OwG), ⟨hg6, ⟨inc_slot (k := k) (by omega), rfl, trivial⟩, trivial, rfl⟩, by show ps.length - (k + 1) < ps.length - k; omega, ⟨rfl, rfl, rfl, rfl, trivial⟩, trivial⟩
  · have e : k = ps.length := by
      have hlt : ¬ (k : Int) < (ps.length : Int) := hlt
      omega
    subst e
    rw [List.take_length] at hGs
    have hend : ownedS.post (⟨T, B, O, t⟩, s) [.pointer (some ⟨t, 0, none⟩), .int .i64 s] A v0 As := by
      refine ⟨s1.trans hAs, ?_⟩
      show Sl _ 1 (ownedP T s).length v0 ((ownedP T s).map strV)
      rw [ownedP, ← hps]
      exact grow_sl hGs s1
    exact (hD _).2 hend

/-! ### among -/

def amongS : FSpec := ⟨List (List UInt8) × List UInt8, fun g vs A => ∃ x, vs = [x, strV g.2] ∧ SlT A x g.1, fun g _ A v A' => A' = A ∧ v = .bool (decide (g.2 ∈ g.1))⟩

set_option maxRecDepth 100000 in
set_option maxHeartbeats 0 in
theorem among_ok : FOk Tryd.prog 20 amongS := by
  refine fok_v mixed fun ⟨ls, s⟩ vs A hp => ?_
  obtain ⟨x, rfl, ⟨ao, c, rfl, hc, _, ha1, ha2, ha3⟩, hxl⟩ : ∃ x, vs = [x, .string ⟨s.toArray⟩] ∧ SlT A x ls := hp
  refine ⟨noC, tabO Tryd.prog noC noL 60 [(20, 0)], 60, noC_sound _, tabO_sound mixed (noC_sound _) (noL_sound _) _ _, fun blk os out tape D hD => ?_⟩
  conv => lhs; whnf
  refine (hD _).2 ⟨cnt A 5 [0, 1] [] ls.length fun k => s ∉ ls.take k, ⟨(0 : Nat), ⟨Nat.zero_le _, by simp⟩, ⟨rfl, trivial⟩, trivial, rfl⟩, fun (k : Nat) hk => ⟨⟨trivial, trivial⟩, trivial, ?_⟩⟩
  simp only [cnt] at hk
  conv => lhs; whnf
  refine split_dec (fun hlt => ?_) (fun hb => ?_) <;> (conv => lhs; whnf)
  · have hkl : k < ls.length := by omega
    obtain ⟨g, o, rfl, hra⟩ := Sl.at_ hc ha1 ha2 ha3 (by omega)
    have r1 := text_at hra k hkl rfl
    have i0 : (0 : Int) ≤ (k : Int) ∧ (k : Int) < (ls.length : Int) := by omega
    repeat (first | refine go_in i0 ?_ | refine go_rd r1 ?_
            conv => lhs; whnf)
    refine split_b (fun he => ?_) (fun he => ?_) <;> (conv => lhs; whnf)
    · have e : ls[k] = s := beqL_iff.1 he
      refine (hD _).2 ⟨rfl, ?_⟩
      have : s ∈ ls := e ▸ List.getElem_mem hkl
      rw [decide_eq_true this]
    · have e : ¬ ls[k] = s := fun e => beqL_ff.1 he e
      refine (hD _).2 ⟨(k + 1 : Nat), ⟨⟨by omega, ?_⟩, ⟨inc_slot (by omega), trivial⟩, trivial, rfl⟩, ?_, ⟨rfl, rfl, trivial⟩, trivial⟩
      · show s ∉ ls.take (k + 1)
        rw [List.take_succ_eq_append_getElem hkl]
        intro hm
        rcases List.mem_append.1 hm with hm | hm
        · exact hk.2 hm
        · simp only [List.mem_singleton] at hm
          exact e hm.symm
      · show ls.length - (k + 1) < ls.length - k
        omega
  · have e : k = ls.length := by omega
    refine (hD _).2 ⟨rfl, ?_⟩
    have h := hk.2
    rw [e, List.take_length] at h
    rw [decide_eq_false h]

/-! ### SameNode -/

def sameNode2S : FSpec := ⟨(ToldD × Value) × (ToldD × Value), fun g vs A => vs = [.agg (nodeC g.1).toArray, .agg (nodeC g.2).toArray] ∧ SlB A g.1.2 g.1.1.data ∧ SlB A g.2.2 g.2.1.data, fun g _ A v A' => A' = A ∧ v = .bool (decide (g.1.1 = g.2.1))⟩

set_option maxRecDepth 100000 in
set_option maxHeartbeats 0 in
theorem sameNode2_ok : FOk Tryd.prog 19 sameNode2S := by
  refine fok_v mixed fun ⟨⟨⟨p, d, ⟨s1, s2, s3, s4, s5, s6, s7, s8, s9, s10⟩⟩, vd⟩, ⟨⟨q, e, ⟨u1, u2, u3, u4, u5, u6, u7, u8, u9, u10⟩⟩, ve⟩⟩ vs A hp => ?_
  obtain ⟨rfl, hd, he⟩ : vs = [.agg #[.string p, vd, .int .i64 s1, .int .i64 s2, .int .i64 s3, .int .i64 s4, .int .i64 s5, .int .i64 s6, .int .i64 s7, .int .i64 s8, .int .i64 s9, .int .i64 s10], .agg #[.string q, ve, .int .i64 u1, .int .i64 u2, .int .i64 u3, .int .i64 u4, .int .i64 u5, .int .i64 u6, .int .i64 u7, .int .i64 u8, .int .i64 u9, .int .i64 u10]] ∧ SlB A vd d ∧ SlB A ve e := hp
  obtain ⟨ad, cd, rfl⟩ := hd.1.form
  obtain ⟨ae, ce, rfl⟩ := he.1.form
  have hCt : CTSound Tryd.prog (lookC [specE 45 sameBytesS] noC) := lookC_sound (noC_sound _) (fun x hx => by
    simp only [List.mem_singleton] at hx
    subst hx; exact specE_ok sameBytes_ok)
  refine ⟨_, noL, 60, hCt, noL_sound _, fun blk os out tape D hD => ?_⟩
  have hend : ∀ b : Bool, (b = true ↔ ((p = q ∧ d = e) ∧ ((s1 = u1 ∧ s2 = u2 ∧ s3 = u3 ∧ s4 = u4 ∧ s5 = u5) ∧ s6 = u6 ∧ s7 = u7 ∧ s8 = u8 ∧ s9 = u9 ∧ s10 = u10))) → sameNode2S.post ⟨⟨⟨p, d, ⟨s1, s2, s3, s4, s5, s6, s7, s8, s9, s10⟩⟩, .slice ad d.length cd⟩, ⟨⟨q, e, ⟨u1, u2, u3, u4, u5, u6, u7, u8, u9, u10⟩⟩, .slice ae e.length ce⟩⟩ [] A (.bool b) A := fun b hb => by
    refine ⟨rfl, ?_⟩
    congr 1
    rw [Bool.eq_iff_iff, hb, decide_eq_true_iff]
    simp only [ToldD.mk.injEq, StatD.mk.injEq]
    constructor
    · rintro ⟨⟨h1, h8⟩, ⟨h2, h3, h4, h5, h6⟩, h7⟩
      exact ⟨h1, h8, h2, h3, h4, h5, h6, h7⟩
    · rintro ⟨h1, h8, h2, h3, h4, h5, h6, h7⟩
      exact ⟨⟨h1, h8⟩, ⟨h2, h3, h4, h5, h6⟩, h7⟩
  conv => lhs; whnf
  refine split_b (fun hb => ?_) (fun hb => ?_) <;> (conv => lhs; whnf)
  rotate_left
  · exact (hD _).2 (hend false ⟨fun h => (by cases h), fun h => absurd (congrArg (fun x : ByteArray => x.data.toList) h.1.1) (beqL_ff.1 hb)⟩)
  have hpq : p = q := bytes_ext (beqL_iff.1 hb)
  refine (hD _).2 ⟨(d, e), ⟨_, _, rfl, hd, he⟩, fun v A' hq => ?_⟩
  obtain ⟨hA, rfl⟩ : A = A' ∧ v = .bool (decide (d = e)) := ⟨hq.1.symm, hq.2⟩
  subst hA
  conv => lhs; whnf
  refine split_dec (fun hde => ?_) (fun hde => ?_) <;> (conv => lhs; whnf)
  rotate_left
  · exact (hD _).2 (hend false ⟨fun h => (by cases h), fun h => absurd h.1.2 hde⟩)
  refine go_D hD (by kernel_rfl) ?_
  conv => lhs; whnf
  exact (hD _).2 (hend _ (by
    simp only [cond_true, Bool.and_eq_true, decide_eq_true_iff]
    constructor
    · intro h
      exact ⟨⟨hpq, hde⟩, by simp at h; omega⟩
    · rintro ⟨-, ⟨rfl, rfl, rfl, rfl, rfl⟩, rfl, rfl, rfl, rfl, rfl⟩
      simp))

end
end Go.Proofs.YtabonbbfcfchmaaDoor
