/-
  TreeAgrees, plain.
  Contracts: a tree is made to have these nodes.
  Two trees in one memory; lengths of what is loaded and seated.
  TreeAgain, plain: rows of nodes taken out of states, each path out of a state of its own.
-/
import Derived.Test.YtabonbbfcfchmaaDoorG15
import Derived.Test.YtabonbbfcfchmaaDoorG07
namespace Go.Proofs.YtabonbbfcfchmaaDoor
open Go.Sx Go.RowKit
noncomputable section
open Classical

theorem parts_le {ds : List DeedD} {least most last : Int} (h : PartsD ds least most last) : (ds.length : Int) ≤ most := h.2.1

theorem apply_len500 (T : TreeD) (d : DeedD) : (treeApply T d).nodes.length ≤ T.nodes.length + 500 := by
  rw [treeApply]
  split
  · rename_i hr
    rw [touch_nodes, treeDo]
    split
    · have := change_len T d.h d.h.zxid d.h.time; omega
    · split
      · show T.nodes.length ≤ _; omega
      · split
        · rename_i h5
          have h1 := parts_len d.h.zxid d.h.time d.parts ⟨T.nodes, kDel d.h.owner T.seats⟩
          have h2 := parts_le (hr.2.2.2.2.2.2.2.1 h5)
          have h3 : (⟨T.nodes, kDel d.h.owner T.seats⟩ : TreeD).nodes.length = T.nodes.length := rfl
          omega
        · split
          · rename_i h8
            have h1 := parts_len d.h.zxid d.h.time d.parts T
            have h2 := parts_le (hr.2.2.2.2.2.2.2.2.2 h8)
            omega
          · omega
  · omega

theorem row_len : ∀ (ds : List DeedD) (T : TreeD), (treeRow T ds).nodes.length ≤ T.nodes.length + ds.length * 500 ∧ (treeRow T ds).seats.length ≤ T.seats.length + ds.length * 2
  | [], _ => ⟨by show _ ≤ _; simp [treeRow], by simp [treeRow]⟩
  | d :: ds, T => by
    have h1 := row_len ds (treeApply T d)
    have h2 := apply_len500 T d
    have h3 := apply_slen T d
    have e : treeRow T (d :: ds) = treeRow (treeApply T d) ds := rfl
    rw [e, List.length_cons]
    omega

def kidSum (T : TreeD) (ps : List (List UInt8)) : Nat := (ps.map fun x => kidsN T (bytesOf x)).sum

theorem kidSum_snoc (T : TreeD) (ps : List (List UInt8)) (k : Nat) (hk : k < ps.length) : kidSum T (ps.take (k + 1)) = kidSum T (ps.take k) + kidsN T (bytesOf ps[k]) := by
  unfold kidSum
  rw [List.take_succ_eq_append_getElem hk, List.map_append, List.sum_append]
  simp

theorem sum_take_le : ∀ (l : List Nat) (k : Nat), (l.take k).sum ≤ l.sum
  | [], k => by simp
  | x :: l, 0 => by simp
  | x :: l, k + 1 => by
    have := sum_take_le l k
    simp only [List.take_succ_cons, List.sum_cons]
    omega

theorem kidSum_le (T : TreeD) (ps : List (List UInt8)) (k : Nat) : kidSum T (ps.take k) ≤ kidSum T ps := by
  unfold kidSum
  rw [List.map_take]
  exact sum_take_le _ _

theorem ltL_not {a b : List UInt8} (h : ltL a b = true) : (ltL b a || beqL b a) = false := by
  have h1 := (ltL_iff a b).1 h
  rw [Bool.or_eq_false_iff]
  constructor
  · cases hx : ltL b a with
    | false => rfl
    | true => exact absurd ((ltL_iff b a).1 hx) (List.lt_asymm h1)
  · cases hx : beqL b a with
    | false => rfl
    | true =>
      have e := beqL_iff.1 hx
      subst e
      exact absurd h1 (List.lt_irrefl _)

theorem paths_step {T : TreeD} (h : ND T) {k : Nat} (hk : k < (treePaths T).length) (h0 : 0 < k) : ltL ((treePaths T)[k - 1]'(by omega)) (treePaths T)[k] = true :=
  List.pairwise_iff_getElem.1 (paths_sorted h) (k - 1) k (by omega) hk (by omega)

end
end Go.Proofs.YtabonbbfcfchmaaDoor

namespace Go.Proofs.YtabonbbfcfchmaaDoor
open Go.Sx Go.RowKit
noncomputable section
open Classical

/-- What Load asks, one by one. -/
def LoadC (l : List ToldD) : Prop := (∀ i (h : i < l.length), NodeFits l[i] ∧ (0 < i → ltL (pathL l[i - 1].path) (pathL l[i].path) = true)) ∧ ∃ x, l.head? = some x ∧ x.path = rootS

theorem loadC_of {l : List ToldD} (h : LoadOk l) : LoadC l := by
  refine ⟨fun i hi => ⟨h.1 _ (List.getElem_mem hi), fun h0 => ?_⟩, h.2.2⟩
  have := List.pairwise_iff_getElem.1 h.2.1 (i - 1) i (by omega) hi (by omega)
  exact this

theorem nn_min (x y : Int) : (0 ≤ bif decide (y < x) then y else x) ↔ (0 ≤ x ∧ 0 ≤ y) := by
  by_cases h : y < x
  · simp only [h, decide_true, cond_true]; omega
  · simp only [h, decide_false, cond_false]; omega

def statedS : FSpec := ⟨StatD, fun s vs _ => vs = [.agg s.cells.toArray], fun s _ A v A' => A' = A ∧ v = .bool (decide (StatOk s))⟩

set_option maxRecDepth 100000 in
set_option maxHeartbeats 0 in
theorem stated_ok : FOk Tryd.prog 35 statedS := by
  refine fok_v mixed fun (s : StatD) vs A hp => ?_
  obtain ⟨s1, s2, s3, s4, s5, s6, s7, s8, s9, s10⟩ := s
  obtain rfl : vs = [.agg #[.int .i64 s1, .int .i64 s2, .int .i64 s3, .int .i64 s4, .int .i64 s5, .int .i64 s6, .int .i64 s7, .int .i64 s8, .int .i64 s9, .int .i64 s10]] := hp
  refine ⟨noC, noL, 60, noC_sound _, noL_sound _, fun blk os out tape D hD => ?_⟩
  conv => lhs; whnf
  refine (hD _).2 ⟨rfl, ?_⟩
  congr 1
  rw [decide_eq_decide]
  simp only [cond_false, nn_min, StatOk, and_assoc]

def checkS : FSpec := ⟨ByteArray, fun p vs _ => vs = [.string p], fun p _ A v A' => A' = A ∧ v = .bool (pathOk p.data.toList)⟩

theorem check_ok : FOk Tryd.prog 34 checkS := by
  intro p vs A w hA hp
  obtain rfl : vs = [.string p] := hp
  refine goes_of_calls Tryd.func34 ⟨by kernel_rfl, by kernel_rfl⟩ ?_
  intro cs
  obtain ⟨e, w', fr, ⟨k1, b1, b2, b3, _, b5⟩, k3⟩ := check1 p w cs
  have hlt : ∀ k o, A.blk k = some o → k < w.heap.size := fun k o hk => (Array.getElem?_eq_some_iff.1 (hA k o hk)).1
  exact ⟨e, w', fr, ⟨_, k1, A, ⟨rfl, rfl⟩, b1, b3, b2, fun k _ hk => b5 k hk, fun k o hk => (b5 k (hlt k o hk)).trans (hA k o hk), fun k o ho => .inl ⟨o, ho⟩⟩, k3⟩

structure LoG where
  k : Nat
  A : Arena
  B : Arena
  O : Nat → Prop

def loadInv1 (A : Arena) (l : List (ToldD × Value)) : LInv :=
  { γ := Nat, G := fun k => k ≤ l.length ∧ ∀ i (h : i < l.length), i < k → NodeFits l[i].1 ∧ (0 < i → ltL (pathL l[i - 1].1.path) (pathL l[i].1.path) = true),
    keepS := [0, 1, 12, 13], keepB := [], sl := fun k => [(14, .v (.int .i64 k))], bl := fun _ => [], ar := fun _ => A, mu := fun k => l.length - k }

structure LoadI (A : Arena) (B : Arena) (O : Nat → Prop) (t : Nat) (T : TreeD) (l : List (ToldD × Value)) (s : LoG) : Prop where
  le : s.k ≤ l.length
  tree : TreeAt s.A s.B s.O t ⟨loadN ((l.take s.k).map (·.1)), T.seats⟩
  step : Step A B O s.A s.B s.O

def loadInv2 (A B : Arena) (O : Nat → Prop) (t : Nat) (T : TreeD) (l : List (ToldD × Value)) : LInv :=
  { γ := LoG, G := LoadI A B O t T l, keepS := [0, 65, 66], keepB := [], sl := fun s => [(67, .v (.int .i64 s.k))], bl := fun _ => [], ar := fun s => s.A, mu := fun s => l.length - s.k }

def loadS : FSpec := ⟨TG × List (ToldD × Value) × Arena, fun g vs A => ∃ x, vs = [.pointer (some ⟨g.1.t, 0, none⟩), x] ∧ TreeAt A g.1.B g.1.O g.1.t g.1.T ∧ NodesR g.2.2 x g.2.1 ∧ g.2.1.length ≤ 1000000 ∧ Aside A g.2.2 g.1.O,
  fun g _ A v A' => if LoadC (g.2.1.map (·.1)) then v = .int .i64 0 ∧ StepTo A g.1.B g.1.O g.1.t ⟨loadN (g.2.1.map (·.1)), g.1.T.seats⟩ A' else v = .int .i64 4 ∧ A' = A⟩

theorem loadC_fail {l : List (ToldD × Value)} {k : Nat} (hk : k < l.length) (h : ¬ (NodeFits l[k].1 ∧ (0 < k → ltL (pathL l[k - 1].1.path) (pathL l[k].1.path) = true))) : ¬ LoadC (l.map (·.1)) := fun hc => h (by
  have := hc.1 k (by rw [List.length_map]; exact hk)
  simpa using this)

theorem loadC_all {l : List (ToldD × Value)} (h : ∀ i (h : i < l.length), NodeFits l[i].1 ∧ (0 < i → ltL (pathL l[i - 1].1.path) (pathL l[i].1.path) = true)) (hr : ∃ x, (l.map (·.1)).head? = some x ∧ x.path = rootS) : LoadC (l.map (·.1)) :=
  ⟨fun i hi => by
    have := h i (by rw [List.length_map] at hi; exact hi)
    simpa using this, hr⟩

theorem ltL_no {a b : List UInt8} (h : ltL a b = true) : (ltL b a || beqL b a) = false := by
  have h1 := (ltL_iff a b).1 h
  rw [Bool.or_eq_false_iff]
  constructor
  · cases hx : ltL b a with
    | false => rfl
    | true => exact absurd ((ltL_iff b a).1 hx) (List.lt_asymm h1)
  · cases hx : beqL b a with
    | false => rfl
    | true =>
      have e := beqL_iff.1 hx
      subst e
      exact absurd h1 (List.lt_irrefl _)

theorem ltL_yes {a b : List UInt8} (h : (ltL b a || beqL b a) = false) : ltL a b = true := by
  rw [Bool.or_eq_false_iff] at h
  cases hx : ltL a b with
  | true => rfl
  | false =>
    have e := ltL_tri hx h.1
    subst e
    exact absurd rfl (beqL_ff.1 h.2)

/-- A tree's nodes are begun anew. -/
theorem fresh_nodes {A A1 A2 B : Arena} {O : Nat → Prop} {t : Nat} {T : TreeD} {m s : Nat} {E : List (ByteArray × Nat × NodeD)} (h : TreeR A B O t T m s E) {m' : Nat} (hm' : A.blk m' = none) (hA1 : ∀ k, k ≠ m' → A1.blk k = A.blk k) (hM1 : MapAt A1 m' []) (hP2 : A1.Put A2 t 0 [.map (some m')]) :
    TreeR A2 B (fun k => O k ∨ k = m') t ⟨[], T.seats⟩ m' s [] ∧ Step A B O A2 B fun k => O k ∨ k = m' := by
  obtain ⟨ot, hot⟩ := h.live t h.own.1
  have tm : t ≠ m' := fun e => by rw [e, hm'] at hot; cases hot
  have htop1 : CellsAt A1 t [.map (some m), .map (some s)] := h.top.sub fun o ho => by rw [hA1 t tm]; exact ho
  have htop2 : CellsAt A2 t [.map (some m'), .map (some s)] := htop1.put hP2 (by show 0 + 1 ≤ 2; omega)
  have hA2 : ∀ k, k ≠ t → A2.blk k = A1.blk k := hP2.other
  have live_ne : ∀ {k : Nat}, O k → k ≠ m' := fun {k} hk e => by
    obtain ⟨o, ho⟩ := h.live k hk
    rw [e, hm'] at ho; cases ho
  have hold : ∀ k, k ≠ t → k ≠ m' → A2.blk k = A.blk k := fun k h1 h2 => by rw [hA2 k h1, hA1 k h2]
  have hBm : B.blk m' = none := by
    cases hB : B.blk m' with
    | none => rfl
    | some o => have := h.sub _ _ hB; rw [hm'] at this; cases this
  refine ⟨{ nodes := rfl
            top := htop2
            nmap := hM1.sub fun o ho => by rw [hA2 m' (Ne.symm tm)]; exact ho
            smap := h.smap.sub fun o ho => by rw [hold s (Ne.symm h.top_ne.2) (live_ne h.own.2.2.1)]; exact ho
            cells := fun e he => by cases he
            keys := List.nodup_nil
            ptrs := List.nodup_nil
            skeys := h.skeys
            sub := fun k o hk => by
              rw [hold k (fun e => by subst e; rw [h.off _ h.own.1] at hk; cases hk) (fun e => by subst e; rw [hBm] at hk; cases hk)]
              exact h.sub k o hk
            own := ⟨.inl h.own.1, .inr rfl, .inl h.own.2.2.1, fun e he => by cases he⟩
            off := fun k hk => by
              rcases hk with hk | rfl
              · exact h.off k hk
              · exact hBm
            live := fun k hk => by
              by_cases e : k = t
              · subst e; exact htop2.dom
              · rcases hk with hk | rfl
                · rw [hold k e (live_ne hk)]; exact h.live k hk
                · rw [hA2 _ e]
                  obtain ⟨es, cl, h1, _⟩ := hM1
                  exact ⟨_, h1⟩
            ne := ⟨fun e => live_ne h.own.2.2.1 e.symm, fun e he => by cases he⟩ }, fun k o hk' hO => ?_, fun k hn => ?_, fun k hO => ?_, Arena.Sub.refl _, fun k o hb => .inl hb⟩
  · have n1 : k ≠ t := fun e => hO (e ▸ h.own.1)
    have n2 : k ≠ m' := fun e => by rw [e, hm'] at hk'; cases hk'
    rw [hold k n1 n2]; exact hk'
  · by_cases n2 : k = m'
    · rw [n2]; exact hm'
    · by_cases n1 : k = t
      · subst n1
        obtain ⟨o, ho⟩ := htop2.dom
        rw [ho] at hn; cases hn
      · rw [hold k n1 n2] at hn; exact hn
  · rcases hO with hO | rfl
    · exact .inl hO
    · exact .inr hm'

set_option maxRecDepth 100000 in
set_option maxHeartbeats 0 in
theorem loadC_ok : FOk Tryd.prog 13 loadS := by
  refine fok_a mixed alNode fun ⟨⟨T, B, O, t⟩, l, C⟩ vs A hp => ?_
  obtain ⟨x, rfl, ⟨m, s, E, h⟩, ⟨⟨ao, c, rfl, hc, _, ha1, ha2, ha3⟩, hda⟩, hl1, hAs⟩ : ∃ x, vs = [.pointer (some ⟨t, 0, none⟩), x] ∧ TreeAt A B O t T ∧ NodesR C x l ∧ l.length ≤ 1000000 ∧ Aside A C O := hp
  have hCt : CTSound Tryd.prog (lookC [specE 34 checkS, specE 35 statedS, specE 36 cloneBytesS] noC) := lookC_sound (noC_sound _) (fun x hx => by
    simp only [List.mem_cons, List.not_mem_nil, or_false] at hx
    rcases hx with rfl | rfl | rfl
    · exact specE_ok check_ok
    · exact specE_ok stated_ok
    · exact specE_ok cloneBytes_ok)
  refine ⟨_, tabO Tryd.prog _ noL 60 [(13, 0), (13, 2)], 60, hCt, tabO_sound mixed hCt (noL_sound _) _ _, fun blk os out tape D hD => ?_⟩
  have htop : A.rd t 0 1 = some [.map (some m)] := h.top.rd (o := 0) (n := 1) (by show 0 + 1 ≤ 2; omega)
  have hbad : ¬ LoadC (l.map (·.1)) → loadS.post (⟨T, B, O, t⟩, l, C) [.pointer (some ⟨t, 0, none⟩), .slice ao l.length c] A (.int .i64 4) A := fun hn => by
    show if LoadC (l.map (·.1)) then _ else _
    rw [if_neg hn]
    exact ⟨rfl, rfl⟩
  conv => lhs; whnf
  repeat (first | refine go_rd htop ?_ | refine go_D hD rfl ?_
          conv => lhs; whnf)
  refine (hD _).2 ⟨loadInv1 A l, ⟨(0 : Nat), ⟨Nat.zero_le _, fun i _ h0 => absurd h0 (Nat.not_lt_zero _)⟩, ⟨rfl, trivial⟩, trivial, rfl⟩, fun (k : Nat) hG => ⟨⟨trivial, trivial⟩, trivial, ?_⟩⟩
  obtain ⟨hk, hfit⟩ : k ≤ l.length ∧ ∀ i (h : i < l.length), i < k → NodeFits l[i].1 ∧ (0 < i → ltL (pathL l[i - 1].1.path) (pathL l[i].1.path) = true) := hG
  conv => lhs; whnf
  refine split_dec (fun hlt => ?_) (fun hlt => ?_) <;> (conv => lhs; whnf)
  · have hkl : k < l.length := by
      have hlt : (k : Int) < (l.length : Int) := hlt
      omega
    obtain ⟨g, o, rfl, hra⟩ := Sl.at_ hc ha1 ha2 ha3 (by omega)
    have r1 := row_at (enc := nodeC) (fun _ => rfl) hra k hkl rfl
    have i0 : (0 : Int) ≤ (k : Int) ∧ (k : Int) < (l.length : Int) := by omega
    obtain ⟨⟨⟨p, d, ⟨s1, s2, s3, s4, s5, s6, s7, s8, s9, s10⟩⟩, vd⟩, hx⟩ : ∃ y, y = l[k] := ⟨_, rfl⟩
    have hd : SlB C vd d := hda ((⟨p, d, ⟨s1, s2, s3, s4, s5, s6, s7, s8, s9, s10⟩⟩ : ToldD), vd) (by rw [hx]; exact List.getElem_mem _)
    obtain ⟨ad, cd, rfl⟩ := hd.1.form
    rw [← hx] at r1
    have r1 : A.rd g (o + k * 12) 12 = some [.string p, .slice ad d.length cd, .int .i64 s1, .int .i64 s2, .int .i64 s3, .int .i64 s4, .int .i64 s5, .int .i64 s6, .int .i64 s7, .int .i64 s8, .int .i64 s9, .int .i64 s10] := rd_sub hAs.1 r1
    have hk1 : k - 1 < l.length := by omega
    have hw : 0 < k → IntKind.i64.wrap ((k : Int) - 1) = ((k - 1 : Nat) : Int) := fun hk0 => by
      rw [Sx.wrap_i64 (by omega) (by omega)]; omega
    have hin0 : 0 < k → 0 ≤ IntKind.i64.wrap ((k : Int) - 1) ∧ IntKind.i64.wrap ((k : Int) - 1) < (l.length : Int) := fun hk0 => by rw [hw hk0]; omega
    have r0 := row_at (enc := nodeC) (fun _ => rfl) hra (k - 1) hk1 rfl
    have r0p : 0 < k → A.rd g (o + (IntKind.i64.wrap ((k : Int) - 1)).toNat * 12) 1 = some [.string l[k - 1].1.path] := fun hk0 => by
      have := rd_at (rd_sub hAs.1 r0) (i := 0) (m := 1) (by omega)
      rw [hw hk0, Int.toNat_natCast]
      exact this
    repeat (first | refine go_in i0 ?_ | refine go_rd r1 ?_
            conv => lhs; whnf)
    have hbadk := fun hn => hbad (loadC_fail hkl hn)
    rw [← hx] at hbadk
    dsimp only at hbadk
    refine (hD _).2 ⟨p, rfl, fun v A9 hq => ?_⟩
    have hq : A9 = A ∧ v = .bool (pathOk p.data.toList) := hq
    obtain ⟨h9, hv⟩ := hq
    have h9 := h9.symm
    subst h9
    by_cases hpk : pathOk p.data.toList = true
    rotate_left
    · have hv : v = .bool false := by rw [hv]; simpa using hpk
      subst hv
      conv => lhs; whnf
      exact (hD _).2 (hbadk fun hh => hpk hh.1.1)
    have hv : v = .bool true := by rw [hv, hpk]
    subst hv
    conv => lhs; whnf
    refine split_dec (fun h0 => ?_) (fun h0 => ?_) <;> (conv => lhs; whnf)
    · have hk0 : 0 < k := by
        have h0 : (0 : Int) < (k : Int) := h0
        omega
      refine go_in (hin0 hk0) ?_
      conv => lhs; whnf
      refine go_rd (r0p hk0) ?_
      conv => lhs; whnf
      refine split_b (fun hb => ?_) (fun hb => ?_) <;> (conv => lhs; whnf)
      · exact (hD _).2 (hbadk fun hh => by
          exact absurd (hb.symm.trans (ltL_no (hh.2 hk0))) (by simp))
      have hlt0 : ltL (pathL l[k - 1].1.path) (pathL p) = true := ltL_yes hb
      refine split_dec (fun h1000 => ?_) (fun h1000 => ?_) <;> (conv => lhs; whnf)
      · exact (hD _).2 (hbadk fun hh => by have := hh.1.2.1; dsimp only at this; omega)
      refine (hD _).2 ⟨(⟨s1, s2, s3, s4, s5, s6, s7, s8, s9, s10⟩ : StatD), rfl, fun v A9 hq => ?_⟩
      have hq : A9 = A ∧ v = .bool (decide (StatOk ⟨s1, s2, s3, s4, s5, s6, s7, s8, s9, s10⟩)) := hq
      obtain ⟨h9, hv⟩ := hq
      have h9 := h9.symm
      subst h9
      by_cases hst : StatOk ⟨s1, s2, s3, s4, s5, s6, s7, s8, s9, s10⟩
      rotate_left
      · have hv : v = .bool false := by rw [hv, decide_eq_false hst]
        subst hv
        conv => lhs; whnf
        exact (hD _).2 (hbadk fun hh => hst hh.1.2.2)
      have hv : v = .bool true := by rw [hv, decide_eq_true hst]
      subst hv
      conv => lhs; whnf
      have hstep : k + 1 ≤ l.length ∧ ∀ i (h : i < l.length), i < k + 1 → NodeFits l[i].1 ∧ (0 < i → ltL (pathL l[i - 1].1.path) (pathL l[i].1.path) = true) := ⟨by omega, fun i h hi => by
        by_cases e : i = k
        · subst e
          rw [← hx]
          exact ⟨⟨hpk, by show d.length ≤ 1000; omega, hst⟩, fun _ => hlt0⟩
        · exact hfit i h (by omega)⟩
      exact (hD _).2 ⟨(k + 1 : Nat), ⟨hstep, ⟨inc_slot (k := k) (by omega), trivial⟩, trivial, rfl⟩, by show l.length - (k + 1) < l.length - k; omega, ⟨rfl, rfl, rfl, rfl, trivial⟩, trivial⟩
    · have hk0 : k = 0 := by
        have h0 : ¬ (0 : Int) < (k : Int) := h0
        omega
      refine split_dec (fun h1000 => ?_) (fun h1000 => ?_) <;> (conv => lhs; whnf)
      · exact (hD _).2 (hbadk fun hh => by have := hh.1.2.1; dsimp only at this; omega)
      refine (hD _).2 ⟨(⟨s1, s2, s3, s4, s5, s6, s7, s8, s9, s10⟩ : StatD), rfl, fun v A9 hq => ?_⟩
      have hq : A9 = A ∧ v = .bool (decide (StatOk ⟨s1, s2, s3, s4, s5, s6, s7, s8, s9, s10⟩)) := hq
      obtain ⟨h9, hv⟩ := hq
      have h9 := h9.symm
      subst h9
      by_cases hst : StatOk ⟨s1, s2, s3, s4, s5, s6, s7, s8, s9, s10⟩
      rotate_left
      · have hv : v = .bool false := by rw [hv, decide_eq_false hst]
        subst hv
        conv => lhs; whnf
        exact (hD _).2 (hbadk fun hh => hst hh.1.2.2)
      have hv : v = .bool true := by rw [hv, decide_eq_true hst]
      subst hv
      conv => lhs; whnf
      have hstep : k + 1 ≤ l.length ∧ ∀ i (h : i < l.length), i < k + 1 → NodeFits l[i].1 ∧ (0 < i → ltL (pathL l[i - 1].1.path) (pathL l[i].1.path) = true) := ⟨by omega, fun i h hi => by
        by_cases e : i = k
        · subst e
          rw [← hx]
          exact ⟨⟨hpk, by show d.length ≤ 1000; omega, hst⟩, fun h => absurd h (by omega)⟩
        · exact hfit i h (by omega)⟩
      exact (hD _).2 ⟨(k + 1 : Nat), ⟨hstep, ⟨inc_slot (k := k) (by omega), trivial⟩, trivial, rfl⟩, by show l.length - (k + 1) < l.length - k; omega, ⟨rfl, rfl, rfl, rfl, trivial⟩, trivial⟩
  · have e : k = l.length := by
      have hlt : ¬ (k : Int) < (l.length : Int) := hlt
      omega
    subst e
    have hfit' : ∀ i (h : i < l.length), NodeFits l[i].1 ∧ (0 < i → ltL (pathL l[i - 1].1.path) (pathL l[i].1.path) = true) := fun i h => hfit i h h
    by_cases hl0 : l = []
    · subst hl0
      have hn : ¬ LoadC (([] : List (ToldD × Value)).map (·.1)) := fun hc => (by
        obtain ⟨_, x, hx, _⟩ := hc
        cases hx)
      exact (hD _).2 (hbad hn)
    · obtain ⟨y, l', hyl⟩ : ∃ y l', l = y :: l' := by
        cases l with
        | nil => exact absurd rfl hl0
        | cons y l' => exact ⟨y, l', rfl⟩
      subst hyl
      have hpos : 0 < (y :: l').length := by simp
      obtain ⟨g, o, rfl, hra⟩ := Sl.at_ hc ha1 ha2 ha3 hpos
      have r0 := row_at (enc := nodeC) (fun _ => rfl) hra 0 hpos rfl
      rw [Nat.zero_mul, Nat.add_zero] at r0
      have r0p : A.rd g o 1 = some [.string y.1.path] := by
        have := rd_at (rd_sub hAs.1 r0) (i := 0) (m := 1) (by omega)
        rw [Nat.add_zero] at this
        exact this
      conv => lhs; whnf
      have i0 : (0 : Int) ≤ (0 : Int) ∧ (0 : Int) < ((y :: l').length : Int) := by constructor <;> omega
      refine go_in i0 ?_
      conv => lhs; whnf
      refine go_rd r0p ?_
      conv => lhs; whnf
      refine split_b (fun hb => ?_) (fun hb => ?_) <;> (conv => lhs; whnf)
      · refine (hD _).2 (hbad fun hc => ?_)
        obtain ⟨_, x, hx, hr⟩ := hc
        injection hx with hx
        subst hx
        rw [hr] at hb
        exact absurd hb (by simp [rootS, beqL])
      have hyr : y.1.path = rootS := bytes_ext (by
        have hb2 : beqL y.1.path.data.toList [47] = true := by simpa using hb
        exact beqL_iff.1 hb2)
      have hgood : LoadC ((y :: l').map (·.1)) := loadC_all hfit' ⟨y.1, rfl, hyr⟩
      refine (hD _).2 fun m' A1 hm' hA1 hM1 => ?_
      have hm' : A.blk m' = none := hm'
      have hA1 : ∀ k, k ≠ m' → A1.blk k = A.blk k := hA1
      have htopA1 : CellsAt A1 t [.map (some m), .map (some s)] := h.top.sub fun o ho => by
        obtain ⟨ot, hot⟩ := h.live t h.own.1
        rw [hA1 t fun e => by rw [e, hm'] at hot; cases hot]; exact ho
      conv => lhs; whnf
      refine (hD _).2 ⟨htopA1.room (o := 0) (n := 1) (by show 0 + 1 ≤ 2; omega), fun A2 hP2 => ?_⟩
      have hP2 : A1.Put A2 t 0 [.map (some m')] := hP2
      have hfresh := fresh_nodes h hm' hA1 hM1 hP2
      have hI0 : LoadI A B O t T (y :: l') ⟨0, A2, B, fun k => O k ∨ k = m'⟩ := ⟨Nat.zero_le _, ⟨m', s, [], hfresh.1⟩, hfresh.2⟩
      conv => lhs; whnf
      refine (hD _).2 ⟨loadInv2 A B O t T (y :: l'), ⟨(⟨0, A2, B, fun k => O k ∨ k = m'⟩ : LoG), hI0, ⟨rfl, trivial⟩, trivial, rfl⟩, fun (sg : LoG) hG => ⟨⟨trivial, trivial⟩, trivial, ?_⟩⟩
      obtain ⟨j, Ak, B2, O2⟩ := sg
      have hG : LoadI A B O t T (y :: l') ⟨j, Ak, B2, O2⟩ := hG
      have hj := hG.le
      have hT2 := hG.tree
      have hS2 := hG.step
      dsimp only at hj hT2 hS2
      conv => lhs; whnf
      refine split_dec (fun hlt => ?_) (fun hlt => ?_) <;> (conv => lhs; whnf)
      · have hjl : j < (y :: l').length := by
          have hlt : (j : Int) < ((y :: l').length : Int) := hlt
          omega
        have r1 := row_at (enc := nodeC) (fun _ => rfl) hra j hjl rfl
        have hCk : C.Sub Ak := hS2.stays hAs.1 hAs.2
        have i1 : (0 : Int) ≤ (j : Int) ∧ (j : Int) < ((y :: l').length : Int) := by omega
        obtain ⟨⟨⟨p, d, ⟨s1, s2, s3, s4, s5, s6, s7, s8, s9, s10⟩⟩, vd⟩, hx⟩ : ∃ z, z = (y :: l')[j] := ⟨_, rfl⟩
        have hd : SlB C vd d := hda ((⟨p, d, ⟨s1, s2, s3, s4, s5, s6, s7, s8, s9, s10⟩⟩ : ToldD), vd) (by rw [hx]; exact List.getElem_mem _)
        obtain ⟨ad, cd, rfl⟩ := hd.1.form
        rw [← hx] at r1
        have r1 : Ak.rd g (o + j * 12) 12 = some [.string p, .slice ad d.length cd, .int .i64 s1, .int .i64 s2, .int .i64 s3, .int .i64 s4, .int .i64 s5, .int .i64 s6, .int .i64 s7, .int .i64 s8, .int .i64 s9, .int .i64 s10] := rd_sub hCk r1
        have htk : loadN (((y :: l').take (j + 1)).map (·.1)) = kPut p ⟨d, ⟨s1, s2, s3, s4, s5, s6, s7, s8, s9, s10⟩⟩ (loadN (((y :: l').take j).map (·.1))) := by
          rw [List.take_succ_eq_append_getElem hjl, List.map_append, List.map_singleton, loadN_snoc, ← hx]
        obtain ⟨m2, s2', E2, hR⟩ := hT2
        have htop' : Ak.rd t 0 1 = some [.map (some m2)] := hR.top.rd (o := 0) (n := 1) (by show 0 + 1 ≤ 2; omega)
        repeat (first | refine go_in i1 ?_ | refine go_rd r1 ?_ | refine go_rd htop' ?_ | refine go_D hD rfl ?_
                conv => lhs; whnf)
        refine (hD _).2 ⟨d, ⟨_, rfl, hd.sub hCk⟩, fun v A4 hq => ?_⟩
        have hq : Ak.Sub A4 ∧ SlB (A4.minus Ak) v d := hq
        obtain ⟨s4', b4⟩ := hq
        obtain ⟨ax, cx, rfl⟩ := b4.1.form
        have htop4 := rd_sub s4' htop'
        conv => lhs; whnf
        repeat (first | refine go_rd htop4 ?_ | refine go_D hD rfl ?_
                conv => lhs; whnf)
        refine (hD _).2 fun g' A5 hN => ?_
        have hN : A4.New A5 g' (.slice ax d.length cx :: (⟨s1, s2, s3, s4, s5, s6, s7, s8, s9, s10⟩ : StatD).cells).toArray 85 := hN
        have htop5 := rd_sub hN.sub htop4
        conv => lhs; whnf
        repeat (first | refine go_rd htop5 ?_ | refine go_D hD rfl ?_
                conv => lhs; whnf)
        have hm5 := hR.nmap.sub (A' := A5) fun o ho => hN.sub _ _ (s4' _ _ ho)
        refine (hD _).2 ⟨_, hm5, strL_alike ptrV p _, fun A6 hm6 ho6 => ?_⟩
        have hst : StepTo Ak B2 O2 t ⟨kPut p ⟨d, ⟨s1, s2, s3, s4, s5, s6, s7, s8, s9, s10⟩⟩ (loadN (((y :: l').take j).map (·.1))), T.seats⟩ A6 := step_put hR s4' hN (by rfl) b4 hm6 ho6
        obtain ⟨B6, O6, hT6, hS6⟩ := hst
        have hI : LoadI A B O t T (y :: l') ⟨j + 1, A6, B6, O6⟩ := ⟨by show j + 1 ≤ _; omega, by show TreeAt A6 B6 O6 t ⟨loadN (((y :: l').take (j + 1)).map (·.1)), T.seats⟩; rw [htk]; exact hT6, hS2.trans hS6⟩
        conv => lhs; whnf
        exact (hD _).2 ⟨(⟨j + 1, A6, B6, O6⟩ : LoG), ⟨hI, ⟨inc_slot (k := j) (by omega), trivial⟩, trivial, rfl⟩, by show (y :: l').length - (j + 1) < (y :: l').length - j; omega, ⟨rfl, rfl, rfl, trivial⟩, trivial⟩
      · have e : j = (y :: l').length := by
          have hlt : ¬ (j : Int) < ((y :: l').length : Int) := hlt
          omega
        have hend : loadS.post (⟨T, B, O, t⟩, y :: l', C) [.pointer (some ⟨t, 0, none⟩), .slice (some ⟨g, o, none⟩) (y :: l').length c] A (.int .i64 0) Ak := by
          show if LoadC ((y :: l').map (·.1)) then _ else _
          rw [if_pos hgood]
          rw [e, List.take_length] at hT2
          exact ⟨rfl, B2, O2, hT2, hS2⟩
        exact (hD _).2 hend

end
end Go.Proofs.YtabonbbfcfchmaaDoor

namespace Go.Proofs.YtabonbbfcfchmaaDoor
open Go.Sx Go.RowKit
noncomputable section
open Classical

/-- Two trees do not share memory. -/
def Apart2 (B1 : Arena) (O1 : Nat → Prop) (B2 : Arena) (O2 : Nat → Prop) : Prop := (∀ k, O1 k → ¬ O2 k) ∧ (∀ k o, B1.blk k = some o → ¬ O2 k) ∧ ∀ k o, B2.blk k = some o → ¬ O1 k

theorem Apart2.symm {B1 B2 : Arena} {O1 O2 : Nat → Prop} (h : Apart2 B1 O1 B2 O2) : Apart2 B2 O2 B1 O1 := ⟨fun k h2 h1 => h.1 k h1 h2, h.2.2, h.2.1⟩

/-- One of two trees changes. -/
theorem two_stepG {A A' B1 B1' B2 : Arena} {O1 O1' O2 : Nat → Prop} {t2 : Nat} {T2 : TreeD} (h2 : TreeAt A B2 O2 t2 T2) (hA : Apart2 B1 O1 B2 O2) (s : Step A B1 O1 A' B1' O1') : TreeAt A' B2 O2 t2 T2 ∧ Apart2 B1' O1' B2 O2 := by
  obtain ⟨m, s', E, h⟩ := h2
  refine ⟨⟨m, s', E, h.frame (fun k hk => ?_) (s.stays h.sub hA.2.2)⟩, fun k h1 h2 => ?_, fun k o h1 h2 => ?_, fun k o hb h1 => ?_⟩
  · obtain ⟨o, ho⟩ := h.live k hk
    rw [ho, s.keep k o ho fun h1 => hA.1 k h1 hk]
  · rcases s.own k h1 with h1 | h1
    · exact hA.1 k h1 h2
    · obtain ⟨o, ho⟩ := h.live k h2
      rw [h1] at ho; cases ho
  · rcases s.new k o h1 with h1 | h1
    · exact hA.2.1 k o h1 h2
    · obtain ⟨o, ho⟩ := h.live k h2
      rw [h1] at ho; cases ho
  · rcases s.own k h1 with h1 | h1
    · exact hA.2.2 k o hb h1
    · rw [h.sub k o hb] at h1; cases h1

theorem apart_newG {A B1 B2 : Arena} {O1 O2 : Nat → Prop} {t1 : Nat} {T1 : TreeD} (h1 : TreeAt A B1 O1 t1 T1) (hO : ∀ k, O2 k → A.blk k = none) (hB : ∀ k o, B2.blk k = some o → A.blk k = none) : Apart2 B1 O1 B2 O2 := by
  obtain ⟨m, s, E, h⟩ := h1
  refine ⟨fun k h1 h2 => ?_, fun k o hb h2 => ?_, fun k o hb h1 => ?_⟩
  · obtain ⟨o, ho⟩ := h.live k h1
    rw [hO k h2] at ho; cases ho
  · have := h.sub k o hb
    rw [hO k h2] at this; cases this
  · obtain ⟨o', ho⟩ := h.live k h1
    rw [hB k o hb] at ho; cases ho

theorem loadN_len : ∀ l : List ToldD, (loadN l).length ≤ l.length := fun l => by
  have h : ∀ (l : List ToldD) (m : List (ByteArray × NodeD)), (l.foldl (fun m x => kPut x.path ⟨x.data, x.stat⟩ m) m).length ≤ m.length + l.length := fun l => by
    induction l with
    | nil => intro m; simp
    | cons x l ih =>
      intro m
      have h1 := ih (kPut x.path ⟨x.data, x.stat⟩ m)
      have h2 := kPut_len x.path (⟨x.data, x.stat⟩ : NodeD) m
      rw [List.foldl_cons, List.length_cons]
      omega
  have := h l []
  simpa [loadN] using this

theorem seat_fold_lenG : ∀ (l : List SitD) (m : List (Int × SitD)), (l.foldl seatOne m).length ≤ m.length + l.length
  | [], m => by simp
  | x :: l, m => by
    have h1 := seat_fold_lenG l (seatOne m x)
    have h2 : (seatOne m x).length ≤ m.length + 1 := by
      unfold seatOne
      split
      · omega
      · exact kPut_len _ _ _
    rw [List.foldl_cons, List.length_cons]
    omega

theorem seatsOk_ofG {T U : TreeD} (h : TSim T U) (hT : TOk T) (hU : ND U) : SeatsOk U := fun e he => by
  have h1 := (kGet_some hU.2).2 (show (e.1, e.2) ∈ U.seats from he)
  rw [← h.2] at h1
  exact (hT.ses _ _ h1).1

end
end Go.Proofs.YtabonbbfcfchmaaDoor

namespace Go.Proofs.YtabonbbfcfchmaaDoor
open Go.Sx Go.RowKit
noncomputable section
open Classical

abbrev Rising (ps : List (List UInt8)) : Prop := ps.Pairwise fun a b => ltL a b = true

theorem ltL_asymm {a b : List UInt8} (h : ltL a b = true) : ltL b a = false := by
  have := ltL_no h
  rw [Bool.or_eq_false_iff] at this
  exact this.1

theorem ltL_irr (a : List UInt8) : ltL a a = false := by
  cases h : ltL a a with
  | false => rfl
  | true => exact absurd ((ltL_iff a a).1 h) (List.lt_irrefl _)

theorem ltL_trans {a b c : List UInt8} (h1 : ltL a b = true) (h2 : ltL b c = true) : ltL a c = true :=
  (ltL_iff a c).2 (List.lt_trans ((ltL_iff a b).1 h1) ((ltL_iff b c).1 h2))

/-- Rows of nodes for these paths, each out of one of the states below N. -/
structure RowsI (f : Nat → List ToldD) (N : Nat) (ps : List (List UInt8)) (rows : List ToldD) : Prop where
  sorted : rows.Pairwise fun a b => ltL (pathL a.path) (pathL b.path) = true
  mem : ∀ x ∈ rows, pathL x.path ∈ ps ∧ ∃ j, j < N ∧ x ∈ f j
  pick : ∀ p ∈ ps, ∃ j, j < N ∧ ((∃ x ∈ rows, x ∈ f j ∧ x.path = bytesOf p) ∨ ((∀ x ∈ rows, x.path ≠ bytesOf p) ∧ ∀ y ∈ f j, y.path ≠ bytesOf p))

theorem RowsI.nil (f : Nat → List ToldD) (N : Nat) : RowsI f N [] [] := ⟨List.Pairwise.nil, fun _ h => (by cases h), fun _ h => (by cases h)⟩

theorem rising_last {ps : List (List UInt8)} (h : Rising ps) {i : Nat} (hi : i < ps.length) {x : List UInt8} (hx : x ∈ ps.take i) : ltL x ps[i] = true := by
  obtain ⟨k, hk, rfl⟩ := List.getElem_of_mem hx
  rw [List.length_take] at hk
  rw [List.getElem_take]
  exact List.pairwise_iff_getElem.1 h k i (by omega) hi (by omega)

theorem pathL_eq {q : ByteArray} {p : List UInt8} (h : q = bytesOf p) : pathL q = p := by rw [h, pathL_bytesOf]

theorem RowsI.yes {f : Nat → List ToldD} {N : Nat} {ps : List (List UInt8)} {rows : List ToldD} {i : Nat} (h : RowsI f N (ps.take i) rows) (hs : Rising ps) (hi : i < ps.length) {j : Nat} (hj : j < N) {x : ToldD} (hx : x ∈ f j) (hp : x.path = bytesOf ps[i]) : RowsI f N (ps.take (i + 1)) (rows ++ [x]) := by
  have htk : ps.take (i + 1) = ps.take i ++ [ps[i]] := List.take_succ_eq_append_getElem hi
  have hne : ∀ p ∈ ps.take i, p ≠ ps[i] := fun p hp e => by
    have := rising_last hs hi hp
    rw [e, ltL_irr] at this
    cases this
  refine ⟨?_, fun y hy => ?_, fun p hpp => ?_⟩
  · refine List.pairwise_append.2 ⟨h.sorted, List.pairwise_singleton _ _, fun a ha b hb => ?_⟩
    simp only [List.mem_singleton] at hb
    subst hb
    rw [pathL_eq hp]
    exact rising_last hs hi (h.mem a ha).1
  · rw [htk]
    rcases List.mem_append.1 hy with hy | hy
    · exact ⟨List.mem_append_left _ (h.mem y hy).1, (h.mem y hy).2⟩
    · simp only [List.mem_singleton] at hy
      subst hy
      exact ⟨List.mem_append_right _ (by rw [pathL_eq hp]; simp), j, hj, hx⟩
  · rw [htk] at hpp
    rcases List.mem_append.1 hpp with hpp | hpp
    · obtain ⟨j', hj', h1 | ⟨h1, h2⟩⟩ := h.pick p hpp
      · obtain ⟨y, hy, h2, h3⟩ := h1
        exact ⟨j', hj', .inl ⟨y, List.mem_append_left _ hy, h2, h3⟩⟩
      · refine ⟨j', hj', .inr ⟨fun y hy => ?_, h2⟩⟩
        rcases List.mem_append.1 hy with hy | hy
        · exact h1 y hy
        · simp only [List.mem_singleton] at hy
          subst hy
          intro e
          exact hne p hpp ((pathL_eq e).symm.trans (pathL_eq hp))
    · simp only [List.mem_singleton] at hpp
      subst hpp
      exact ⟨j, hj, .inl ⟨x, List.mem_append_right _ (by simp), hx, hp⟩⟩

theorem RowsI.no {f : Nat → List ToldD} {N : Nat} {ps : List (List UInt8)} {rows : List ToldD} {i : Nat} (h : RowsI f N (ps.take i) rows) (hs : Rising ps) (hi : i < ps.length) {j : Nat} (hj : j < N) (hx : ∀ y ∈ f j, y.path ≠ bytesOf ps[i]) : RowsI f N (ps.take (i + 1)) rows := by
  have htk : ps.take (i + 1) = ps.take i ++ [ps[i]] := List.take_succ_eq_append_getElem hi
  refine ⟨h.sorted, fun y hy => ?_, fun p hpp => ?_⟩
  · rw [htk]
    exact ⟨List.mem_append_left _ (h.mem y hy).1, (h.mem y hy).2⟩
  · rw [htk] at hpp
    rcases List.mem_append.1 hpp with hpp | hpp
    · exact h.pick p hpp
    · simp only [List.mem_singleton] at hpp
      subst hpp
      refine ⟨j, hj, .inr ⟨fun y hy e => ?_, hx⟩⟩
      have h1 := (h.mem y hy).1
      rw [pathL_eq e] at h1
      have := rising_last hs hi h1
      rw [ltL_irr] at this
      cases this

/-! ### The states -/

def stateT (ns : List DeedD) (k : Nat) : TreeD := treeRow treeNew (ns.take k)

theorem state_good (ns : List DeedD) (k : Nat) : TGood (stateT ns k) := tgood_new.row _

/-- These are the states' paths. -/
structure PathsOf (F : Nat → TreeD) (N : Nat) (ps : List (List UInt8)) : Prop where
  rising : Rising ps
  mem : ∀ x, x ∈ ps ↔ ∃ j, j < N ∧ x ∈ treePaths (F j)

theorem told_at {T : TreeD} {q : ByteArray} {x : ToldD} (hx : x ∈ treeAll T) (hp : x.path = q) : ∃ n, kGet q T.nodes = some n ∧ x = ⟨q, n.data, { n.stat with len := n.data.length, kids := kidsN T q }⟩ := by
  obtain ⟨y, hy, rfl⟩ := List.mem_map.1 hx
  obtain ⟨n, hn⟩ := all_get hy
  rw [told_path] at hp
  subst hp
  exact ⟨n, hn, told_some hn⟩

theorem told_mem {T : TreeD} (h : ND T) {q : ByteArray} {n : NodeD} (hn : kGet q T.nodes = some n) : toldOf T q ∈ treeAll T ∧ pathL q ∈ treePaths T := by
  have hm : pathL q ∈ treePaths T := (sortL_perm _).mem_iff.2 (List.mem_map.2 ⟨(q, n), (kGet_some h.1).1 hn, rfl⟩)
  exact ⟨List.mem_map.2 ⟨pathL q, hm, by rw [bytesOf_pathL]⟩, hm⟩

theorem rows_nodup {l : List ToldD} (h : l.Pairwise fun a b => ltL (pathL a.path) (pathL b.path) = true) : (l.map (·.path)).Nodup :=
  List.pairwise_map.2 (h.imp fun {a b} hab e => by
    rw [e, ltL_irr] at hab
    cases hab)

theorem head_least {ps : List (List UInt8)} (h : Rising ps) {r : List UInt8} (hr : r ∈ ps) (hl : ∀ x ∈ ps, x = r ∨ ltL r x = true) : ∃ t, ps = r :: t := by
  cases ps with
  | nil => cases hr
  | cons x t =>
    rcases hl x (by simp) with e | hx
    · exact ⟨t, by rw [e]⟩
    · rcases List.mem_cons.1 hr with e | hm
      · exact ⟨t, by rw [e]⟩
      · have := (List.pairwise_cons.1 h).1 r hm
        rw [ltL_asymm hx] at this
        cases this

theorem root_least {T : TreeD} (h : TGood T) : ([47] : List UInt8) ∈ treePaths T ∧ ∀ x ∈ treePaths T, x = [47] ∨ ltL [47] x = true := by
  obtain ⟨ps, hp⟩ := root_first h
  have hs := paths_sorted h.ok.nd
  rw [hp] at hs ⊢
  refine ⟨by simp, fun x hx => ?_⟩
  rcases List.mem_cons.1 hx with e | hx
  · exact .inl e
  · exact .inr ((List.pairwise_cons.1 hs).1 x hx)

theorem rows_load {F : Nat → TreeD} (hF : ∀ j, TGood (F j)) {N : Nat} (hN : 0 < N) {ps : List (List UInt8)} (hps : PathsOf F N ps) {rows : List ToldD} (hr : RowsI (fun j => treeAll (F j)) N ps rows) : LoadC rows := by
  refine loadC_of ⟨fun x hx => ?_, hr.sorted, ?_⟩
  · obtain ⟨_, j, _, h⟩ := hr.mem x hx
    exact (load_ok (hF j)).1 x h
  · have hroot : ([47] : List UInt8) ∈ ps := (hps.mem _).2 ⟨0, hN, (root_least (hF 0)).1⟩
    have hleast : ∀ x ∈ ps, x = [47] ∨ ltL [47] x = true := fun x hx => by
      obtain ⟨j, _, h⟩ := (hps.mem x).1 hx
      exact (root_least (hF j)).2 x h
    obtain ⟨j, hj, ⟨x, hx, _, hp⟩ | ⟨_, h⟩⟩ := hr.pick _ hroot
    · have hp : x.path = rootS := hp
      cases rows with
      | nil => cases hx
      | cons y t =>
        refine ⟨y, rfl, ?_⟩
        rcases List.mem_cons.1 hx with e | hx
        · rw [← e]; exact hp
        · have h1 := (List.pairwise_cons.1 hr.sorted).1 x hx
          rw [hp] at h1
          have h1 : ltL (pathL y.path) [47] = true := h1
          rcases hleast _ (hr.mem y (by simp)).1 with e | h2
          · rw [e, ltL_irr] at h1; cases h1
          · rw [ltL_asymm h2] at h1; cases h1
    · exfalso
      have hm := (root_least (hF j)).1
      obtain ⟨n, hn⟩ := all_get hm
      have := (told_mem (hF j).ok.nd hn).1
      exact h _ this (told_path _ _)

theorem take_states (ns : List DeedD) {k1 k2 j : Nat} (h : k1 + j ≤ k2) : treeRow (stateT ns k1) (((ns.take k2).drop k1).take j) = stateT ns (k1 + j) := by
  unfold stateT
  rw [← row_append]
  congr 1
  rw [List.drop_take, List.take_take, Nat.min_eq_left (by omega), List.take_add]

/-- THE STAGE'S THEOREM, as the law asks it. -/
theorem again_plain (ns : List DeedD) {k1 k2 : Nat} (h12 : k1 ≤ k2) {ps : List (List UInt8)} (hps : PathsOf (fun j => stateT ns (k1 + j)) (k2 - k1 + 1) ps) {rows : List ToldD} (hr : RowsI (fun j => treeAll (stateT ns (k1 + j))) (k2 - k1 + 1) ps rows) {m : Nat} (hm : m ≤ k2 - k1)
    (hU : ND ⟨loadN rows, seatsOf (treeSits (stateT ns (k1 + m)))⟩) :
    TSim (treeRow ⟨loadN rows, seatsOf (treeSits (stateT ns (k1 + m)))⟩ ((ns.take k2).drop k1)) (stateT ns k2) := by
  have e : stateT ns k2 = treeRow (stateT ns k1) ((ns.take k2).drop k1) := by
    have h1 := take_states ns (k1 := k1) (k2 := k2) (j := k2 - k1) (by omega)
    rw [List.take_of_length_le (by rw [List.length_drop, List.length_take]; omega)] at h1
    rw [h1]; congr 1; omega
  rw [e]
  have hnd := rows_nodup hr.sorted
  have hnd2 : ((rows.map fun x => (x.path, (⟨x.data, x.stat⟩ : NodeD))).map (·.1)).Nodup := by rw [List.map_map]; exact hnd
  refine again_sim (state_good ns k1).ok.nd hU _ (fun q => ?_) ⟨m, fun s => ?_⟩
  · show ∃ j, (kGet q (loadN rows)).map erN = _
    rw [loadN_get hnd]
    have hnone : (∀ x ∈ rows, x.path ≠ q) → kGet q (rows.map fun x => (x.path, (⟨x.data, x.stat⟩ : NodeD))) = none := fun h => kGet_not fun hm => by
      rw [List.map_map] at hm
      obtain ⟨x, hx, e⟩ := List.mem_map.1 hm
      exact h x hx e
    by_cases hq : pathL q ∈ ps
    · obtain ⟨j, hj, ⟨x, hx, h1, h2⟩ | ⟨h1, h2⟩⟩ := hr.pick _ hq
      · rw [bytesOf_pathL] at h2
        refine ⟨j, ?_⟩
        rw [take_states ns (by omega)]
        obtain ⟨n, hn, hx2⟩ := told_at h1 h2
        have hmem : (q, (⟨x.data, x.stat⟩ : NodeD)) ∈ rows.map fun x => (x.path, (⟨x.data, x.stat⟩ : NodeD)) := List.mem_map.2 ⟨x, hx, by rw [h2]⟩
        rw [(kGet_some hnd2).2 hmem, hn, hx2]
        rfl
      · rw [bytesOf_pathL] at h1 h2
        refine ⟨j, ?_⟩
        rw [take_states ns (by omega), hnone h1]
        cases hk : kGet q (stateT ns (k1 + j)).nodes with
        | none => rfl
        | some n => exact absurd (told_path _ _) (h2 _ (told_mem (state_good ns _).ok.nd hk).1)
    · refine ⟨0, ?_⟩
      rw [take_states ns (by omega), hnone fun x hx e => hq (by rw [← e]; exact (hr.mem x hx).1)]
      cases hk : kGet q (stateT ns (k1 + 0)).nodes with
      | none => rfl
      | some n => exact absurd ((hps.mem _).2 ⟨0, by omega, (told_mem (state_good ns _).ok.nd hk).2⟩) hq
  · rw [take_states ns (by omega)]
    exact ((loaded_sim (state_good ns (k1 + m))).2 s).symm

/-! ### Paths, one more -/

theorem ins_rising {out : List (List UInt8)} (h : Rising out) {p : List UInt8} {k : Nat} (hlt : ∀ x ∈ out.take k, ltL x p = true) (hge : ∀ (hk : k < out.length), ltL p out[k] = true) : Rising (out.take k ++ p :: out.drop k) := by
  have hd : ∀ x ∈ out.drop k, ltL p x = true := fun x hx => by
    have hk : k < out.length := by
      rcases Nat.lt_or_ge k out.length with h1 | h1
      · exact h1
      · rw [List.drop_eq_nil_of_le h1] at hx; cases hx
    have hd := List.drop_eq_getElem_cons hk
    have h2 : Rising (out.drop k) := h.sublist (List.drop_sublist k out)
    rw [hd] at h2 hx
    rcases List.mem_cons.1 hx with e | hx
    · rw [e]; exact hge hk
    · exact ltL_trans (hge hk) ((List.pairwise_cons.1 h2).1 x hx)
  refine List.pairwise_append.2 ⟨h.sublist (List.take_sublist k out), List.pairwise_cons.2 ⟨hd, h.sublist (List.drop_sublist k out)⟩, fun a ha b hb => ?_⟩
  rcases List.mem_cons.1 hb with e | hb
  · rw [e]; exact hlt a ha
  · exact ltL_trans (hlt a ha) (hd b hb)

theorem ins_mem {out : List (List UInt8)} {p : List UInt8} (k : Nat) (x : List UInt8) : x ∈ out.take k ++ p :: out.drop k ↔ x ∈ out ∨ x = p := by
  conv => rhs; rw [← List.take_append_drop k out]
  simp only [List.mem_append, List.mem_cons]
  constructor
  · rintro (h | h | h)
    · exact .inl (.inl h)
    · exact .inr h
    · exact .inl (.inr h)
  · rintro ((h | h) | h)
    · exact .inl h
    · exact .inr (.inr h)
    · exact .inr (.inl h)

end
end Go.Proofs.YtabonbbfcfchmaaDoor
