/-
  Contracts: a tree is made to have these nodes.
  Contracts: the document's: is a stat right; may rows be a tree's nodes?
  Contracts: the document's tree is loaded.
  Plain: the document's rows and the program's maps behind a load, behind a row of sittings.
  Contracts: the document's tree gets sittings.
  Contracts: a tree gets sittings.
  Contracts: a deed that makes a node, as the law of chapter 11 writes it.
  Contracts: the law of chapter 11 is awake; is a deed great?
  The law TreeLoads, walked.
-/
import Derived.Test.YtbebacffaljckaaGreatDoorG17
import Derived.Test.YtbebacffaljckaaGreatDoorG07
import Derived.Test.YtbebacffaljckaaGreatDoorG16
import Derived.Test.YtbebacffaljckaaGreatDoorG14
import Derived.Test.YtbebacffaljckaaGreatDoorG12
import Derived.Test.YtbebacffaljckaaGreatDoorG06
import Derived.Test.YtbebacffaljckaaGreatDoorG18
namespace Go.Proofs.YtbebacffaljckaaGreatDoor
open Go.Sx Go.RowKit
noncomputable section
open Classical

/-- What Load asks, one by one. -/
def LoadC (l : List ToldD) : Prop := (∀ i (h : i < l.length), NodeFits l[i] ∧ (0 < i → ltL (pathL l[i - 1].path) (pathL l[i].path) = true)) ∧ ∃ x, l.head? = some x ∧ x.path = rootS

theorem loadC_of {l : List ToldD} (h : LoadOk l) : LoadC l := by
  refine ⟨fun i hi => ⟨h.1 _ (List.getElem_mem hi), fun h0 => ?_⟩, h.2.2⟩
  have := List.pairwise_iff_getElem.1 h.2.1 (i - 1) i (by omega) hi (by omega)
  exact this

theorem nn_min (x y : Int) : (0 ≤ bif decide (y < x) then y else x) ↔ (0 ≤ x ∧ 0 ≤ y) := by
  by_cases h : y < x
  · simp only [h, decide_true, cond_true]; omega
  · simp only [h, decide_false, cond_false]; omega

def statedS : FSpec := ⟨StatD, fun s vs _ => vs = [.agg s.cells.toArray], fun s _ A v A' => A' = A ∧ v = .bool (decide (StatOk s))⟩

set_option maxRecDepth 100000 in
set_option maxHeartbeats 0 in
theorem stated_ok : FOk Tryz.prog 29 statedS := by
  refine fok_v mixed fun (s : StatD) vs A hp => ?_
  obtain ⟨s1, s2, s3, s4, s5, s6, s7, s8, s9, s10⟩ := s
  obtain rfl : vs = [.agg #[.int .i64 s1, .int .i64 s2, .int .i64 s3, .int .i64 s4, .int .i64 s5, .int .i64 s6, .int .i64 s7, .int .i64 s8, .int .i64 s9, .int .i64 s10]] := hp
  refine ⟨noC, noL, 60, noC_sound _, noL_sound _, fun blk os out tape D hD => ?_⟩
  conv => lhs; whnf
  refine (hD _).2 ⟨rfl, ?_⟩
  congr 1
  rw [decide_eq_decide]
  simp only [cond_false, nn_min, StatOk, and_assoc]

def checkS : FSpec := ⟨ByteArray, fun p vs _ => vs = [.string p], fun p _ A v A' => A' = A ∧ v = .bool (pathOk p.data.toList)⟩

theorem check_ok : FOk Tryz.prog 28 checkS := by
  intro p vs A w hA hp
  obtain rfl : vs = [.string p] := hp
  refine goes_of_calls Tryz.func28 ⟨by kernel_rfl, by kernel_rfl⟩ ?_
  intro cs
  obtain ⟨e, w', fr, ⟨k1, b1, b2, b3, _, b5⟩, k3⟩ := check1 p w cs
  have hlt : ∀ k o, A.blk k = some o → k < w.heap.size := fun k o hk => (Array.getElem?_eq_some_iff.1 (hA k o hk)).1
  exact ⟨e, w', fr, ⟨_, k1, A, ⟨rfl, rfl⟩, b1, b3, b2, fun k _ hk => b5 k hk, fun k o hk => (b5 k (hlt k o hk)).trans (hA k o hk), fun k o ho => .inl ⟨o, ho⟩⟩, k3⟩

structure LoG where
  k : Nat
  A : Arena
  B : Arena
  O : Nat → Prop

def loadInv1 (A : Arena) (l : List (ToldD × Value)) : LInv :=
  { γ := Nat, G := fun k => k ≤ l.length ∧ ∀ i (h : i < l.length), i < k → NodeFits l[i].1 ∧ (0 < i → ltL (pathL l[i - 1].1.path) (pathL l[i].1.path) = true),
    keepS := [0, 1, 12, 13], keepB := [], sl := fun k => [(14, .v (.int .i64 k))], bl := fun _ => [], ar := fun _ => A, mu := fun k => l.length - k }

structure LoadI (A : Arena) (B : Arena) (O : Nat → Prop) (t : Nat) (T : TreeD) (l : List (ToldD × Value)) (s : LoG) : Prop where
  le : s.k ≤ l.length
  tree : TreeAt s.A s.B s.O t ⟨loadN ((l.take s.k).map (·.1)), T.seats⟩
  step : Step A B O s.A s.B s.O

def loadInv2 (A B : Arena) (O : Nat → Prop) (t : Nat) (T : TreeD) (l : List (ToldD × Value)) : LInv :=
  { γ := LoG, G := LoadI A B O t T l, keepS := [0, 65, 66], keepB := [], sl := fun s => [(67, .v (.int .i64 s.k))], bl := fun _ => [], ar := fun s => s.A, mu := fun s => l.length - s.k }

def loadS : FSpec := ⟨TG × List (ToldD × Value) × Arena, fun g vs A => ∃ x, vs = [.pointer (some ⟨g.1.t, 0, none⟩), x] ∧ TreeAt A g.1.B g.1.O g.1.t g.1.T ∧ NodesR g.2.2 x g.2.1 ∧ g.2.1.length ≤ 1000000 ∧ Aside A g.2.2 g.1.O,
  fun g _ A v A' => if LoadC (g.2.1.map (·.1)) then v = .int .i64 0 ∧ StepTo A g.1.B g.1.O g.1.t ⟨loadN (g.2.1.map (·.1)), g.1.T.seats⟩ A' else v = .int .i64 4 ∧ A' = A⟩

theorem loadC_fail {l : List (ToldD × Value)} {k : Nat} (hk : k < l.length) (h : ¬ (NodeFits l[k].1 ∧ (0 < k → ltL (pathL l[k - 1].1.path) (pathL l[k].1.path) = true))) : ¬ LoadC (l.map (·.1)) := fun hc => h (by
  have := hc.1 k (by rw [List.length_map]; exact hk)
  simpa using this)

theorem loadC_all {l : List (ToldD × Value)} (h : ∀ i (h : i < l.length), NodeFits l[i].1 ∧ (0 < i → ltL (pathL l[i - 1].1.path) (pathL l[i].1.path) = true)) (hr : ∃ x, (l.map (·.1)).head? = some x ∧ x.path = rootS) : LoadC (l.map (·.1)) :=
  ⟨fun i hi => by
    have := h i (by rw [List.length_map] at hi; exact hi)
    simpa using this, hr⟩

theorem ltL_no {a b : List UInt8} (h : ltL a b = true) : (ltL b a || beqL b a) = false := by
  have h1 := (ltL_iff a b).1 h
  rw [Bool.or_eq_false_iff]
  constructor
  · cases hx : ltL b a with
    | false => rfl
    | true => exact absurd ((ltL_iff b a).1 hx) (List.lt_asymm h1)
  · cases hx : beqL b a with
    | false => rfl
    | true =>
      have e := beqL_iff.1 hx
      subst e
      exact absurd h1 (List.lt_irrefl _)

theorem ltL_yes {a b : List UInt8} (h : (ltL b a || beqL b a) = false) : ltL a b = true := by
  rw [Bool.or_eq_false_iff] at h
  cases hx : ltL a b with
  | true => rfl
  | false =>
    have e := ltL_tri hx h.1
    subst e
    exact absurd rfl (beqL_ff.1 h.2)

/-- A tree's nodes are begun anew. -/
theorem fresh_nodes {A A1 A2 B : Arena} {O : Nat → Prop} {t : Nat} {T : TreeD} {m s : Nat} {E : List (ByteArray × Nat × NodeD)} (h : TreeR A B O t T m s E) {m' : Nat} (hm' : A.blk m' = none) (hA1 : ∀ k, k ≠ m' → A1.blk k = A.blk k) (hM1 : MapAt A1 m' []) (hP2 : A1.Put A2 t 0 [.map (some m')]) :
    TreeR A2 B (fun k => O k ∨ k = m') t ⟨[], T.seats⟩ m' s [] ∧ Step A B O A2 B fun k => O k ∨ k = m' := by
  obtain ⟨ot, hot⟩ := h.live t h.own.1
  have tm : t ≠ m' := fun e => by rw [e, hm'] at hot; cases hot
  have htop1 : CellsAt A1 t [.map (some m), .map (some s)] := h.top.sub fun o ho => by rw [hA1 t tm]; exact ho
  have htop2 : CellsAt A2 t [.map (some m'), .map (some s)] := htop1.put hP2 (by show 0 + 1 ≤ 2; omega)
  have hA2 : ∀ k, k ≠ t → A2.blk k = A1.blk k := hP2.other
  have live_ne : ∀ {k : Nat}, O k → k ≠ m' := fun {k} hk e => by
    obtain ⟨o, ho⟩ := h.live k hk
    rw [e, hm'] at ho; cases ho
  have hold : ∀ k, k ≠ t → k ≠ m' → A2.blk k = A.blk k := fun k h1 h2 => by rw [hA2 k h1, hA1 k h2]
  have hBm : B.blk m' = none := by
    cases hB : B.blk m' with
    | none => rfl
    | some o => have := h.sub _ _ hB; rw [hm'] at this; cases this
  refine ⟨{ nodes := rfl
            top := htop2
            nmap := hM1.sub fun o ho => by rw [hA2 m' (Ne.symm tm)]; exact ho
            smap := h.smap.sub fun o ho => by rw [hold s (Ne.symm h.top_ne.2) (live_ne h.own.2.2.1)]; exact ho
            cells := fun e he => by cases he
            keys := List.nodup_nil
            ptrs := List.nodup_nil
            skeys := h.skeys
            sub := fun k o hk => by
              rw [hold k (fun e => by subst e; rw [h.off _ h.own.1] at hk; cases hk) (fun e => by subst e; rw [hBm] at hk; cases hk)]
              exact h.sub k o hk
            own := ⟨.inl h.own.1, .inr rfl, .inl h.own.2.2.1, fun e he => by cases he⟩
            off := fun k hk => by
              rcases hk with hk | rfl
              · exact h.off k hk
              · exact hBm
            live := fun k hk => by
              by_cases e : k = t
              · subst e; exact htop2.dom
              · rcases hk with hk | rfl
                · rw [hold k e (live_ne hk)]; exact h.live k hk
                · rw [hA2 _ e]
                  obtain ⟨es, cl, h1, _⟩ := hM1
                  exact ⟨_, h1⟩
            ne := ⟨fun e => live_ne h.own.2.2.1 e.symm, fun e he => by cases he⟩ }, fun k o hk' hO => ?_, fun k hn => ?_, fun k hO => ?_, Arena.Sub.refl _, fun k o hb => .inl hb⟩
  · have n1 : k ≠ t := fun e => hO (e ▸ h.own.1)
    have n2 : k ≠ m' := fun e => by rw [e, hm'] at hk'; cases hk'
    rw [hold k n1 n2]; exact hk'
  · by_cases n2 : k = m'
    · rw [n2]; exact hm'
    · by_cases n1 : k = t
      · subst n1
        obtain ⟨o, ho⟩ := htop2.dom
        rw [ho] at hn; cases hn
      · rw [hold k n1 n2] at hn; exact hn
  · rcases hO with hO | rfl
    · exact .inl hO
    · exact .inr hm'

set_option maxRecDepth 100000 in
set_option maxHeartbeats 0 in
theorem loadC_ok : FOk Tryz.prog 10 loadS := by
  refine fok_a mixed alNode fun ⟨⟨T, B, O, t⟩, l, C⟩ vs A hp => ?_
  obtain ⟨x, rfl, ⟨m, s, E, h⟩, ⟨⟨ao, c, rfl, hc, _, ha1, ha2, ha3⟩, hda⟩, hl1, hAs⟩ : ∃ x, vs = [.pointer (some ⟨t, 0, none⟩), x] ∧ TreeAt A B O t T ∧ NodesR C x l ∧ l.length ≤ 1000000 ∧ Aside A C O := hp
  have hCt : CTSound Tryz.prog (lookC [specE 28 checkS, specE 29 statedS, specE 30 cloneBytesS] noC) := lookC_sound (noC_sound _) (fun x hx => by
    simp only [List.mem_cons, List.not_mem_nil, or_false] at hx
    rcases hx with rfl | rfl | rfl
    · exact specE_ok check_ok
    · exact specE_ok stated_ok
    · exact specE_ok cloneBytes_ok)
  refine ⟨_, tabO Tryz.prog _ noL 60 [(10, 0), (10, 2)], 60, hCt, tabO_sound mixed hCt (noL_sound _) _ _, fun blk os out tape D hD => ?_⟩
  have htop : A.rd t 0 1 = some [.map (some m)] := h.top.rd (o := 0) (n := 1) (by show 0 + 1 ≤ 2; omega)
  have hbad : ¬ LoadC (l.map (·.1)) → loadS.post (⟨T, B, O, t⟩, l, C) [.pointer (some ⟨t, 0, none⟩), .slice ao l.length c] A (.int .i64 4) A := fun hn => by
    show if LoadC (l.map (·.1)) then _ else _
    rw [if_neg hn]
    exact ⟨rfl, rfl⟩
  conv => lhs; whnf
  repeat (first | refine go_rd htop ?_ | refine go_D hD rfl ?_
          conv => lhs; whnf)
  refine (hD _).2 ⟨loadInv1 A l, ⟨(0 : Nat), ⟨Nat.zero_le _, fun i _ h0 => absurd h0 (Nat.not_lt_zero _)⟩, ⟨rfl, trivial⟩, trivial, rfl⟩, fun (k : Nat) hG => ⟨⟨trivial, trivial⟩, trivial, ?_⟩⟩
  obtain ⟨hk, hfit⟩ : k ≤ l.length ∧ ∀ i (h : i < l.length), i < k → NodeFits l[i].1 ∧ (0 < i → ltL (pathL l[i - 1].1.path) (pathL l[i].1.path) = true) := hG
  conv => lhs; whnf
  refine split_dec (fun hlt => ?_) (fun hlt => ?_) <;> (conv => lhs; whnf)
  · have hkl : k < l.length := by
      have hlt : (k : Int) < (l.length : Int) := hlt
      omega
    obtain ⟨g, o, rfl, hra⟩ := Sl.at_ hc ha1 ha2 ha3 (by omega)
    have r1 := row_at (enc := nodeC) (fun _ => rfl) hra k hkl rfl
    have i0 : (0 : Int) ≤ (k : Int) ∧ (k : Int) < (l.length : Int) := by omega
    obtain ⟨⟨⟨p, d, ⟨s1, s2, s3, s4, s5, s6, s7, s8, s9, s10⟩⟩, vd⟩, hx⟩ : ∃ y, y = l[k] := ⟨_, rfl⟩
    have hd : SlB C vd d := hda ((⟨p, d, ⟨s1, s2, s3, s4, s5, s6, s7, s8, s9, s10⟩⟩ : ToldD), vd) (by rw [hx]; exact List.getElem_mem _)
    obtain ⟨ad, cd, rfl⟩ := hd.1.form
    rw [← hx] at r1
    have r1 : A.rd g (o + k * 12) 12 = some [.string p, .slice ad d.length cd, .int .i64 s1, .int .i64 s2, .int .i64 s3, .int .i64 s4, .int .i64 s5, .int .i64 s6, .int .i64 s7, .int .i64 s8, .int .i64 s9, .int .i64 s10] := rd_sub hAs.1 r1
    have hk1 : k - 1 < l.length := by omega
    have hw : 0 < k → IntKind.i64.wrap ((k : Int) - 1) = ((k - 1 : Nat) : Int) := fun hk0 => by
      rw [Sx.wrap_i64 (by omega) (by omega)]; omega
    have hin0 : 0 < k → 0 ≤ IntKind.i64.wrap ((k : Int) - 1) ∧ IntKind.i64.wrap ((k : Int) - 1) < (l.length : Int) := fun hk0 => by rw [hw hk0]; omega
    have r0 := row_at (enc := nodeC) (fun _ => rfl) hra (k - 1) hk1 rfl
    have r0p : 0 < k → A.rd g (o + (IntKind.i64.wrap ((k : Int) - 1)).toNat * 12) 1 = some [.string l[k - 1].1.path] := fun hk0 => by
      have := rd_at (rd_sub hAs.1 r0) (i := 0) (m := 1) (by omega)
      rw [hw hk0, Int.toNat_natCast]
      exact this
    repeat (first | refine go_in i0 ?_ | refine go_rd r1 ?_
            conv => lhs; whnf)
    have hbadk := fun hn => hbad (loadC_fail hkl hn)
    rw [← hx] at hbadk
    dsimp only at hbadk
    refine (hD _).2 ⟨p, rfl, fun v A9 hq => ?_⟩
    have hq : A9 = A ∧ v = .bool (pathOk p.data.toList) := hq
    obtain ⟨h9, hv⟩ := hq
    have h9 := h9.symm
    subst h9
    by_cases hpk : pathOk p.data.toList = true
    rotate_left
    · have hv : v = .bool false := by rw [hv]; simpa using hpk
      subst hv
      conv => lhs; whnf
      exact (hD _).2 (hbadk fun hh => hpk hh.1.1)
    have hv : v = .bool true := by rw [hv, hpk]
    subst hv
    conv => lhs; whnf
    refine split_dec (fun h0 => ?_) (fun h0 => ?_) <;> (conv => lhs; whnf)
    · have hk0 : 0 < k := by
        have h0 : (0 : Int) < (k : Int) := h0
        omega
      refine go_in (hin0 hk0) ?_
      conv => lhs; whnf
      refine go_rd (r0p hk0) ?_
      conv => lhs; whnf
      refine split_b (fun hb => ?_) (fun hb => ?_) <;> (conv => lhs; whnf)
      · exact (hD _).2 (hbadk fun hh => by
          exact absurd (hb.symm.trans (ltL_no (hh.2 hk0))) (by simp))
      have hlt0 : ltL (pathL l[k - 1].1.path) (pathL p) = true := ltL_yes hb
      refine split_dec (fun h1000 => ?_) (fun h1000 => ?_) <;> (conv => lhs; whnf)
      · exact (hD _).2 (hbadk fun hh => by have := hh.1.2.1; dsimp only at this; omega)
      refine (hD _).2 ⟨(⟨s1, s2, s3, s4, s5, s6, s7, s8, s9, s10⟩ : StatD), rfl, fun v A9 hq => ?_⟩
      have hq : A9 = A ∧ v = .bool (decide (StatOk ⟨s1, s2, s3, s4, s5, s6, s7, s8, s9, s10⟩)) := hq
      obtain ⟨h9, hv⟩ := hq
      have h9 := h9.symm
      subst h9
      by_cases hst : StatOk ⟨s1, s2, s3, s4, s5, s6, s7, s8, s9, s10⟩
      rotate_left
      · have hv : v = .bool false := by rw [hv, decide_eq_false hst]
        subst hv
        conv => lhs; whnf
        exact (hD _).2 (hbadk fun hh => hst hh.1.2.2)
      have hv : v = .bool true := by rw [hv, decide_eq_true hst]
      subst hv
      conv => lhs; whnf
      have hstep : k + 1 ≤ l.length ∧ ∀ i (h : i < l.length), i < k + 1 → NodeFits l[i].1 ∧ (0 < i → ltL (pathL l[i - 1].1.path) (pathL l[i].1.path) = true) := ⟨by omega, fun i h hi => by
        by_cases e : i = k
        · subst e
          rw [← hx]
          exact ⟨⟨hpk, by show d.length ≤ 1000; omega, hst⟩, fun _ => hlt0⟩
        · exact hfit i h (by omega)⟩
      exact (hD _).2 ⟨(k + 1 : Nat), ⟨hstep, ⟨inc_slot (k := k) (by omega), trivial⟩, trivial, rfl⟩, by show l.length - (k + 1) < l.length - k; omega, ⟨rfl, rfl, rfl, rfl, trivial⟩, trivial⟩
    · have hk0 : k = 0 := by
        have h0 : ¬ (0 : Int) < (k : Int) := h0
        omega
      refine split_dec (fun h1000 => ?_) (fun h1000 => ?_) <;> (conv => lhs; whnf)
      · exact (hD _).2 (hbadk fun hh => by have := hh.1.2.1; dsimp only at this; omega)
      refine (hD _).2 ⟨(⟨s1, s2, s3, s4, s5, s6, s7, s8, s9, s10⟩ : StatD), rfl, fun v A9 hq => ?_⟩
      have hq : A9 = A ∧ v = .bool (decide (StatOk ⟨s1, s2, s3, s4, s5, s6, s7, s8, s9, s10⟩)) := hq
      obtain ⟨h9, hv⟩ := hq
      have h9 := h9.symm
      subst h9
      by_cases hst : StatOk ⟨s1, s2, s3, s4, s5, s6, s7, s8, s9, s10⟩
      rotate_left
      · have hv : v = .bool false := by rw [hv, decide_eq_false hst]
        subst hv
        conv => lhs; whnf
        exact (hD _).2 (hbadk fun hh => hst hh.1.2.2)
      have hv : v = .bool true := by rw [hv, decide_eq_true hst]
      subst hv
      conv => lhs; whnf
      have hstep : k + 1 ≤ l.length ∧ ∀ i (h : i < l.length), i < k + 1 → NodeFits l[i].1 ∧ (0 < i → ltL (pathL l[i - 1].1.path) (pathL l[i].1.path) = true) := ⟨by omega, fun i h hi => by
        by_cases e : i = k
        · subst e
          rw [← hx]
          exact ⟨⟨hpk, by show d.length ≤ 1000; omega, hst⟩, fun h => absurd h (by omega)⟩
        · exact hfit i h (by omega)⟩
      exact (hD _).2 ⟨(k + 1 : Nat), ⟨hstep, ⟨inc_slot (k := k) (by omega), trivial⟩, trivial, rfl⟩, by show l.length - (k + 1) < l.length - k; omega, ⟨rfl, rfl, rfl, rfl, trivial⟩, trivial⟩
  · have e : k = l.length := by
      have hlt : ¬ (k : Int) < (l.length : Int) := hlt
      omega
    subst e
    have hfit' : ∀ i (h : i < l.length), NodeFits l[i].1 ∧ (0 < i → ltL (pathL l[i - 1].1.path) (pathL l[i].1.path) = true) := fun i h => hfit i h h
    by_cases hl0 : l = []
    · subst hl0
      have hn : ¬ LoadC (([] : List (ToldD × Value)).map (·.1)) := fun hc => (by
        obtain ⟨_, x, hx, _⟩ := hc
        cases hx)
      exact (hD _).2 (hbad hn)
    · obtain ⟨y, l', hyl⟩ : ∃ y l', l = y :: l' := by
        cases l with
        | nil => exact absurd rfl hl0
        | cons y l' => exact ⟨y, l', rfl⟩
      subst hyl
      have hpos : 0 < (y :: l').length := by simp
      obtain ⟨g, o, rfl, hra⟩ := Sl.at_ hc ha1 ha2 ha3 hpos
      have r0 := row_at (enc := nodeC) (fun _ => rfl) hra 0 hpos rfl
      rw [Nat.zero_mul, Nat.add_zero] at r0
      have r0p : A.rd g o 1 = some [.string y.1.path] := by
        have := rd_at (rd_sub hAs.1 r0) (i := 0) (m := 1) (by omega)
        rw [Nat.add_zero] at this
        exact this
      conv => lhs; whnf
      have i0 : (0 : Int) ≤ (0 : Int) ∧ (0 : Int) < ((y :: l').length : Int) := by constructor <;> omega
      refine go_in i0 ?_
      conv => lhs; whnf
      refine go_rd r0p ?_
      conv => lhs; whnf
      refine split_b (fun hb => ?_) (fun hb => ?_) <;> (conv => lhs; whnf)
      · refine (hD _).2 (hbad fun hc => ?_)
        obtain ⟨_, x, hx, hr⟩ := hc
        injection hx with hx
        subst hx
        rw [hr] at hb
        exact absurd hb (by simp [rootS, beqL])
      have hyr : y.1.path = rootS := bytes_ext (by
        have hb2 : beqL y.1.path.data.toList [47] = true := by simpa using hb
        exact beqL_iff.1 hb2)
      have hgood : LoadC ((y :: l').map (·.1)) := loadC_all hfit' ⟨y.1, rfl, hyr⟩
      refine (hD _).2 fun m' A1 hm' hA1 hM1 => ?_
      have hm' : A.blk m' = none := hm'
      have hA1 : ∀ k, k ≠ m' → A1.blk k = A.blk k := hA1
      have htopA1 : CellsAt A1 t [.map (some m), .map (some s)] := h.top.sub fun o ho => by
        obtain ⟨ot, hot⟩ := h.live t h.own.1
        rw [hA1 t fun e => by rw [e, hm'] at hot; cases hot]; exact ho
      conv => lhs; whnf
      refine (hD _).2 ⟨htopA1.room (o := 0) (n := 1) (by show 0 + 1 ≤ 2; omega), fun A2 hP2 => ?_⟩
      have hP2 : A1.Put A2 t 0 [.map (some m')] := hP2
      have hfresh := fresh_nodes h hm' hA1 hM1 hP2
      have hI0 : LoadI A B O t T (y :: l') ⟨0, A2, B, fun k => O k ∨ k = m'⟩ := ⟨Nat.zero_le _, ⟨m', s, [], hfresh.1⟩, hfresh.2⟩
      conv => lhs; whnf
      refine (hD _).2 ⟨loadInv2 A B O t T (y :: l'), ⟨(⟨0, A2, B, fun k => O k ∨ k = m'⟩ : LoG), hI0, ⟨rfl, trivial⟩, trivial, rfl⟩, fun (sg : LoG) hG => ⟨⟨trivial, trivial⟩, trivial, ?_⟩⟩
      obtain ⟨j, Ak, B2, O2⟩ := sg
      have hG : LoadI A B O t T (y :: l') ⟨j, Ak, B2, O2⟩ := hG
      have hj := hG.le
      have hT2 := hG.tree
      have hS2 := hG.step
      dsimp only at hj hT2 hS2
      conv => lhs; whnf
      refine split_dec (fun hlt => ?_) (fun hlt => ?_) <;> (conv => lhs; whnf)
      · have hjl : j < (y :: l').length := by
          have hlt : (j : Int) < ((y :: l').length : Int) := hlt
          omega
        have r1 := row_at (enc := nodeC) (fun _ => rfl) hra j hjl rfl
        have hCk : C.Sub Ak := hS2.stays hAs.1 hAs.2
        have i1 : (0 : Int) ≤ (j : Int) ∧ (j : Int) < ((y :: l').length : Int) := by omega
        obtain ⟨⟨⟨p, d, ⟨s1, s2, s3, s4, s5, s6, s7, s8, s9, s10⟩⟩, vd⟩, hx⟩ : ∃ z, z = (y :: l')[j] := ⟨_, rfl⟩
        have hd : SlB C vd d := hda ((⟨p, d, ⟨s1, s2, s3, s4, s5, s6, s7, s8, s9, s10⟩⟩ : ToldD), vd) (by rw [hx]; exact List.getElem_mem _)
        obtain ⟨ad, cd, rfl⟩ := hd.1.form
        rw [← hx] at r1
        have r1 : Ak.rd g (o + j * 12) 12 = some [.string p, .slice ad d.length cd, .int .i64 s1, .int .i64 s2, .int .i64 s3, .int .i64 s4, .int .i64 s5, .int .i64 s6, .int .i64 s7, .int .i64 s8, .int .i64 s9, .int .i64 s10] := rd_sub hCk r1
        have htk : loadN (((y :: l').take (j + 1)).map (·.1)) = kPut p ⟨d, ⟨s1, s2, s3, s4, s5, s6, s7, s8, s9, s10⟩⟩ (loadN (((y :: l').take j).map (·.1))) := by
          rw [List.take_succ_eq_append_getElem hjl, List.map_append, List.map_singleton, loadN_snoc, ← hx]
        obtain ⟨m2, s2', E2, hR⟩ := hT2
        have htop' : Ak.rd t 0 1 = some [.map (some m2)] := hR.top.rd (o := 0) (n := 1) (by show 0 + 1 ≤ 2; omega)
        repeat (first | refine go_in i1 ?_ | refine go_rd r1 ?_ | refine go_rd htop' ?_ | refine go_D hD rfl ?_
                conv => lhs; whnf)
        refine (hD _).2 ⟨d, ⟨_, rfl, hd.sub hCk⟩, fun v A4 hq => ?_⟩
        have hq : Ak.Sub A4 ∧ SlB (A4.minus Ak) v d := hq
        obtain ⟨s4', b4⟩ := hq
        obtain ⟨ax, cx, rfl⟩ := b4.1.form
        have htop4 := rd_sub s4' htop'
        conv => lhs; whnf
        repeat (first | refine go_rd htop4 ?_ | refine go_D hD rfl ?_
                conv => lhs; whnf)
        refine (hD _).2 fun g' A5 hN => ?_
        have hN : A4.New A5 g' (.slice ax d.length cx :: (⟨s1, s2, s3, s4, s5, s6, s7, s8, s9, s10⟩ : StatD).cells).toArray 62 := hN
        have htop5 := rd_sub hN.sub htop4
        conv => lhs; whnf
        repeat (first | refine go_rd htop5 ?_ | refine go_D hD rfl ?_
                conv => lhs; whnf)
        have hm5 := hR.nmap.sub (A' := A5) fun o ho => hN.sub _ _ (s4' _ _ ho)
        refine (hD _).2 ⟨_, hm5, strL_alike ptrV p _, fun A6 hm6 ho6 => ?_⟩
        have hst : StepTo Ak B2 O2 t ⟨kPut p ⟨d, ⟨s1, s2, s3, s4, s5, s6, s7, s8, s9, s10⟩⟩ (loadN (((y :: l').take j).map (·.1))), T.seats⟩ A6 := step_put hR s4' hN (by rfl) b4 hm6 ho6
        obtain ⟨B6, O6, hT6, hS6⟩ := hst
        have hI : LoadI A B O t T (y :: l') ⟨j + 1, A6, B6, O6⟩ := ⟨by show j + 1 ≤ _; omega, by show TreeAt A6 B6 O6 t ⟨loadN (((y :: l').take (j + 1)).map (·.1)), T.seats⟩; rw [htk]; exact hT6, hS2.trans hS6⟩
        conv => lhs; whnf
        exact (hD _).2 ⟨(⟨j + 1, A6, B6, O6⟩ : LoG), ⟨hI, ⟨inc_slot (k := j) (by omega), trivial⟩, trivial, rfl⟩, by show (y :: l').length - (j + 1) < (y :: l').length - j; omega, ⟨rfl, rfl, rfl, trivial⟩, trivial⟩
      · have e : j = (y :: l').length := by
          have hlt : ¬ (j : Int) < ((y :: l').length : Int) := hlt
          omega
        have hend : loadS.post (⟨T, B, O, t⟩, y :: l', C) [.pointer (some ⟨t, 0, none⟩), .slice (some ⟨g, o, none⟩) (y :: l').length c] A (.int .i64 0) Ak := by
          show if LoadC ((y :: l').map (·.1)) then _ else _
          rw [if_pos hgood]
          rw [e, List.take_length] at hT2
          exact ⟨rfl, B2, O2, hT2, hS2⟩
        exact (hD _).2 hend

end
end Go.Proofs.YtbebacffaljckaaGreatDoor

namespace Go.Proofs.YtbebacffaljckaaGreatDoor
open Go.Sx Go.RowKit
noncomputable section
open Classical

def rstatS : FSpec := ⟨StatD, fun s vs _ => vs = [.agg s.cells.toArray], fun s _ A v A' => A' = A ∧ v = .bool (decide (StatOk s))⟩

set_option maxRecDepth 100000 in
set_option maxHeartbeats 0 in
theorem rstat_ok : FOk Tryz.prog 60 rstatS := by
  refine fok_v mixed fun (s : StatD) vs A hp => ?_
  obtain ⟨s1, s2, s3, s4, s5, s6, s7, s8, s9, s10⟩ := s
  obtain rfl : vs = [.agg #[.int .i64 s1, .int .i64 s2, .int .i64 s3, .int .i64 s4, .int .i64 s5, .int .i64 s6, .int .i64 s7, .int .i64 s8, .int .i64 s9, .int .i64 s10]] := hp
  refine ⟨noC, noL, 60, noC_sound _, noL_sound _, fun blk os out tape D hD => ?_⟩
  have hbad : ¬ StatOk ⟨s1, s2, s3, s4, s5, s6, s7, s8, s9, s10⟩ → rstatS.post (⟨s1, s2, s3, s4, s5, s6, s7, s8, s9, s10⟩ : StatD) [] A (.bool false) A := fun h => by
    refine ⟨rfl, ?_⟩
    show Value.bool false = .bool (decide _)
    rw [decide_eq_false h]
  conv => lhs; whnf
  refine split_dec (fun h1 => ?_) (fun h1 => ?_)
  rotate_left
  · have hend := hbad fun h => h1 (by unfold StatOk at h; dsimp only at h; omega)
    conv => lhs; whnf
    exact (hD _).2 hend
  conv => lhs; whnf
  refine split_dec (fun h2 => ?_) (fun h2 => ?_)
  rotate_left
  · have hend := hbad fun h => h2 (by unfold StatOk at h; dsimp only at h; omega)
    conv => lhs; whnf
    exact (hD _).2 hend
  conv => lhs; whnf
  refine split_dec (fun h3 => ?_) (fun h3 => ?_)
  rotate_left
  · have hend := hbad fun h => h3 (by unfold StatOk at h; dsimp only at h; omega)
    conv => lhs; whnf
    exact (hD _).2 hend
  conv => lhs; whnf
  refine split_dec (fun h4 => ?_) (fun h4 => ?_)
  rotate_left
  · have hend := hbad fun h => h4 (by unfold StatOk at h; dsimp only at h; omega)
    conv => lhs; whnf
    exact (hD _).2 hend
  conv => lhs; whnf
  refine split_dec (fun h5 => ?_) (fun h5 => ?_)
  rotate_left
  · have hend := hbad fun h => h5 (by unfold StatOk at h; dsimp only at h; omega)
    conv => lhs; whnf
    exact (hD _).2 hend
  conv => lhs; whnf
  refine split_dec (fun h6 => ?_) (fun h6 => ?_)
  rotate_left
  · have hend := hbad fun h => h6 (by unfold StatOk at h; dsimp only at h; omega)
    conv => lhs; whnf
    exact (hD _).2 hend
  conv => lhs; whnf
  refine split_dec (fun h7 => ?_) (fun h7 => ?_)
  rotate_left
  · have hend := hbad fun h => h7 (by unfold StatOk at h; dsimp only at h; omega)
    conv => lhs; whnf
    exact (hD _).2 hend
  conv => lhs; whnf
  refine split_dec (fun h8 => ?_) (fun h8 => ?_)
  rotate_left
  · have hend := hbad fun h => h8 (by unfold StatOk at h; dsimp only at h; omega)
    conv => lhs; whnf
    exact (hD _).2 hend
  conv => lhs; whnf
  refine split_dec (fun h9 => ?_) (fun h9 => ?_)
  rotate_left
  · have hend := hbad fun h => h9 (by unfold StatOk at h; dsimp only at h; omega)
    conv => lhs; whnf
    exact (hD _).2 hend
  conv => lhs; whnf
  have hd : decide (0 ≤ s10) = decide (StatOk ⟨s1, s2, s3, s4, s5, s6, s7, s8, s9, s10⟩) := decide_eq_decide.2 ⟨fun h10 => ⟨h1, h2, h3, h4, h5, h6, h7, h8, h9, h10⟩, fun h => h.2.2.2.2.2.2.2.2.2⟩
  exact (hD _).2 ⟨rfl, congrArg Value.bool hd⟩

def ShortL (l : List (ToldD × Value)) : Prop := ∀ x ∈ l, x.1.path.data.toList.length ≤ 140737488351232

def rrowsInv (A0 : Arena) (l : List (ToldD × Value)) : LInv :=
  { γ := Nat × Arena, G := fun g => g.1 ≤ l.length ∧ A0.Sub g.2 ∧ ∀ i (h : i < l.length), i < g.1 → NodeFits l[i].1 ∧ (0 < i → ltL (pathL l[i - 1].1.path) (pathL l[i].1.path) = true),
    keepS := [0], keepB := [], sl := fun g => [(3, .v (.int .i64 g.1))], bl := fun _ => [], ar := fun g => g.2, mu := fun g => l.length - g.1 }

def rrowsS : FSpec := ⟨List (ToldD × Value), fun l vs A => ∃ x, vs = [x] ∧ NodesR A x l ∧ l.length ≤ 1000000 ∧ ShortL l,
  fun l _ A v A' => A.Sub A' ∧ v = .bool (decide (LoadC (l.map (·.1))))⟩

set_option maxRecDepth 100000 in
set_option maxHeartbeats 0 in
theorem rrows_ok : FOk Tryz.prog 31 rrowsS := by
  refine fok_v mixed fun (l : List (ToldD × Value)) vs A hp => ?_
  obtain ⟨x, rfl, ⟨⟨ao, c, rfl, hc, _, ha1, ha2, ha3⟩, hda⟩, hl1, hsh⟩ : ∃ x, vs = [x] ∧ NodesR A x l ∧ l.length ≤ 1000000 ∧ ShortL l := hp
  have hC : CTSound Tryz.prog (lookC [specE 59 refCheckS, specE 60 rstatS] noC) := lookC_sound (noC_sound _) (fun x hx => by
    simp only [List.mem_cons, List.not_mem_nil, or_false] at hx
    rcases hx with rfl | rfl
    · exact specE_ok refCheck_ok
    · exact specE_ok rstat_ok)
  refine ⟨_, tabO Tryz.prog _ noL 60 [(31, 0)], 60, hC, tabO_sound mixed hC (noL_sound _) _ _, fun blk os out tape D hD => ?_⟩
  have hbad : ∀ As, A.Sub As → ¬ LoadC (l.map (·.1)) → rrowsS.post l [.slice ao l.length c] A (.bool false) As := fun As hs hn => by
    refine ⟨hs, ?_⟩
    show Value.bool false = .bool (decide _)
    rw [decide_eq_false hn]
  conv => lhs; whnf
  refine (hD _).2 ⟨rrowsInv A l, ⟨((0, A) : Nat × Arena), ⟨Nat.zero_le _, Arena.Sub.refl _, fun i _ h0 => absurd h0 (Nat.not_lt_zero _)⟩, ⟨rfl, trivial⟩, trivial, rfl⟩, fun (sg : Nat × Arena) hG => ⟨⟨trivial, trivial⟩, trivial, ?_⟩⟩
  obtain ⟨k, As⟩ := sg
  obtain ⟨hk, hAs, hfit⟩ : k ≤ l.length ∧ A.Sub As ∧ ∀ i (h : i < l.length), i < k → NodeFits l[i].1 ∧ (0 < i → ltL (pathL l[i - 1].1.path) (pathL l[i].1.path) = true) := hG
  conv => lhs; whnf
  refine split_dec (fun hlt => ?_) (fun hlt => ?_)
  · have hkl : k < l.length := by
      have hlt : (k : Int) < (l.length : Int) := hlt
      omega
    obtain ⟨g, o, rfl, hra⟩ := Sl.at_ hc ha1 ha2 ha3 (by omega)
    have r1 := row_at (enc := nodeC) (fun _ => rfl) hra k hkl rfl
    have i0 : (0 : Int) ≤ (k : Int) ∧ (k : Int) < (l.length : Int) := by omega
    have hpl := hsh l[k] (List.getElem_mem hkl)
    obtain ⟨⟨⟨p, d, ⟨s1, s2, s3, s4, s5, s6, s7, s8, s9', s10⟩⟩, vd⟩, hx⟩ : ∃ y, y = l[k] := ⟨_, rfl⟩
    have hd : SlB A vd d := hda ((⟨p, d, ⟨s1, s2, s3, s4, s5, s6, s7, s8, s9', s10⟩⟩ : ToldD), vd) (by rw [hx]; exact List.getElem_mem _)
    obtain ⟨ad, cd, rfl⟩ := hd.1.form
    rw [← hx] at r1 hpl
    dsimp only at hpl
    have r1 : As.rd g (o + k * 12) 12 = some [.string p, .slice ad d.length cd, .int .i64 s1, .int .i64 s2, .int .i64 s3, .int .i64 s4, .int .i64 s5, .int .i64 s6, .int .i64 s7, .int .i64 s8, .int .i64 s9', .int .i64 s10] := rd_sub hAs r1
    have rp : ∀ A9, As.Sub A9 → A9.rd g (o + k * 12) 1 = some [.string p] := fun A9 h9 => rd_sub h9 (rd_at r1 (i := 0) (m := 1) (by omega))
    have rd1 : ∀ A9, As.Sub A9 → A9.rd g (o + k * 12 + 1) 1 = some [.slice ad d.length cd] := fun A9 h9 => rd_sub h9 (rd_at r1 (i := 1) (m := 1) (by omega))
    have rs : ∀ A9, As.Sub A9 → A9.rd g (o + k * 12 + 2) 10 = some [.int .i64 s1, .int .i64 s2, .int .i64 s3, .int .i64 s4, .int .i64 s5, .int .i64 s6, .int .i64 s7, .int .i64 s8, .int .i64 s9', .int .i64 s10] := fun A9 h9 => rd_sub h9 (rd_at r1 (i := 2) (m := 10) (by omega))
    have hk1 : k - 1 < l.length := by omega
    have hw : 0 < k → IntKind.i64.wrap ((k : Int) - 1) = ((k - 1 : Nat) : Int) := fun hk0 => by
      rw [Sx.wrap_i64 (by omega) (by omega)]; omega
    have hin0 : 0 < k → 0 ≤ IntKind.i64.wrap ((k : Int) - 1) ∧ IntKind.i64.wrap ((k : Int) - 1) < (l.length : Int) := fun hk0 => by rw [hw hk0]; omega
    have r0 := row_at (enc := nodeC) (fun _ => rfl) hra (k - 1) hk1 rfl
    have r0p : 0 < k → ∀ A9, As.Sub A9 → A9.rd g (o + (IntKind.i64.wrap ((k : Int) - 1)).toNat * 12) 1 = some [.string l[k - 1].1.path] := fun hk0 A9 h9 => by
      have := rd_at (rd_sub (hAs.trans h9) r0) (i := 0) (m := 1) (by omega)
      rw [hw hk0, Int.toNat_natCast]
      exact this
    have rp0 := rp As (Arena.Sub.refl _)
    conv => lhs; whnf
    repeat (first | refine go_in i0 ?_ | refine go_rd rp0 ?_
            conv => lhs; whnf)
    have hbadk := fun A9 h9 hn => hbad A9 (hAs.trans h9) (loadC_fail hkl hn)
    rw [← hx] at hbadk
    dsimp only at hbadk
    refine (hD _).2 ⟨p, ⟨rfl, hpl⟩, fun v A1 hq => ?_⟩
    have hq : As.Sub A1 ∧ v = .bool (pathOk p.data.toList) := hq
    obtain ⟨s9, hv⟩ := hq
    have rp1 := rp A1 s9
    have rd11 := rd1 A1 s9
    have rs1 := rs A1 s9
    by_cases hpk : pathOk p.data.toList = true
    rotate_left
    · have hv : v = .bool false := by rw [hv]; simpa using hpk
      subst hv
      have hend := hbadk A1 s9 fun hh => hpk hh.1.1
      conv => lhs; whnf
      exact (hD _).2 hend
    have hv : v = .bool true := by rw [hv, hpk]
    subst hv
    have hstep : (0 < k → ltL (pathL l[k - 1].1.path) (pathL p) = true) → d.length ≤ 1000 → StatOk ⟨s1, s2, s3, s4, s5, s6, s7, s8, s9', s10⟩ → (rrowsInv A l).G ((k + 1, A1) : Nat × Arena) := fun h1 h2 h3 => ⟨by show k + 1 ≤ l.length; omega, hAs.trans s9, fun i h hi => by
      have hi : i < k + 1 := hi
      by_cases e : i = k
      · subst e
        rw [← hx]
        exact ⟨⟨hpk, h2, h3⟩, h1⟩
      · exact hfit i h (by omega)⟩
    conv => lhs; whnf
    refine split_dec (fun h0 => ?_) (fun h0 => ?_)
    have hk0 : 0 < k := by
      have h0 : (0 : Int) < (k : Int) := h0
      omega
    have r0q := r0p hk0 A1 s9
    have hi0 := hin0 hk0
    conv => lhs; whnf
    repeat (first | refine go_in i0 ?_ | refine go_in hi0 ?_ | refine go_rd rp1 ?_ | refine go_rd r0q ?_
            conv => lhs; whnf)
    refine split_b (fun hb => ?_) (fun hb => ?_)
    · have hend := hbadk A1 s9 fun hh => absurd (hb.symm.trans (ltL_no (hh.2 hk0))) (by simp)
      conv => lhs; whnf
      exact (hD _).2 hend
    have hlt0 : 0 < k → ltL (pathL l[k - 1].1.path) (pathL p) = true := fun _ => ltL_yes hb
    rotate_left
    have hlt0 : 0 < k → ltL (pathL l[k - 1].1.path) (pathL p) = true := fun hk0 => absurd (show (0 : Int) < (k : Int) by omega) h0
    rotate_left
    all_goals
      conv => lhs; whnf
      repeat (first | refine go_in i0 ?_ | refine go_rd rd11 ?_
              conv => lhs; whnf)
      refine split_dec (fun h1000 => ?_) (fun h1000 => ?_)
      · have hend := hbadk A1 s9 fun hh => by have := hh.1.2.1; dsimp only at this; omega
        conv => lhs; whnf
        exact (hD _).2 hend
      conv => lhs; whnf
      repeat (first | refine go_in i0 ?_ | refine go_rd rs1 ?_
              conv => lhs; whnf)
      refine (hD _).2 ⟨(⟨s1, s2, s3, s4, s5, s6, s7, s8, s9', s10⟩ : StatD), rfl, fun v A9 hq => ?_⟩
      have hq : A9 = A1 ∧ v = .bool (decide (StatOk ⟨s1, s2, s3, s4, s5, s6, s7, s8, s9', s10⟩)) := hq
      have h9 := hq.1.symm
      have hv := hq.2
      subst h9
      by_cases hst : StatOk ⟨s1, s2, s3, s4, s5, s6, s7, s8, s9', s10⟩
      rotate_left
      · have hv : v = .bool false := by rw [hv, decide_eq_false hst]
        subst hv
        have hend := hbadk A1 s9 fun hh => hst hh.1.2.2
        conv => lhs; whnf
        exact (hD _).2 hend
      have hv : v = .bool true := by rw [hv, decide_eq_true hst]
      subst hv
      have hG := hstep hlt0 (by omega) hst
      conv => lhs; whnf
      exact (hD _).2 ⟨((k + 1, A1) : Nat × Arena), ⟨hG, ⟨inc_slot (k := k) (by omega), trivial⟩, trivial, rfl⟩, by show l.length - (k + 1) < l.length - k; omega, ⟨same1 rfl rfl, trivial⟩, trivial⟩
  · have e : k = l.length := by
      have hlt : ¬ (k : Int) < (l.length : Int) := hlt
      omega
    conv => lhs; whnf
    refine split_dec (fun hpos => ?_) (fun hpos => ?_)
    · have hpos : 0 < l.length := by
        have hpos : (0 : Int) < (l.length : Int) := hpos
        omega
      obtain ⟨g, o, rfl, hra⟩ := Sl.at_ hc ha1 ha2 ha3 hpos
      have r1 := row_at (enc := nodeC) (fun _ => rfl) hra 0 hpos rfl
      have r1 := rd_sub hAs (rd_at r1 (i := 0) (m := 1) (by omega))
      have r1 : As.rd g (o + 0 * 12) 1 = some [.string l[0].1.path] := r1
      have i0 : (0 : Int) ≤ (0 : Int) ∧ (0 : Int) < (l.length : Int) := by omega
      have hres : beqL l[0].1.path.data.toList [47] = decide (LoadC (l.map (·.1))) := by
        have hhead : (l.map (·.1)).head? = some l[0].1 := by
          rw [List.head?_map, List.head?_eq_getElem?, List.getElem?_eq_getElem hpos]; rfl
        cases hb : beqL l[0].1.path.data.toList [47] with
        | true =>
          refine (decide_eq_true (loadC_all (fun i h => hfit i h (by omega)) ⟨l[0].1, hhead, ?_⟩)).symm
          exact bytes_ext (beqL_iff.1 hb)
        | false =>
          refine (decide_eq_false fun h => ?_).symm
          obtain ⟨x, hx, hxp⟩ := h.2
          rw [hhead] at hx
          injection hx with hx
          refine beqL_ff.1 hb ?_
          rw [hx, hxp]; rfl
      have hend : rrowsS.post l [] A (.bool (beqL l[0].1.path.data.toList [47])) As := ⟨hAs, by rw [hres]⟩
      conv => lhs; whnf
      repeat (first | refine go_in i0 ?_ | refine go_rd r1 ?_
              conv => lhs; whnf)
      exact (hD _).2 hend
    · have hend := hbad As hAs fun h => by
        obtain ⟨x, hx, _⟩ := h.2
        have h0 : l = [] := List.length_eq_zero_iff.1 (by
          have hpos : ¬ (0 : Int) < (l.length : Int) := hpos
          omega)
        rw [h0] at hx; cases hx
      conv => lhs; whnf
      exact (hD _).2 hend

end
end Go.Proofs.YtbebacffaljckaaGreatDoor

namespace Go.Proofs.YtbebacffaljckaaGreatDoor
open Go.Sx Go.RowKit
noncomputable section
open Classical

structure LdG where
  k : Nat
  A : Arena
  D : Arena
  v : Value
  rs : List (ToldD × Value)

/-- A row of nodes grows in its place: the tree's first cell holds it. -/
structure LdI (A : Arena) (r : Nat) (vs : Value) (t0 : TypeId) (fz0 : Nat × Nat) (l : List (ToldD × Value)) (s : LdG) : Prop where
  le : s.k ≤ l.length
  old : ∀ k o, A.blk k = some o → k ≠ r → s.A.blk k = some o
  dom : ∀ k, s.A.blk k = none → A.blk k = none
  top : ∃ c1, s.A.blk r = some (.cells c1 t0 fz0) ∧ c1.toList = [s.v, vs]
  row : GrowR (A.plus s.D) s.A 12 49 s.k s.v (s.rs.flatMap nodeC)
  dsub : s.D.Sub s.A
  dnew : ∀ j o, s.D.blk j = some o → A.blk j = none
  rs : s.rs.map (·.1) = (l.take s.k).map (·.1)
  sl : ∀ x ∈ s.rs, SlB s.D x.2 x.1.data

theorem plus_some {A D : Arena} {k : Nat} {o : Obj} (h : A.blk k = some o) : (A.plus D).blk k = some o := plus_l A D k o h

theorem plus_none {A D : Arena} {k : Nat} (h : (A.plus D).blk k = none) : A.blk k = none ∧ D.blk k = none := by
  rw [plus_blk] at h
  cases hA : A.blk k with
  | none => rw [hA] at h; exact ⟨rfl, h⟩
  | some o => rw [hA] at h; cases h

theorem LdI.next {A : Arena} {r : Nat} {vs : Value} {t0 : TypeId} {fz0 : Nat × Nat} {l : List (ToldD × Value)} {s : LdG} (h : LdI A r vs t0 fz0 l s) (hr : ∃ o, A.blk r = some o) (hk : s.k < l.length) {A2 A3 A4 A5 : Arena} {x : ToldD × Value} {w : Value}
    (hx : x.1 = l[s.k].1) (s2 : s.A.Sub A2) (hd : SlB (A2.minus s.A) x.2 x.1.data) (s3 : A2.Sub A3) (hG : GrowR (A.plus (s.D.plus (A2.minus s.A))) A4 12 49 (s.k + 1) w ((s.rs ++ [x]).flatMap nodeC))
    (h4 : ∀ j o, (A.plus (s.D.plus (A2.minus s.A))).blk j = some o → A4.blk j = A3.blk j) (hP : A4.Put A5 r 0 [w]) : LdI A r vs t0 fz0 l ⟨s.k + 1, A5, s.D.plus (A2.minus s.A), w, s.rs ++ [x]⟩ := by
  obtain ⟨c1, hc1, hc2⟩ := h.top
  obtain ⟨o0, ho0⟩ := hr
  have s23 := s2.trans s3
  have hM : ∀ j o, (A2.minus s.A).blk j = some o → A.blk j = none ∧ s.D.blk j = none ∧ j ≠ r := fun j o hj => by
    have h1 := (minus_blk hj).1
    refine ⟨h.dom j h1, ?_, fun e => ?_⟩
    · cases hD : s.D.blk j with
      | none => rfl
      | some o' => rw [h.dsub j o' hD] at h1; cases h1
    · rw [e, hc1] at h1; cases h1
  have hmid : ∀ j o, s.A.blk j = some o → (∃ o', (A.plus (s.D.plus (A2.minus s.A))).blk j = some o') → A4.blk j = some o := fun j o hj ⟨o', ho'⟩ => by
    rw [h4 j o' ho']
    exact s23 j o hj
  have hr4 : A4.blk r = some (.cells c1 t0 fz0) := hmid r _ hc1 ⟨o0, plus_some ho0⟩
  obtain ⟨c, t, fz, c', k1, k2, k3⟩ := hP.at_
  rw [hr4] at k1
  injection k1 with k1
  injection k1 with k1 k1' k1''
  subst k1; subst k1'; subst k1''
  refine ⟨hk, fun k o hko hkr => ?_, fun k hkn => ?_, ⟨c', k2, ?_⟩, hG.keep fun k hkn => hP.other k fun e => ?_, fun k o hko => ?_, fun j o hj => ?_, ?_, fun y hy => ?_⟩
  · show A5.blk k = some o
    rw [hP.other k hkr]
    exact hmid k o (h.old k o hko hkr) ⟨o, plus_some hko⟩
  · have h5 := (hP.dom k).1 hkn
    cases hA : A.blk k with
    | none => rfl
    | some o =>
      by_cases e : k = r
      · rw [e, hr4] at h5; cases h5
      · rw [hmid k o (h.old k o hA e) ⟨o, plus_some hA⟩] at h5; cases h5
  · rw [k3, hc2]; rfl
  · rw [e] at hkn
    have := (plus_none hkn).1
    rw [ho0] at this; cases this
  · show A5.blk k = some o
    rcases plus_cases hko with hD | ⟨_, hD⟩
    · have hkA := h.dnew k o hD
      rw [hP.other k fun e => by rw [e, ho0] at hkA; cases hkA]
      exact hmid k o (h.dsub k o hD) ⟨o, by
        refine plus_r (fun j o' hj => ?_) k o hko
        rcases plus_cases hj with hj | ⟨_, hj⟩
        · exact h.dnew j o' hj
        · exact (hM j o' hj).1⟩
    · obtain ⟨m1, m2, m3⟩ := hM k o hD
      rw [hP.other k m3, h4 k o (by
        refine plus_r (fun j o' hj => ?_) k o hko
        rcases plus_cases hj with hj | ⟨_, hj⟩
        · exact h.dnew j o' hj
        · exact (hM j o' hj).1)]
      exact s3 k o (minus_blk hD).2
  · rcases plus_cases hj with hj | ⟨_, hj⟩
    · exact h.dnew j o hj
    · exact (hM j o hj).1
  · show (s.rs ++ [x]).map (·.1) = (l.take (s.k + 1)).map (·.1)
    rw [List.take_succ_eq_append_getElem hk, List.map_append, List.map_append, h.rs, List.map_singleton, List.map_singleton, hx]
  · rcases List.mem_append.1 hy with hy | hy
    · exact (h.sl y hy).sub (plus_l _ _)
    · simp only [List.mem_singleton] at hy
      rw [hy]
      exact hd.sub (plus_r fun j o hj => (hM j o hj).2.1)

theorem reload_end {A B : Arena} {O : Nat → Prop} {r : Nat} {l0 : List (ToldD × Value)} {S : List SitD} {vn vs : Value} {gn gs : Nat} (h : RefR A B O r l0 S vn vs gn gs) {c0 : Array Value} {t0 : TypeId} {fz0 : Nat × Nat} (hb0 : A.blk r = some (.cells c0 t0 fz0)) (hc0 : c0.toList = [vn, vs])
    {l : List (ToldD × Value)} {s : LdG} (hI : LdI A r vs t0 fz0 l s) (hk : s.k = l.length) : RefTo A B O r (l.map (·.1)) S s.A := by
  obtain ⟨c1, hc1, hc2⟩ := hI.top
  have hlr : s.rs.length = s.k := by
    have := congrArg List.length hI.rs
    rw [List.length_map, List.length_map, List.length_take, hk, Nat.min_self] at this
    omega
  obtain ⟨A2, hA2e⟩ : ∃ A2 : Arena, A2 = Arena.of fun k => if k = r then A.blk r else s.A.blk k := ⟨_, rfl⟩
  have hr2 : A2.blk r = some (.cells c0 t0 fz0) := by
    rw [hA2e]
    show (if r = r then _ else _) = _
    rw [if_pos rfl, hb0]
  have ho2 : ∀ k, k ≠ r → A2.blk k = s.A.blk k := fun k hk => by
    rw [hA2e]
    show (if k = r then _ else _) = _
    rw [if_neg hk]
  have hA2 : A.Sub A2 := fun k o hko => by
    by_cases e : k = r
    · rw [e] at hko ⊢
      rw [hr2, ← hb0]; exact hko
    · rw [ho2 k e]; exact hI.old k o hko e
  have hG : GrowR A A2 12 49 s.rs.length s.v (s.rs.flatMap nodeC) := by
    rw [hlr]
    refine (grow_know (K' := A) hI.row fun k o h1 _ => (plus_none h1).1).keep fun k hkn => ?_
    exact ho2 k fun e => by rw [e, hb0] at hkn; cases hkn
  have hP : A2.Put s.A r 0 [s.v] := ⟨⟨c0, t0, fz0, c1, hr2, hc1, by rw [hc2, hc0]; rfl⟩, fun k hk => (ho2 k hk).symm⟩
  have hDB : ∀ j o, s.D.blk j = some o → B.blk j = none := fun j o hj => by
    cases hB : B.blk j with
    | none => rfl
    | some o' =>
      have := h.sub j o' hB
      rw [hI.dnew j o hj] at this; cases this
  obtain ⟨O', hR, hK⟩ := h.nodesG (B' := B.plus s.D) hA2 hG (fun k o hko => by
    rcases plus_cases hko with hk1 | ⟨_, hk1⟩
    · exact hA2 k o (h.sub k o hk1)
    · rw [ho2 k fun e => by
        have := hI.dnew k o hk1
        rw [e, hb0] at this; cases this]
      exact hI.dsub k o hk1) (fun k hkO => by
    rw [plus_blk, h.off k hkO]
    obtain ⟨o, ho⟩ := h.live k hkO
    cases hD : s.D.blk k with
    | none => rfl
    | some o' => rw [hI.dnew k o' hD] at ho; cases ho) (fun g hg hRow hpos => by
    have hBg : B.blk g = none := by
      cases hB : B.blk g with
      | none => rfl
      | some o' => have := h.sub g o' hB; rw [hg] at this; cases this
    rw [plus_blk, hBg]
    obtain ⟨_, ao, c, e1, _, _, _, h6⟩ := hRow
    obtain ⟨e2, _⟩ := h6 hpos
    obtain ⟨_, ⟨e3, _⟩ | ⟨g', nc, cc, e4, _, _, h7, _⟩⟩ := hI.row
    · omega
    · rw [e1, e2] at e4
      injection e4 with e4
      injection e4 with e4
      injection e4 with e4
      rw [e4]
      exact (plus_none h7).2) (fun x hx => (hI.sl x hx).sub (plus_r hDB)) hP
  have hrs : s.rs.map (·.1) = l.map (·.1) := by rw [hI.rs, hk, List.take_length]
  rw [hrs] at hR
  exact RefTo.of hR hK (plus_l _ _) fun k o hko => (plus_cases hko).imp id fun hh => hI.dnew k o hh.2

def rloadInv (A : Arena) (r : Nat) (vs : Value) (t0 : TypeId) (fz0 : Nat × Nat) (l : List (ToldD × Value)) : LInv :=
  { γ := LdG, G := LdI A r vs t0 fz0 l, keepS := [0, 1], keepB := [], sl := fun s => [(5, .v (.int .i64 s.k))], bl := fun _ => [], ar := fun s => s.A, mu := fun s => l.length - s.k }

def rloadS : FSpec := ⟨RG × List (ToldD × Value) × Arena, fun g vs A => ∃ x, vs = [.pointer (some ⟨g.1.r, 0, none⟩), x] ∧ RefAt A g.1.B g.1.O g.1.r g.1.N g.1.S ∧ NodesR g.2.2 x g.2.1 ∧ g.2.1.length ≤ 1000000 ∧ ShortL g.2.1 ∧ Aside A g.2.2 g.1.O,
  fun g _ A v A' => if LoadC (g.2.1.map (·.1)) then v = .int .i64 0 ∧ RefTo A g.1.B g.1.O g.1.r (g.2.1.map (·.1)) g.1.S A' else v = .int .i64 4 ∧ A.Sub A'⟩

set_option maxRecDepth 100000 in
set_option maxHeartbeats 0 in
theorem rload_ok : FOk Tryz.prog 11 rloadS := by
  refine fok_v mixed fun ⟨⟨N, S, B, O, r⟩, l, C⟩ vs A hp => ?_
  obtain ⟨x, rfl, hRef, hNR, hl1, hsh, hAs⟩ : ∃ x, vs = [.pointer (some ⟨r, 0, none⟩), x] ∧ RefAt A B O r N S ∧ NodesR C x l ∧ l.length ≤ 1000000 ∧ ShortL l ∧ Aside A C O := hp
  have hNA : NodesR A x l := ⟨hNR.1.sub hAs.1, fun y hy => (hNR.2 y hy).sub hAs.1⟩
  obtain ⟨⟨ao, c, rfl, hc, _, ha1, ha2, ha3⟩, hda⟩ := hNR
  have hCt : CTSound Tryz.prog (lookC [specE 31 rrowsS] noC) := lookC_sound (noC_sound _) (fun x hx => by
    simp only [List.mem_singleton] at hx
    subst hx; exact specE_ok rrows_ok)
  refine ⟨_, tabO Tryz.prog _ noL 60 [(11, 0)], 60, hCt, tabO_sound mixed hCt (noL_sound _) _ _, fun blk os out tape D hD => ?_⟩
  conv => lhs; whnf
  refine (hD _).2 ⟨l, ⟨_, rfl, hNA, hl1, hsh⟩, fun v A1 hq => ?_⟩
  have hq : A.Sub A1 ∧ v = .bool (decide (LoadC (l.map (·.1)))) := hq
  obtain ⟨s1, hv⟩ := hq
  by_cases hLC : LoadC (l.map (·.1))
  rotate_left
  · have hv : v = .bool false := by rw [hv, decide_eq_false hLC]
    subst hv
    have hend : rloadS.post (⟨N, S, B, O, r⟩, l, C) [] A (.int .i64 4) A1 := by
      show if LoadC (l.map (·.1)) then _ else _
      rw [if_neg hLC]
      exact ⟨rfl, s1⟩
    conv => lhs; whnf
    exact (hD _).2 hend
  have hv : v = .bool true := by rw [hv, decide_eq_true hLC]
  subst hv
  have hRef1 := hRef.more s1
  obtain ⟨l0, vn, vs', gn, gs, hl0, h⟩ := hRef1
  obtain ⟨c0, t0, fz0, hb0, hfz0, hc0⟩ := h.top
  have hroom0 : A1.Room r 0 1 := h.top.room (o := 0) (n := 1) (by show 0 + 1 ≤ 2; omega)
  conv => lhs; whnf
  refine (hD _).2 ⟨hroom0, fun A2 hP => ?_⟩
  have hP : A1.Put A2 r 0 [.slice none 0 0] := hP
  have hI0 : LdI A1 r vs' t0 fz0 l ⟨0, A2, Arena.void, .slice none 0 0, []⟩ := by
    obtain ⟨cx, tx, fx, cy, k1, k2, k3⟩ := hP.at_
    rw [hb0] at k1
    injection k1 with k1
    injection k1 with k1 k1' k1''
    subst k1; subst k1'; subst k1''
    exact ⟨Nat.zero_le _, fun k o hk hkr => by show A2.blk k = _; rw [hP.other k hkr]; exact hk, fun k hk => (hP.dom k).1 hk, ⟨cy, k2, by rw [k3, hc0]; rfl⟩, GrowR.nil _ _ _ _, fun k o hk => (by cases hk), fun k o hk => (by cases hk), rfl, fun x hx => (by cases hx)⟩
  conv => lhs; whnf
  refine (hD _).2 ⟨rloadInv A1 r vs' t0 fz0 l, ⟨(⟨0, A2, Arena.void, .slice none 0 0, []⟩ : LdG), hI0, ⟨rfl, trivial⟩, trivial, rfl⟩, fun (sg : LdG) hG => ⟨⟨trivial, trivial⟩, trivial, ?_⟩⟩
  obtain ⟨k, As, Ds, v0, rs⟩ := sg
  have hI : LdI A1 r vs' t0 fz0 l ⟨k, As, Ds, v0, rs⟩ := hG
  have hk : k ≤ l.length := hI.le
  conv => lhs; whnf
  refine split_dec (fun hlt => ?_) (fun hlt => ?_)
  rotate_left
  · have e : k = l.length := by
      have hlt : ¬ (k : Int) < (l.length : Int) := hlt
      omega
    have hend : rloadS.post (⟨N, S, B, O, r⟩, l, C) [] A (.int .i64 0) As := by
      show if LoadC (l.map (·.1)) then _ else _
      rw [if_pos hLC]
      refine ⟨rfl, ?_⟩
      obtain ⟨B', O', hR9, hS9⟩ := reload_end h hb0 hc0 hI e
      exact ⟨B', O', hR9, Step.trans (B1 := B) (O1 := O) ⟨(Kept.more (O := O) s1).keep, (Kept.more (O := O) s1).dom, (Kept.more (O := O) s1).own, Arena.Sub.refl _, fun _ _ h => .inl h⟩ hS9⟩
    conv => lhs; whnf
    exact (hD _).2 hend
  have hkl : k < l.length := by
    have hlt : (k : Int) < (l.length : Int) := hlt
    omega
  have hCs : C.Sub As := fun j o hj => hI.old j o (s1 j o (hAs.1 j o hj)) fun e => hAs.2 j o hj (e ▸ h.own.1)
  obtain ⟨g, o, rfl, hra⟩ := Sl.at_ hc ha1 ha2 ha3 (by omega)
  have r1 := row_at (enc := nodeC) (fun _ => rfl) hra k hkl rfl
  have i0 : (0 : Int) ≤ (k : Int) ∧ (k : Int) < (l.length : Int) := by omega
  obtain ⟨⟨⟨xp, xd, ⟨q1, q2, q3, q4, q5, q6, q7, q8, q9, q10⟩⟩, vd⟩, hx⟩ : ∃ y, y = l[k] := ⟨_, rfl⟩
  have hd : SlB As vd xd := (hda ((⟨xp, xd, ⟨q1, q2, q3, q4, q5, q6, q7, q8, q9, q10⟩⟩ : ToldD), vd) (by rw [hx]; exact List.getElem_mem _)).sub hCs
  rw [← hx] at r1
  obtain ⟨⟨a7, k7, rfl, hd7, hdl, hz1, hz2, hz3⟩, hdn⟩ := hd
  have r1 : As.rd g (o + k * 12) 12 = some [.string xp, .slice a7 xd.length k7, .int .i64 q1, .int .i64 q2, .int .i64 q3, .int .i64 q4, .int .i64 q5, .int .i64 q6, .int .i64 q7, .int .i64 q8, .int .i64 q9, .int .i64 q10] := rd_sub hCs r1
  obtain ⟨c1, hb1, hc1⟩ := hI.top
  have htopS : As.rd r 0 1 = some [v0] := by
    have h9 := rd_mk (o := 0) (n := 1) hb1 (by rw [← Array.length_toList, hc1]; show 0 + 1 ≤ 2; omega)
    rw [hc1] at h9
    exact h9
  have hcs : (a7 = none ∧ xd.length = 0) ∨ (∃ g7 o7 t7, a7 = some ⟨g7, o7, some t7⟩ ∧ xd.length = 0) ∨ ∃ g7 o7, a7 = some ⟨g7, o7, none⟩ := by
    cases a7 with
    | none => exact .inl ⟨rfl, by have := hz1 rfl; omega⟩
    | some a =>
      obtain ⟨g7, o7, sp⟩ := a
      cases sp with
      | none => exact .inr (.inr ⟨g7, o7, rfl⟩)
      | some t7 =>
        refine .inr (.inl ⟨g7, o7, t7, rfl, ?_⟩)
        rcases Nat.eq_zero_or_pos k7 with hh | hh
        · omega
        · have := hz2 _ rfl hh
          cases this
  refine Or.elim hcs (fun e => ?_) (fun e => Or.elim e (fun e => ?_) (fun e => ?_))
  obtain ⟨e, h0⟩ := e
  subst e
  have hsrc : ∀ A1, As.Sub A1 → (if xd.length = 0 then some [] else none) = some (xd.map bv) := fun A1 _ => by
    rw [if_pos h0, List.length_eq_zero_iff.1 h0]; rfl
  rotate_left
  obtain ⟨g7, o7, t7, e, h0⟩ := e
  subst e
  have hsrc : ∀ A1, As.Sub A1 → (if xd.length = 0 then some [] else none) = some (xd.map bv) := fun A1 _ => by
    rw [if_pos h0, List.length_eq_zero_iff.1 h0]; rfl
  rotate_left
  obtain ⟨g7, o7, e⟩ := e
  subst e
  have hsrc : ∀ A1, As.Sub A1 → (if xd.length = 0 then some [] else A1.rd g7 o7 (xd.length * 1)) = some (xd.map bv) := fun A1 hs => by
    by_cases h0 : xd.length = 0
    · rw [if_pos h0, List.length_eq_zero_iff.1 h0]; rfl
    · rw [if_neg h0]; exact rd_sub hs (hz3 (by omega) _ rfl)
  rotate_left
  all_goals
    conv => lhs; whnf
    repeat (first | refine go_D hD rfl ?_ | refine go_in i0 ?_ | refine go_rd r1 ?_
            conv => lhs; whnf)
    refine (hD _).2 fun gb A3 hNw => ?_
    have hNw : As.New A3 gb #[] 5 := hNw
    conv => lhs; whnf
    repeat (first | refine go_D hD rfl ?_ | refine go_in i0 ?_
            conv => lhs; whnf)
    refine (hD _).2 ⟨[], xd.map bv, rfl, hsrc A3 hNw.sub, hdl, fun v hv => (by
      obtain ⟨b, _, rfl⟩ := List.mem_map.1 hv
      rfl), by show 0 + xd.length ≤ 9223372036854775807; omega, fun h0 => (by
      rw [nextcap0 h0]
      show xd.length * 1 ≤ _
      omega), rfl, fun h => (by cases h), fun _ _ _ h1 h2 => absurd (by
      have : xd.length = 0 := by omega
      rw [List.length_eq_zero_iff.1 this]; rfl) h2, fun v A4 hA => ?_⟩
    obtain ⟨s4, hS4⟩ := clone_end hNw.sub hA hdl
    obtain ⟨ax, cx, hvx⟩ := hS4.form
    subst hvx
    have htop4 := rd_sub s4 htopS
    obtain ⟨xn, hxn⟩ : ∃ xn : ToldD × Value, xn = (⟨xp, xd, ⟨q1, q2, q3, q4, q5, q6, q7, q8, q9, q10⟩⟩, .slice ax xd.length cx) := ⟨_, rfl⟩
    obtain ⟨KD, hKD⟩ : ∃ KD : Arena, KD = A1.plus (Ds.plus (A4.minus As)) := ⟨_, rfl⟩
    have hrowK : GrowR KD As 12 49 k v0 (rs.flatMap nodeC) := grow_know hI.row fun j o1 h1 h2 => by
      obtain ⟨h3, h4⟩ := plus_none h1
      rw [hKD, plus_blk, h3, plus_blk, h4]
      exact minus_none _ h2
    obtain ⟨b5, c5, hv5, hb5, -⟩ := hrowK.formN
    subst hv5
    conv => lhs; whnf
    repeat (first | refine go_D hD rfl ?_ | refine go_rd htop4 ?_ | refine go_in i0 ?_
            conv => lhs; whnf)
    refine (hD _).2 fun gc A5 hN5 => ?_
    have hN5 : A4.New A5 gc (nodeC xn).toArray 49 := by rw [hxn]; exact hN5
    have s5 := s4.trans hN5.sub
    have hG5 := hrowK.sub s5
    have hd5 : ∀ j, A5.blk j = none → KD.blk j = none := fun j hj => by
      have h1 : As.blk j = none := by
        cases h : As.blk j with
        | none => rfl
        | some o' => rw [s5 j o' h] at hj; cases hj
      rw [hKD, plus_blk, hI.dom j h1, plus_blk]
      have h2 : Ds.blk j = none := by
        cases h : Ds.blk j with
        | none => rfl
        | some o' => rw [hI.dsub j o' h] at h1; cases h1
      rw [h2]
      cases h : (A4.minus As).blk j with
      | none => rfl
      | some o' => rw [hN5.sub j o' (minus_blk h).2] at hj; cases hj
    obtain ⟨hP5, hA5⟩ := hG5.formB
    have hP5 := hP5 1 120 (by omega) (by omega)
    have hrow5 : A5.rd gc 0 (1 * 12) = some (nodeC xn) := hN5.rd (o := 0) (n := 1 * 12) (by rw [List.size_toArray, hxn]; show 0 + 1 * 12 ≤ 12; omega)
    have htop5 := rd_sub hN5.sub htop4
    refine Or.elim hb5 (fun hb5 => ?_) (fun hb5 => ?_)
    rotate_left
    obtain ⟨g5, hb5⟩ := hb5
    all_goals
      subst hb5
      conv => lhs; whnf
      repeat (first | refine go_rd htop5 ?_ | refine go_D hD rfl ?_
              conv => lhs; whnf)
      refine (hD _).2 ⟨rs.flatMap nodeC, nodeC xn, hP5.rd, ?_, rfl, ?_, ?_, hP5.cap, rfl, hP5.none_, fun g' o' he' hle' _ => hP5.room 12 rfl g' o' he' hle', fun v A6 hAp => ?_⟩
      · show (if 1 * 12 = 0 then some [] else A5.rd gc 0 (1 * 12)) = _
        rw [if_neg (by omega)]; exact hrow5
      · intro v hv
        rw [hxn] at hv
        simp only [nodeC, StatD.cells, List.mem_cons, List.not_mem_nil, or_false] at hv
        rcases hv with rfl | rfl | rfl | rfl | rfl | rfl | rfl | rfl | rfl | rfl | rfl | rfl <;> rfl
      · show k + 1 ≤ 9223372036854775807
        omega
      obtain ⟨hG6, hk6⟩ := hA5 1 (nodeC xn) v A6 rfl hd5 hAp
      have hr6 : A6.blk r = some (.cells c1 t0 fz0) := by
        rw [hk6 r _ (by rw [hKD]; exact plus_some hb0)]
        exact s5 r _ hb1
      have hroom6 : A6.Room r 0 1 := ⟨c1, t0, fz0, hr6, by rw [← Array.length_toList, hc1]; show 0 + 1 ≤ 2; omega, by
        have e1 : c1.size = c0.size := by rw [← Array.length_toList, ← Array.length_toList, hc1, hc0]; rfl
        rw [e1]; exact hfz0⟩
      obtain ⟨b6, c6, hv6, -, -⟩ := hG6.formN
      subst hv6
      conv => lhs; whnf
      refine (hD _).2 ⟨hroom6, fun A7 hP7 => ?_⟩
      have hP7 : A6.Put A7 r 0 [.slice (addrA b6) (k + 1) c6] := hP7
      have hG6' : GrowR (A1.plus (Ds.plus (A4.minus As))) A6 12 49 (k + 1) (.slice (addrA b6) (k + 1) c6) ((rs ++ [xn]).flatMap nodeC) := by
        rw [← hKD, List.flatMap_append, List.flatMap_singleton]
        exact hG6
      have hI7 := hI.next (⟨_, hb0⟩ : ∃ o, A1.blk r = some o) hkl (A2 := A4) (A3 := A5) (A4 := A6) (A5 := A7) (x := xn) (by show xn.1 = l[k].1; rw [hxn, ← hx]) s4 (show SlB (A4.minus As) xn.2 xn.1.data from by rw [hxn]; exact ⟨hS4, hdn⟩) hN5.sub hG6' (fun j o1 hj => hk6 j o1 (by rw [hKD]; exact hj)) hP7
      conv => lhs; whnf
      exact (hD _).2 ⟨(⟨k + 1, A7, Ds.plus (A4.minus As), .slice (addrA b6) (k + 1) c6, rs ++ [xn]⟩ : LdG), ⟨hI7, ⟨inc_slot (k := k) (by omega), trivial⟩, trivial, rfl⟩, by show l.length - (k + 1) < l.length - k; omega, ⟨same1 rfl rfl, same1 rfl rfl, trivial⟩, trivial⟩

end
end Go.Proofs.YtbebacffaljckaaGreatDoor

namespace Go.Proofs.YtbebacffaljckaaGreatDoor
open Go.Sx Go.RowKit
noncomputable section
open Classical

theorem loadC_asc {l : List ToldD} (h : LoadC l) : Asc l := by
  unfold Asc
  rw [List.pairwise_iff_getElem]
  intro i j hi hj hij
  obtain ⟨d, rfl⟩ : ∃ d, j = i + 1 + d := ⟨j - i - 1, by omega⟩
  induction d with
  | zero =>
    have := (h.1 (i + 1) hj).2 (by omega)
    exact this
  | succ d ih =>
    have h1 := ih (by omega) (by omega)
    have h2 := (h.1 (i + 1 + (d + 1)) hj).2 (by omega)
    exact rl_trans h1 h2

theorem asc_nodup {l : List ToldD} (h : Asc l) : (l.map (·.path)).Nodup := (asc_paths.1 h).imp fun {a b} hab e => by
  rw [e, rl_irr] at hab; cases hab

theorem memN_load {l : List ToldD} (h : Asc l) : MemN l fun q => kGet q (loadN l) := fun x => by
  have hn := asc_nodup h
  dsimp only
  rw [loadN_get hn, kGet_some (by rw [List.map_map]; exact hn)]
  constructor
  · intro hx
    exact List.mem_map.2 ⟨x, hx, rfl⟩
  · intro hx
    obtain ⟨y, hy, e⟩ := List.mem_map.1 hx
    injection e with e1 e2
    injection e2 with e2 e3
    obtain ⟨yp, yd, ys⟩ := y
    obtain ⟨xp, xd, xs⟩ := x
    dsimp only at e1 e2 e3
    subst e1; subst e2; subst e3
    exact hy

theorem loadN_nd (l : List ToldD) : ((loadN l).map (·.1)).Nodup := by
  unfold loadN
  have h : ∀ (l : List ToldD) (m : List (ByteArray × NodeD)), (m.map (·.1)).Nodup → ((l.foldl (fun m x => kPut x.path ⟨x.data, x.stat⟩ m) m).map (·.1)).Nodup := fun l => by
    induction l with
    | nil => intro m hm; exact hm
    | cons x l ih => intro m hm; exact ih _ (kPut_nd _ _ hm)
  exact h l [] List.nodup_nil

theorem RT.load {T : TreeD} {N : List ToldD} {S : List SitD} (h : RT T N S) {l : List ToldD} (hl : LoadC l) : RT ⟨loadN l, T.seats⟩ l S := by
  have hA := loadC_asc hl
  have hM := memN_load hA
  refine ⟨⟨⟨loadN_nd l, h.ok.nd.2⟩, h.ok.ses, ?_⟩, hA, hM, h.ascS, h.memS⟩
  obtain ⟨x, hx, hp⟩ := hl.2
  have hm : x ∈ l := by
    cases l with
    | nil => cases hx
    | cons y l =>
      injection hx with hx
      rw [hx]; exact List.mem_cons_self
  have := (hM x).1 hm
  dsimp only at this
  rw [hp] at this
  show kGet rootS (loadN l) ≠ none
  rw [this]
  simp

theorem load_keys {l : List ToldD} (h : LoadC l) (seats : List (Int × SitD)) : KeysOk ⟨loadN l, seats⟩ := fun e he => by
  have hA := loadC_asc h
  have h1 := (kGet_some (loadN_nd l)).2 (show (e.1, e.2) ∈ loadN l from he)
  have h2 : (⟨e.1, e.2.data, e.2.stat⟩ : ToldD) ∈ l := (memN_load hA _).2 h1
  obtain ⟨i, hi, hx⟩ := List.getElem_of_mem h2
  have := (h.1 i hi).1.1
  rw [hx] at this
  exact this

/-! ### Sittings -/

def rseatOne (S : List SitD) (x : SitD) : List SitD := if x.ses < 1 then S else seatL S x
def rseatsL (l : List SitD) : List SitD := l.foldl rseatOne []

theorem rseatsL_snoc (l : List SitD) (x : SitD) : rseatsL (l ++ [x]) = rseatOne (rseatsL l) x := by
  unfold rseatsL; rw [List.foldl_append]; rfl

theorem rseatsL_len : ∀ l : List SitD, (rseatsL l).length ≤ l.length := fun l => by
  have h : ∀ (l S : List SitD), (l.foldl rseatOne S).length ≤ S.length + l.length := fun l => by
    induction l with
    | nil => intro S; simp
    | cons x l ih =>
      intro S
      have h1 := ih (rseatOne S x)
      have h2 : (rseatOne S x).length ≤ S.length + 1 := by
        unfold rseatOne
        split
        · omega
        · unfold seatL
          have := riseL_len S x.ses
          rw [List.length_append, List.length_cons, List.length_take, List.length_drop]
          omega
      rw [List.foldl_cons, List.length_cons]
      omega
  have h9 := h l []
  rw [List.length_nil, Nat.zero_add] at h9
  exact h9

theorem seats_all : ∀ (l : List SitD) (S : List SitD) (M : List (Int × SitD)), AscS S → MemS S (fun s => kGet s M) → (M.map (·.1)).Nodup → (∀ s x, kGet s M = some x → x.ses = s ∧ 1 ≤ s) →
    AscS (l.foldl rseatOne S) ∧ MemS (l.foldl rseatOne S) (fun s => kGet s (l.foldl seatOne M)) ∧ ((l.foldl seatOne M).map (·.1)).Nodup ∧ ∀ s x, kGet s (l.foldl seatOne M) = some x → x.ses = s ∧ 1 ≤ s
  | [], _, _, h1, h2, h3, h4 => ⟨h1, h2, h3, h4⟩
  | x :: l, S, M, h1, h2, h3, h4 => by
    rw [List.foldl_cons, List.foldl_cons]
    by_cases hx : x.ses < 1
    · have e1 : rseatOne S x = S := by unfold rseatOne; rw [if_pos hx]
      have e2 : seatOne M x = M := by unfold seatOne; rw [if_pos hx]
      rw [e1, e2]
      exact seats_all l S M h1 h2 h3 h4
    · have e1 : rseatOne S x = seatL S x := by unfold rseatOne; rw [if_neg hx]
      have e2 : seatOne M x = kPut x.ses x M := by unfold seatOne; rw [if_neg hx]
      rw [e1, e2]
      refine seats_all l _ _ (seat_asc h1 x) (fun y => ?_) (kPut_nd _ _ h3) fun s y hy => ?_
      · rw [memS_seat h2 x y]
        dsimp only
        rw [kGet_put]
      · rw [kGet_put] at hy
        by_cases e : s = x.ses
        · rw [if_pos e] at hy
          injection hy with hy
          rw [← hy, e]
          exact ⟨rfl, by omega⟩
        · rw [if_neg e] at hy
          exact h4 s y hy

theorem RT.seat {T : TreeD} {N : List ToldD} {S : List SitD} (h : RT T N S) (l : List SitD) : RT ⟨T.nodes, seatsOf l⟩ N (rseatsL l) := by
  obtain ⟨h1, h2, h3, h4⟩ := seats_all l [] [] List.Pairwise.nil (fun x => by simp [kGet]) List.nodup_nil fun s x hx => by cases hx
  exact ⟨⟨⟨h.ok.nd.1, h3⟩, h4, h.ok.root⟩, h.asc, h.mem, h1, h2⟩

theorem seatsOf_len (l : List SitD) : (seatsOf l).length ≤ l.length := by
  have h : ∀ (l : List SitD) (m : List (Int × SitD)), (l.foldl seatOne m).length ≤ m.length + l.length := fun l => by
    induction l with
    | nil => intro m; simp
    | cons x l ih =>
      intro m
      have h1 := ih (seatOne m x)
      have h2 : (seatOne m x).length ≤ m.length + 1 := by
        unfold seatOne
        split
        · omega
        · exact kPut_len _ _ _
      rw [List.foldl_cons, List.length_cons]
      omega
  have h9 := h l []
  rw [List.length_nil, Nat.zero_add] at h9
  exact h9

end
end Go.Proofs.YtbebacffaljckaaGreatDoor

namespace Go.Proofs.YtbebacffaljckaaGreatDoor
open Go.Sx Go.RowKit
noncomputable section
open Classical

structure RsG where
  k : Nat
  A : Arena
  O : Nat → Prop

def rseatInv (A B : Arena) (O : Nat → Prop) (r : Nat) (N : List ToldD) (l : List SitD) : LInv :=
  { γ := RsG, G := fun g => g.k ≤ l.length ∧ RefAt g.A B g.O r N (rseatsL (l.take g.k)) ∧ Kept A O g.A g.O,
    keepS := [0, 1], keepB := [], sl := fun g => [(4, .v (.int .i64 g.k))], bl := fun _ => [], ar := fun g => g.A, mu := fun g => l.length - g.k }

def rSeatS : FSpec := ⟨RG × List SitD × Arena, fun g vs A => ∃ x, vs = [.pointer (some ⟨g.1.r, 0, none⟩), x] ∧ RefAt A g.1.B g.1.O g.1.r g.1.N g.1.S ∧ SlS g.2.2 x g.2.1 ∧ g.2.1.length ≤ 900000 ∧ Aside A g.2.2 g.1.O,
  fun g _ A _ A' => ∃ O', RefAt A' g.1.B O' g.1.r g.1.N (rseatsL g.2.1) ∧ Kept A g.1.O A' O'⟩

set_option maxRecDepth 100000 in
set_option maxHeartbeats 0 in
theorem rSeat_ok : FOk Tryz.prog 14 rSeatS := by
  refine fok_v mixed fun ⟨⟨N, S, B, O, r⟩, l, C⟩ vs A hp => ?_
  obtain ⟨x, rfl, hRef, ⟨⟨ao, c, rfl, hc, _, ha1, ha2, ha3⟩, _⟩, hl, hAs⟩ : ∃ x, vs = [.pointer (some ⟨r, 0, none⟩), x] ∧ RefAt A B O r N S ∧ SlS C x l ∧ l.length ≤ 900000 ∧ Aside A C O := hp
  have hCt : CTSound Tryz.prog (lookC [specE 26 rseatS] noC) := lookC_sound (noC_sound _) (fun x hx => by
    simp only [List.mem_singleton] at hx
    subst hx; exact specE_ok rseat_ok)
  refine ⟨_, tabO Tryz.prog _ noL 60 [(14, 0)], 60, hCt, tabO_sound mixed hCt (noL_sound _) _ _, fun blk os out tape D hD => ?_⟩
  obtain ⟨l0, vn, vs', gn, gs, hl0, h⟩ := hRef
  conv => lhs; whnf
  refine (hD _).2 ⟨h.top.room (o := 1) (n := 1) (by show 1 + 1 ≤ 2; omega), fun A1 hP => ?_⟩
  have hP : A.Put A1 r 1 [.slice none 0 0] := hP
  obtain ⟨O1, hR1, hK1⟩ := h.seats (S' := []) (Arena.Sub.refl A) (GrowR.nil A A 3 59) hP
  rw [hl0] at hR1
  conv => lhs; whnf
  refine (hD _).2 ⟨rseatInv A B O r N l, ⟨(⟨0, A1, O1⟩ : RsG), ⟨Nat.zero_le _, by rw [List.take_zero]; exact hR1, hK1⟩, ⟨rfl, trivial⟩, trivial, rfl⟩, fun (sg : RsG) hG => ⟨⟨trivial, trivial⟩, trivial, ?_⟩⟩
  obtain ⟨k, Ak, Ok⟩ := sg
  obtain ⟨hk, hRk, hKk⟩ : k ≤ l.length ∧ RefAt Ak B Ok r N (rseatsL (l.take k)) ∧ Kept A O Ak Ok := hG
  have hCk : C.Sub Ak := fun j o hj => hKk.keep j o (hAs.1 j o hj) (hAs.2 j o hj)
  have hlen := rseatsL_len (l.take k)
  rw [List.length_take] at hlen
  conv => lhs; whnf
  refine split_dec (fun hlt => ?_) (fun hlt => ?_)
  rotate_left
  · have e : k = l.length := by
      have hlt : ¬ (k : Int) < (l.length : Int) := hlt
      omega
    rw [e, List.take_length] at hRk
    have hend : rSeatS.post (⟨N, S, B, O, r⟩, l, C) [] A (.tuple #[]) Ak := ⟨Ok, hRk, hKk⟩
    conv => lhs; whnf
    exact (hD _).2 hend
  have hkl : k < l.length := by
    have hlt : (k : Int) < (l.length : Int) := hlt
    omega
  obtain ⟨g, o, rfl, hra⟩ := Sl.at_ hc ha1 ha2 ha3 (by omega)
  have hrow := rd_sub hCk (row_at (enc := sitC) (fun _ => rfl) hra k hkl rfl)
  have i0 : (0 : Int) ≤ (k : Int) ∧ (k : Int) < (l.length : Int) := by omega
  have hsn : rseatsL (l.take (k + 1)) = rseatOne (rseatsL (l.take k)) l[k] := by
    rw [List.take_succ_eq_append_getElem hkl, rseatsL_snoc]
  obtain ⟨⟨q1, q2, q3⟩, hx⟩ : ∃ x, x = l[k] := ⟨_, rfl⟩
  rw [← hx] at hrow hsn
  have hrow : Ak.rd g (o + k * 3) 3 = some [.int .i64 q1, .int .i64 q2, .int .i64 q3] := hrow
  have r1 : Ak.rd g (o + k * 3) 1 = some [.int .i64 q1] := rd_at hrow (i := 0) (m := 1) (by omega)
  unfold rseatOne at hsn
  dsimp only at hsn
  conv => lhs; whnf
  repeat (first | refine go_in i0 ?_ | refine go_rd r1 ?_ | refine go_rd hrow ?_
          conv => lhs; whnf)
  refine split_dec (fun h1 => ?_) (fun h1 => ?_)
  rotate_left
  · rw [if_pos (by omega)] at hsn
    rw [← hsn] at hRk
    conv => lhs; whnf
    exact (hD _).2 ⟨(⟨k + 1, Ak, Ok⟩ : RsG), ⟨⟨by show k + 1 ≤ l.length; omega, hRk, hKk⟩, ⟨inc_slot (k := k) (by omega), trivial⟩, trivial, rfl⟩, by show l.length - (k + 1) < l.length - k; omega, ⟨same1 rfl rfl, same1 rfl rfl, trivial⟩, trivial⟩
  rw [if_neg (by omega)] at hsn
  conv => lhs; whnf
  repeat (first | refine go_in i0 ?_ | refine go_rd hrow ?_ | refine go_D hD rfl ?_
          conv => lhs; whnf)
  refine (hD _).2 ⟨(⟨N, rseatsL (l.take k), B, Ok, r⟩, ⟨q1, q2, q3⟩), ⟨rfl, hRk, by show (rseatsL (l.take k)).length ≤ 1000000; omega⟩, fun v A9 hq => ?_⟩
  have hq : ∃ O', RefAt A9 B O' r N (seatL (rseatsL (l.take k)) ⟨q1, q2, q3⟩) ∧ Kept Ak Ok A9 O' := hq
  obtain ⟨O9, hR9, hK9⟩ := hq
  rw [← hsn] at hR9
  conv => lhs; whnf
  exact (hD _).2 ⟨(⟨k + 1, A9, O9⟩ : RsG), ⟨⟨by show k + 1 ≤ l.length; omega, hR9, hKk.trans hK9⟩, ⟨inc_slot (k := k) (by omega), trivial⟩, trivial, rfl⟩, by show l.length - (k + 1) < l.length - k; omega, ⟨same1 rfl rfl, same1 rfl rfl, trivial⟩, trivial⟩

end
end Go.Proofs.YtbebacffaljckaaGreatDoor

namespace Go.Proofs.YtbebacffaljckaaGreatDoor
open Go.Sx Go.RowKit
noncomputable section
open Classical

structure SeG where
  k : Nat
  A : Arena

def seatInv (A2 B : Arena) (O : Nat → Prop) (t m s : Nat) (ns : List (ByteArray × NodeD)) (E : List (ByteArray × Nat × NodeD)) (l : List SitD) : LInv :=
  { γ := SeG, G := fun g => g.k ≤ l.length ∧ TreeR g.A B O t ⟨ns, seatsOf (l.take g.k)⟩ m s E ∧ ∀ b, b ≠ s → g.A.blk b = A2.blk b,
    keepS := [0, 13, 14], keepB := [], sl := fun g => [(15, .v (.int .i64 g.k))], bl := fun _ => [], ar := fun g => g.A, mu := fun g => l.length - g.k }

def seatS : FSpec := ⟨TG × List SitD × Arena, fun g vs A => ∃ x, vs = [.pointer (some ⟨g.1.t, 0, none⟩), x] ∧ TreeAt A g.1.B g.1.O g.1.t g.1.T ∧ SlS g.2.2 x g.2.1 ∧ Aside A g.2.2 g.1.O,
  fun g _ A v A' => v = .tuple #[] ∧ StepTo A g.1.B g.1.O g.1.t ⟨g.1.T.nodes, seatsOf g.2.1⟩ A'⟩

set_option maxRecDepth 100000 in
set_option maxHeartbeats 0 in
theorem seat_ok : FOk Tryz.prog 13 seatS := by
  refine fok_v mixed fun ⟨⟨T, B, O, t⟩, l, C⟩ vs A hp => ?_
  obtain ⟨x, rfl, ⟨m, s, E, h⟩, ⟨⟨ao, c, rfl, hc, _, ha1, ha2, ha3⟩, hll⟩, hAs⟩ : ∃ x, vs = [.pointer (some ⟨t, 0, none⟩), x] ∧ TreeAt A B O t T ∧ SlS C x l ∧ Aside A C O := hp
  refine ⟨noC, tabO Tryz.prog noC noL 60 [(13, 0)], 60, noC_sound _, tabO_sound mixed (noC_sound _) (noL_sound _) _ _, fun blk os out tape D hD => ?_⟩
  have htop0 : A.rd t 0 1 = some [.map (some m)] := h.top.rd (o := 0) (n := 1) (by show 0 + 1 ≤ 2; omega)
  conv => lhs; whnf
  repeat (first | refine go_rd htop0 ?_ | refine go_D hD rfl ?_
          conv => lhs; whnf)
  refine (hD _).2 fun s' A1 hs' hA1 hM1 => ?_
  have hs' : A.blk s' = none := hs'
  have hA1 : ∀ k, k ≠ s' → A1.blk k = A.blk k := hA1
  obtain ⟨ot, hot⟩ := h.live t h.own.1
  have ts : t ≠ s' := fun e => by rw [e, hs'] at hot; cases hot
  have htop1 : CellsAt A1 t [.map (some m), .map (some s)] := h.top.sub fun o ho => by rw [hA1 t ts]; exact ho
  conv => lhs; whnf
  refine (hD _).2 ⟨htop1.room (o := 1) (n := 1) (by show 1 + 1 ≤ 2; omega), fun A2 hP2 => ?_⟩
  have hP2 : A1.Put A2 t 1 [.map (some s')] := hP2
  have htop2 : CellsAt A2 t [.map (some m), .map (some s')] := htop1.put hP2 (by show 1 + 1 ≤ 2; omega)
  have hA2 : ∀ k, k ≠ t → A2.blk k = A1.blk k := hP2.other
  have live_ne : ∀ {k : Nat}, O k → k ≠ s' := fun {k} hk e => by
    obtain ⟨o, ho⟩ := h.live k hk
    rw [e, hs'] at ho; cases ho
  have hold : ∀ k, k ≠ t → k ≠ s' → A2.blk k = A.blk k := fun k h1 h2 => by rw [hA2 k h1, hA1 k h2]
  have hBs : B.blk s' = none := by
    cases hB : B.blk s' with
    | none => rfl
    | some o => have := h.sub _ _ hB; rw [hs'] at this; cases this
  have hR2 : TreeR A2 B (fun k => O k ∨ k = s') t ⟨T.nodes, seatsOf (l.take 0)⟩ m s' E :=
    { nodes := h.nodes
      top := htop2
      nmap := h.nmap.sub fun o ho => by rw [hold m (Ne.symm h.top_ne.1) (live_ne h.own.2.1)]; exact ho
      smap := hM1.sub fun o ho => by rw [hA2 s' (Ne.symm ts)]; exact ho
      cells := fun e he => (h.cells e he).mono (hold _ (h.ne.2 e he) (live_ne (h.own.2.2.2 e he))) (Arena.Sub.refl _)
      keys := h.keys
      ptrs := h.ptrs
      skeys := by simp [seatsOf]
      sub := fun k o hk => by
        rw [hold k (fun e => by subst e; rw [h.off _ h.own.1] at hk; cases hk) (fun e => by subst e; rw [hBs] at hk; cases hk)]
        exact h.sub k o hk
      own := ⟨.inl h.own.1, .inl h.own.2.1, .inr rfl, fun e he => .inl (h.own.2.2.2 e he)⟩
      off := fun k hk => by
        rcases hk with hk | rfl
        · exact h.off k hk
        · exact hBs
      live := fun k hk => by
        by_cases e : k = t
        · subst e; exact htop2.dom
        · rcases hk with hk | rfl
          · rw [hold k e (live_ne hk)]; exact h.live k hk
          · rw [hA2 _ e]
            obtain ⟨es, cl, h1, _⟩ := hM1
            exact ⟨_, h1⟩
      ne := ⟨live_ne h.own.2.1, h.ne.2⟩ }
  have hend : ∀ Ak, TreeR Ak B (fun k => O k ∨ k = s') t ⟨T.nodes, seatsOf l⟩ m s' E → (∀ b, b ≠ s' → Ak.blk b = A2.blk b) → seatS.post (⟨T, B, O, t⟩, l, C) [.pointer (some ⟨t, 0, none⟩), .slice ao l.length c] A (.tuple #[]) Ak := fun Ak hR hk => by
    refine ⟨rfl, B, _, ⟨m, s', E, hR⟩, fun k o hk' hO => ?_, fun k hn => ?_, fun k hO => ?_, Arena.Sub.refl _, fun k o hb => .inl hb⟩
    · have n1 : k ≠ t := fun e => hO (e ▸ h.own.1)
      have n2 : k ≠ s' := fun e => by rw [e, hs'] at hk'; cases hk'
      rw [hk k n2, hold k n1 n2]; exact hk'
    · by_cases n2 : k = s'
      · rw [n2]; exact hs'
      · rw [hk k n2] at hn
        by_cases n1 : k = t
        · subst n1
          obtain ⟨o, ho⟩ := htop2.dom
          rw [ho] at hn; cases hn
        · rw [hold k n1 n2] at hn; exact hn
    · rcases hO with hO | rfl
      · exact .inl hO
      · exact .inr hs'
  conv => lhs; whnf
  refine (hD _).2 ⟨seatInv A2 B (fun k => O k ∨ k = s') t m s' T.nodes E l, ⟨(⟨0, A2⟩ : SeG), ⟨Nat.zero_le _, hR2, fun _ _ => rfl⟩, ⟨rfl, trivial⟩, trivial, rfl⟩, fun (sg : SeG) hG => ⟨⟨trivial, trivial⟩, trivial, ?_⟩⟩
  obtain ⟨k, Ak⟩ := sg
  obtain ⟨hk, hR, hkeep⟩ : k ≤ l.length ∧ TreeR Ak B (fun k => O k ∨ k = s') t ⟨T.nodes, seatsOf (l.take k)⟩ m s' E ∧ ∀ b, b ≠ s' → Ak.blk b = A2.blk b := hG
  conv => lhs; whnf
  refine split_dec (fun hlt => ?_) (fun hlt => ?_) <;> (conv => lhs; whnf)
  · have hlt : k < l.length := by
      have hlt : (k : Int) < (l.length : Int) := hlt
      omega
    obtain ⟨g, o, rfl, hra⟩ := Sl.at_ hc ha1 ha2 ha3 (by omega)
    have hrow := row_at (enc := sitC) (fun _ => rfl) hra k hlt rfl
    have hCk : C.Sub Ak := fun b o hb => by
      have h1 := hAs.1 b o hb
      have n2 : b ≠ s' := fun e => by rw [e, hs'] at h1; cases h1
      rw [hkeep b n2, hold b (fun e => hAs.2 b o hb (e ▸ h.own.1)) n2]
      exact h1
    have hrow := rd_sub hCk hrow
    obtain ⟨⟨sa, sb, sc⟩, hsv⟩ : ∃ x, x = l[k] := ⟨_, rfl⟩
    rw [← hsv] at hrow
    have hrow : Ak.rd g (o + k * 3) 3 = some [.int .i64 sa, .int .i64 sb, .int .i64 sc] := hrow
    have htk : l.take (k + 1) = l.take k ++ [⟨sa, sb, sc⟩] := by rw [List.take_succ_eq_append_getElem hlt, ← hsv]
    conv => lhs; whnf
    refine split_in (fun _ _ => ?_) (fun h => by omega)
    conv => lhs; whnf
    refine go_rd hrow ?_
    conv => lhs; whnf
    have htopk : Ak.rd t 1 1 = some [.map (some s')] := hR.top.rd (o := 1) (n := 1) (by show 1 + 1 ≤ 2; omega)
    refine split_dec (fun h1 => ?_) (fun h1 => ?_) <;> (conv => lhs; whnf)
    · have hone : seatsOf (l.take (k + 1)) = kPut sa ⟨sa, sb, sc⟩ (seatsOf (l.take k)) := by
        rw [htk, seatsOf_snoc, seatOne, if_neg (by show ¬ sa < 1; omega)]
      repeat (first | refine go_rd htopk ?_ | refine go_D hD rfl ?_
              conv => lhs; whnf)
      refine (hD _).2 ⟨_, hR.smap, intL_alike sitV sa _, fun A3 hm3 ho3 => ?_⟩
      have hm3 : MapAt A3 s' (Go.Sx.putL (.int .i64 sa) (sitV ⟨sa, sb, sc⟩) (intL sitV (seatsOf (l.take k)))) := hm3
      have ho3 : ∀ b, b ≠ s' → A3.blk b = Ak.blk b := ho3
      rw [intL_put] at hm3
      have hR3 := hR.sit ho3 hm3 (kPut_nodup hR.skeys)
      conv => lhs; whnf
      exact (hD _).2 ⟨(⟨k + 1, A3⟩ : SeG), ⟨⟨by show k + 1 ≤ l.length; omega, by rw [hone]; exact hR3, fun b hb => (ho3 b hb).trans (hkeep b hb)⟩, ⟨inc_slot (k := k) (by omega), trivial⟩, trivial, rfl⟩, by show l.length - (k + 1) < l.length - k; omega, ⟨rfl, rfl, rfl, trivial⟩, trivial⟩
    · have hone : seatsOf (l.take (k + 1)) = seatsOf (l.take k) := by
        rw [htk, seatsOf_snoc, seatOne, if_pos (by show sa < 1; omega)]
      exact (hD _).2 ⟨(⟨k + 1, Ak⟩ : SeG), ⟨⟨by show k + 1 ≤ l.length; omega, by rw [hone]; exact hR, hkeep⟩, ⟨inc_slot (k := k) (by omega), trivial⟩, trivial, rfl⟩, by show l.length - (k + 1) < l.length - k; omega, ⟨rfl, rfl, rfl, trivial⟩, trivial⟩
  · have e : k = l.length := by
      have hlt : ¬ (k : Int) < (l.length : Int) := hlt
      omega
    subst e
    rw [List.take_length] at hR
    exact (hD _).2 (hend Ak hR hkeep)

end
end Go.Proofs.YtbebacffaljckaaGreatDoor

namespace Go.Proofs.YtbebacffaljckaaGreatDoor
open Go.Sx Go.RowKit
noncomputable section
open Classical

def createD (z : Int) (p : ByteArray) (owner cver : Int) : DeedD := .mk ⟨z, 1, 0, 0, 0, 7, p, [120], owner, 0, cver, 0, 0, 0, []⟩ []

def createS : FSpec := ⟨Int × ByteArray × Int × Int, fun g vs _ => vs = [.int .i64 g.1, .string g.2.1, .int .i64 g.2.2.1, .int .i64 g.2.2.2] ∧ g.2.1.data.toList.length ≤ 140737488351232,
  fun g _ A v A' => A.Sub A' ∧ ∃ cs, v = deedV cs ∧ DeedR (A'.minus A) (createD g.1 g.2.1 g.2.2.1 g.2.2.2) cs⟩

set_option maxRecDepth 100000 in
set_option maxHeartbeats 0 in
theorem create_ok : FOk Tryz.prog 8 createS := by
  refine fok_v mixed fun ⟨z, p, ow, cv⟩ vs A hp => ?_
  obtain ⟨rfl, hpl⟩ : vs = [.int .i64 z, .string p, .int .i64 ow, .int .i64 cv] ∧ p.data.toList.length ≤ 140737488351232 := hp
  refine ⟨noC, noL, 60, noC_sound _, noL_sound _, fun blk os out tape D hD => ?_⟩
  conv => lhs; whnf
  refine (hD _).2 fun g A1 hN => ?_
  have hN : A.New A1 g #[.int .u8 120] 5 := hN
  conv => lhs; whnf
  refine (hD _).2 ⟨_, _, hN.at_, fun A2 h1 h2 => ?_⟩
  have h1 : A2.blk g = some (.cells #[.int .u8 120] 5 (1, 2)) := h1
  have h2 : ∀ k, k ≠ g → A2.blk k = A1.blk k := h2
  have hs : A.Sub A2 := fun k o hk => by
    rw [h2 k fun e => by rw [e, hN.none_] at hk; cases hk]
    exact hN.sub k o hk
  have hd : SlB (A2.minus A) (.slice (some ⟨g, 0, none⟩) 1 1) [120] := ⟨Sl.row (Nat.le_refl 1) (rd_minus (rd_mk (o := 0) (n := 1 * 1) h1 (by show 0 + 1 * 1 ≤ 1; omega)) hN.none_), by simp⟩
  have hend : createS.post (z, p, ow, cv) [] A (deedV [.int .i64 z, .int .u8 1, .int .i64 0, .int .i64 0, .int .i64 0, .int .i64 7, .string p, .slice (some ⟨g, 0, none⟩) 1 1, .int .i64 ow, .int .i64 0, .int .i64 cv, .int .i64 0, .int .i64 0, .int .i64 0, .slice none 0 0, .slice none 0 0]) A2 := by
    refine ⟨hs, _, rfl, ?_⟩
    unfold createD
    rw [DeedR]
    exact ⟨_, _, _, [], rfl, hpl, hd, ⟨Sl.nil _ _, by simp⟩, Sl.nil _ _, by simp, by simp [DeedsR]⟩
  conv => lhs; whnf
  exact (hD _).2 hend

end
end Go.Proofs.YtbebacffaljckaaGreatDoor

namespace Go.Proofs.YtbebacffaljckaaGreatDoor
open Go.Sx Go.RowKit
noncomputable section
open Classical

/-- A closed run that gives true, where some blocks are known. -/
theorem fok_closedG {P : Program} (hm : P.follows .mixedOrders = true) {C : FuncId → Option CT} (hC : CTSound P C) {Λ : LTab} (hΛ : LTSound P Λ) {n : Nat} {f : FuncId} {gl : List (Nat × List Value)} {Q : Arena → Prop}
    (hQ : ∀ (A : Arena) (w : World), (∀ k o, A.blk k = some o → w.heap[k]? = some o) → Q A → ∀ g cs, (g, cs) ∈ gl → ∃ c t fz, w.heap[g]? = some (.cells c t fz) ∧ ∀ (i : Nat) v, cs[i]? = some v → c[i]? = some v)
    (hk : ∀ (w : World) (hg : ∀ g cs, (g, cs) ∈ gl → ∃ c t fz, w.heap[g]? = some (.cells c t fz) ∧ ∀ (i : Nat) v, cs[i]? = some v → c[i]? = some v), sxTop P C Λ n f [] ⟨.e, 0, memG w gl hg⟩ (fun r _ => isT r) = true) :
    FOk P f ⟨Unit, fun _ vs A => vs = [] ∧ Q A, fun _ _ A v A' => A' = A ∧ v = .bool true⟩ := by
  intro _ vs A w hA hvs
  obtain ⟨rfl, hq⟩ : vs = [] ∧ Q A := hvs
  have hg := hQ A w hA hq
  have R : HRel (fun _ => ⟨0, 0, 0⟩) ⟨.e, 0, memG w gl hg⟩ w := by
    refine ⟨rfl, rfl, rfl, fun k o hk => hk, fun b B hb => ?_, fun b b' B B' hb => ?_, fun b B hb => ?_, fun k o hk => (by cases hk), fun b B hb => ?_, fun k o hk => (by cases hk)⟩ <;> (rw [T.get_e] at hb; cases hb)
  refine (sxTop_sound hm hC hΛ n f [] _ _ (hk w hg) _ w R (fun x hx => by cases hx)).mono (fun v w' ⟨z, h', ρ', hz, hv, hl, R', _, _, hle⟩ => ?_) fun _ _ h => h
  have old : ∀ k o, w.heap[k]? = some o → w'.heap[k]? = some o := fun k o hk => R'.mem k o (hle.1 k o hk)
  refine ⟨A, ⟨rfl, ?_⟩, R'.os.trans hle.2.1, R'.out.trans hle.2.2.1, R'.tape.trans hle.2.2.2, fun k hk hlt => ?_, fun k o hk => old k o (hA k o hk), fun k o ho => .inl ⟨o, ho⟩⟩
  · rw [hv]
    cases z with
    | v x => cases x with
      | bool b => simp only [isT] at hz; subst hz; rfl
      | _ => simp [isT] at hz
    | _ => simp [isT] at hz
  · have h0 : w.heap[k]? = some w.heap[k] := Array.getElem?_eq_getElem hlt
    rw [old k _ h0, h0]

def hasG : List (Nat × List Value) := [((0 : Nat), [.int .i64 0, .int .i64 23, .int .i64 17, .int .i64 11, .int .i64 32, .int .i64 260, .int .i64 0, .int .i64 128, .int .i64 256, .int .i64 64])]

theorem hasG_of (A : Arena) (w : World) (hA : ∀ k o, A.blk k = some o → w.heap[k]? = some o) (h : HasA A) : ∀ g cs, (g, cs) ∈ hasG → ∃ c t fz, w.heap[g]? = some (.cells c t fz) ∧ ∀ (i : Nat) v, cs[i]? = some v → c[i]? = some v := fun g cs hm => by
  simp only [hasG, List.mem_singleton, Prod.mk.injEq] at hm
  obtain ⟨rfl, rfl⟩ := hm
  unfold HasA at h
  rw [A.rdeq] at h
  unfold rdOf at h
  split at h
  · rename_i c t fz hb
    split at h
    · injection h with h
      refine ⟨c, t, fz, hA _ _ hb, fun i v hv => ?_⟩
      have h2 : [Value.int .i64 0, .int .i64 23, .int .i64 17, .int .i64 11, .int .i64 32, .int .i64 260, .int .i64 0, .int .i64 128, .int .i64 256, .int .i64 64] = (c.toList.drop 0).take 10 := h.symm
      rw [h2, List.drop_zero, List.getElem?_take] at hv
      split at hv
      · rw [← Array.getElem?_toList]; exact hv
      · cases hv
    · cases h
  · cases h

set_option maxRecDepth 100000 in
theorem awake11_run (w : World) (hg : ∀ g cs, (g, cs) ∈ hasG → ∃ c t fz, w.heap[g]? = some (.cells c t fz) ∧ ∀ (i : Nat) v, cs[i]? = some v → c[i]? = some v) : sxTop Tryz.prog C0 noL 400 4 [] ⟨.e, 0, memG w hasG hg⟩ (fun r _ => isT r) = true := by kernel_rfl

def awake11S : FSpec := ⟨Unit, fun _ vs A => vs = [] ∧ HasA A, fun _ _ A v A' => A' = A ∧ v = .bool true⟩

theorem awake11_ok : FOk Tryz.prog 4 awake11S := fok_closedG mixed C0_sound (noL_sound _) hasG_of awake11_run

def greatS : FSpec := ⟨DeedD × Arena, fun g vs _ => ∃ cs, vs = [deedV cs] ∧ DeedR g.2 g.1 cs, fun g _ A v A' => A' = A ∧ v = .bool (decide ((60 : Int) < g.1.parts.length))⟩

set_option maxRecDepth 100000 in
set_option maxHeartbeats 0 in
theorem great_ok : FOk Tryz.prog 15 greatS := by
  refine fok_v mixed fun ⟨d, C⟩ vs A hp => ?_
  obtain ⟨cs, rfl, hR⟩ : ∃ cs, vs = [deedV cs] ∧ DeedR C d cs := hp
  obtain ⟨⟨zxid, kind, ses, turn, xid, dtime, path, data, owner, ver, cver, tmo, err, cfg, mem⟩, parts⟩ := d
  rw [DeedR] at hR
  dsimp only [DeedH.cells] at hR
  obtain ⟨vd, vm, vp, rws, rfl, -, hd1, hM, hSp, hlen2, hRows⟩ := hR
  obtain ⟨a7, k7, rfl⟩ := hd1.1.form
  obtain ⟨a14, k14, rfl⟩ := hM.1.form
  obtain ⟨a15, k15, rfl⟩ := hSp.form
  refine ⟨noC, noL, 60, noC_sound _, noL_sound _, fun blk os out tape D hD => ?_⟩
  conv => lhs; whnf
  exact (hD _).2 ⟨rfl, rfl⟩

end
end Go.Proofs.YtbebacffaljckaaGreatDoor

namespace Go.Proofs.YtbebacffaljckaaGreatDoor
open Go.Sx Go.RowKit
noncomputable section
open Classical

structure LoT where
  k : Nat
  A : Arena
  Ba : Arena
  Oa : Nat → Prop
  T : TreeD
  Bb : Arena
  Ob : Nat → Prop
  N : List ToldD
  S : List SitD

/-- A tree of the program's and the document's one stand side by side and tell the same. -/
structure SideI (A0 : Arena) (ta rb : Nat) (s : LoT) : Prop where
  a : TreeAt s.A s.Ba s.Oa ta s.T
  b : RefAt s.A s.Bb s.Ob rb s.N s.S
  ap : ApartR s.Ba s.Oa s.Bb s.Ob
  sa : Aside s.A A0 s.Oa
  sb : Aside s.A A0 s.Ob
  rt : RT s.T s.N s.S
  keys : KeysOk s.T
  na : s.T.nodes.length ≤ 200 + s.k * 61
  ea : s.T.seats.length ≤ 200 + s.k * 2

theorem SideI.more {A0 A A' Ba Bb : Arena} {ta rb k : Nat} {Oa Ob : Nat → Prop} {T : TreeD} {N : List ToldD} {S : List SitD} (h : SideI A0 ta rb ⟨k, A, Ba, Oa, T, Bb, Ob, N, S⟩) (hs : A.Sub A') : SideI A0 ta rb ⟨k, A', Ba, Oa, T, Bb, Ob, N, S⟩ :=
  ⟨TreeAt_sub h.a hs, h.b.more hs, h.ap, AsideR.sub h.sa hs, AsideR.sub h.sb hs, h.rt, h.keys, h.na, h.ea⟩

theorem aside_new {A A2 A3 : Arena} {O : Nat → Prop} (live : ∀ k, O k → ∃ o, A2.blk k = some o) (hA : Aside A2 A O) (s3 : A2.Sub A3) : Aside A3 (A.plus (A3.minus A2)) O :=
  ⟨fun j o hj => by
    rcases plus_cases hj with hj | ⟨_, hj⟩
    · exact s3 _ _ (hA.1 _ _ hj)
    · exact (minus_blk hj).2, fun k o hk hO => by
    rcases plus_cases hk with hk | ⟨_, hk⟩
    · exact hA.2 k o hk hO
    · obtain ⟨o', ho⟩ := live k hO
      rw [minus_none _ ho] at hk; cases hk⟩

theorem plus_new {A A2 A3 : Arena} (s : A.Sub A2) : (A3.minus A2).Sub (A.plus (A3.minus A2)) := plus_r fun k o hk => by
  cases hA : A.blk k with
  | none => rfl
  | some o' => rw [minus_none _ (s k o' hA)] at hk; cases hk

def loadsInv (A0 : Arena) (ta rb n : Nat) : LInv := { γ := LoT, G := fun s => s.k ≤ n ∧ SideI A0 ta rb s, keepS := [2, 7, 8], keepB := [], sl := fun s => [(9, .v (.int .i64 s.k))], bl := fun _ => [], ar := fun s => s.A, mu := fun s => n - s.k }

def loadsLS : FSpec := ⟨List (ToldD × Value) × List SitD × List DeedD, fun g vs A => ∃ v1 v2 v3, vs = [v1, v2, v3] ∧ NodesR A v1 g.1 ∧ ShortL g.1 ∧ SlS A v2 g.2.1 ∧ DeedsS A v3 g.2.2 ∧ HasA A, fun _ _ A v A' => A.Sub A' ∧ v = .bool true⟩

def pOld : ByteArray := ⟨#[47, 111, 108, 100]⟩

set_option maxRecDepth 100000 in
set_option maxHeartbeats 0 in
theorem loads_ok : FOk Tryz.prog 3 loadsLS := by
  refine fok_v mixed fun ⟨(ns : List (ToldD × Value)), (ss : List SitD), (ds : List DeedD)⟩ vs A hp => ?_
  obtain ⟨v1, v2, v3, rfl, hNR, hsh, hSS, ⟨rows, hS, hlen, hR⟩, hHas⟩ : ∃ v1 v2 v3, vs = [v1, v2, v3] ∧ NodesR A v1 ns ∧ ShortL ns ∧ SlS A v2 ss ∧ DeedsS A v3 ds ∧ HasA A := hp
  obtain ⟨a1, c1, rfl⟩ := hNR.1.form
  obtain ⟨a2, c2, rfl⟩ := hSS.1.form
  obtain ⟨ao, c, rfl, hc, hl, ha1, ha2, ha3⟩ := hS
  have hrow : ∀ k (hk : k < ds.length), ∃ g0 o, ao = some ⟨g0, o, none⟩ ∧ ∃ cs, A.rd g0 (o + k * 16) 16 = some cs ∧ DeedR A ds[k] cs := fun k hk => by
    obtain ⟨g0, o, e, hra⟩ := Sl.at_ hc ha1 ha2 ha3 (by omega)
    exact ⟨g0, o, e, deed_at hra hR k hk rfl⟩
  have hC : CTSound Tryz.prog (lookC [specE 4 awake11S, specE 5 newS, specE 7 applyS, specE 15 greatS, specE 6 rnewS, specE 9 rapplyRS, specE 8 createS, specE 10 loadS, specE 11 rloadS, specE 13 seatS, specE 14 rSeatS, specE 12 likeS] noC) := lookC_sound (noC_sound _) (fun x hx => by
    simp only [List.mem_cons, List.not_mem_nil, or_false] at hx
    rcases hx with rfl | rfl | rfl | rfl | rfl | rfl | rfl | rfl | rfl | rfl | rfl | rfl
    · exact specE_ok awake11_ok
    · exact specE_ok new_ok
    · exact specE_ok apply_ok
    · exact specE_ok great_ok
    · exact specE_ok rnew_ok
    · exact specE_ok rapplyR_ok
    · exact specE_ok create_ok
    · exact specE_ok loadC_ok
    · exact specE_ok rload_ok
    · exact specE_ok seat_ok
    · exact specE_ok rSeat_ok
    · exact specE_ok like_ok)
  refine ⟨_, tabO Tryz.prog _ noL 60 [(3, 0)], 60, hC, tabO_sound mixed hC (noL_sound _) _ _, fun blk os out tape D hD => ?_⟩
  have hawake : loadsLS.post (ns, ss, ds) [] A (.bool true) A := ⟨Arena.Sub.refl _, rfl⟩
  conv => lhs; whnf
  refine split_dec (fun h => ?_) (fun hn1 => ?_) <;> (conv => lhs; whnf)
  · refine (hD _).2 ⟨(), ⟨rfl, hHas⟩, fun v A9 hq => ?_⟩
    obtain ⟨h9, hv⟩ : A = A9 ∧ v = .bool true := ⟨hq.1.symm, hq.2⟩
    subst h9 hv
    conv => lhs; whnf
    exact (hD _).2 hawake
  refine split_dec (fun h => ?_) (fun hn2 => ?_) <;> (conv => lhs; whnf)
  · refine (hD _).2 ⟨(), ⟨rfl, hHas⟩, fun v A9 hq => ?_⟩
    obtain ⟨h9, hv⟩ : A = A9 ∧ v = .bool true := ⟨hq.1.symm, hq.2⟩
    subst h9 hv
    conv => lhs; whnf
    exact (hD _).2 hawake
  refine split_dec (fun h => ?_) (fun hn3 => ?_) <;> (conv => lhs; whnf)
  · refine (hD _).2 ⟨(), ⟨rfl, hHas⟩, fun v A9 hq => ?_⟩
    obtain ⟨h9, hv⟩ : A = A9 ∧ v = .bool true := ⟨hq.1.symm, hq.2⟩
    subst h9 hv
    conv => lhs; whnf
    exact (hD _).2 hawake
  have hnl : ns.length ≤ 60 := by
    have hn1 : ¬ (60 : Int) < (ns.length : Int) := hn1
    omega
  have hsl : ss.length ≤ 60 := by
    have hn2 : ¬ (60 : Int) < (ss.length : Int) := hn2
    omega
  have hdl : ds.length ≤ 60 := by
    have hn3 : ¬ (60 : Int) < (ds.length : Int) := hn3
    omega
  refine (hD _).2 ⟨(), rfl, fun v A1 hq => ?_⟩
  obtain ⟨ta, O1, rfl, hT1, s1, hO1⟩ : ∃ t O, v = .pointer (some ⟨t, 0, none⟩) ∧ TreeAt A1 Arena.void O t treeNew ∧ A.Sub A1 ∧ ∀ k, O k → A.blk k = none := hq
  conv => lhs; whnf
  refine (hD _).2 ⟨(), rfl, fun v A2 hq => ?_⟩
  obtain ⟨rb, O2, rfl, hT2, s2, hO2⟩ : ∃ r O, v = .pointer (some ⟨r, 0, none⟩) ∧ RefAt A2 Arena.void O r refNew [] ∧ A1.Sub A2 ∧ ∀ k, O k → A1.blk k = none := hq
  have live1 : ∀ k, O1 k → ∃ o, A1.blk k = some o := by
    obtain ⟨m, s', E, h⟩ := hT1
    exact h.live
  have live2 : ∀ k, O2 k → ∃ o, A2.blk k = some o := by
    obtain ⟨l0, vn, vs0, gn, gs, _, h⟩ := hT2
    exact h.live
  have hap0 : ApartR Arena.void O1 Arena.void O2 := by
    refine ⟨fun k h1 h2 => ?_, fun k o hb _ => (by cases hb), fun k o hb _ => (by cases hb)⟩
    obtain ⟨o, ho⟩ := live1 k h1
    rw [hO2 k h2] at ho; cases ho
  have hs12 := s1.trans s2
  have hsa2 : Aside A2 A O1 := ⟨hs12, fun k o hk hO => (by rw [hO1 k hO] at hk; cases hk)⟩
  have hsb2 : Aside A2 A O2 := ⟨hs12, fun k o hk hO => (by have := s1 _ _ hk; rw [hO2 k hO] at this; cases this)⟩
  conv => lhs; whnf
  refine (hD _).2 ⟨(3, pOld, 0, 1), ⟨rfl, by decide⟩, fun v A3 hq => ?_⟩
  have hq : A2.Sub A3 ∧ ∃ cs, v = deedV cs ∧ DeedR (A3.minus A2) (createD 3 pOld 0 1) cs := hq
  obtain ⟨s3, cs3, hv, hd3⟩ := hq
  obtain ⟨pa7, pl7, pk7, pa14, pl14, pk14, pa15, pl15, pk15, hcs3⟩ := hd3.form
  subst hcs3
  subst hv
  have live12 : ∀ k, O1 k → ∃ o, A2.blk k = some o := fun k hk => by
    obtain ⟨o, ho⟩ := live1 k hk
    exact ⟨o, s2 _ _ ho⟩
  have hC3 := aside_new live12 hsa2 s3
  have hd3 := DeedR.sub (plus_new (A3 := A3) hs12) _ _ hd3
  conv => lhs; whnf
  refine (hD _).2 ⟨(⟨treeNew, Arena.void, O1, ta⟩, createD 3 pOld 0 1, A.plus (A3.minus A2)), ⟨_, rfl, TreeAt_sub hT1 (s2.trans s3), hd3, hHas.sub (plus_l _ _), hC3⟩, fun v A4 hq => ?_⟩
  obtain ⟨Ba4, Oa4, hTa4, hSa⟩ : StepTo A3 Arena.void O1 ta (treeApply treeNew (createD 3 pOld 0 1)) A4 := hq
  obtain ⟨hTb4, hAp4⟩ := tree_step (hT2.more s3) hap0 hSa
  have hsa4 := (AsideR.sub hsa2 s3).step hSa
  have hsb4 : Aside A4 A O2 := ⟨hsa4.1, hsb2.2⟩
  conv => lhs; whnf
  refine (hD _).2 ⟨(3, pOld, 0, 1), ⟨rfl, by decide⟩, fun v A5 hq => ?_⟩
  have hq : A4.Sub A5 ∧ ∃ cs, v = deedV cs ∧ DeedR (A5.minus A4) (createD 3 pOld 0 1) cs := hq
  obtain ⟨s5, cs5, hv, hd5⟩ := hq
  obtain ⟨ua7, ul7, uk7, ua14, ul14, uk14, ua15, ul15, uk15, hcs5⟩ := hd5.form
  subst hcs5
  subst hv
  have live4 : ∀ k, O2 k → ∃ o, A4.blk k = some o := by
    obtain ⟨l0, vn, vs0, gn, gs, _, h⟩ := hTb4
    exact h.live
  have hC5 := aside_new live4 hsb4 s5
  have hd5 := DeedR.sub (plus_new (A3 := A5) hsa4.1) _ _ hd5
  conv => lhs; whnf
  refine (hD _).2 ⟨(⟨refNew, [], Arena.void, O2, rb⟩, createD 3 pOld 0 1, A.plus (A5.minus A4)), ⟨_, rfl, hTb4.more s5, by show (1 : Nat) ≤ 800000; omega, by show (0 : Nat) ≤ 800000; omega, hd5, hC5⟩, fun v A6 hq => ?_⟩
  obtain ⟨Bb6, Ob6, hTb6, hSb⟩ : RefTo A5 Arena.void O2 rb (rapplyN refNew (createD 3 pOld 0 1)) (rapplyS [] (createD 3 pOld 0 1)) A6 := hq
  obtain ⟨hTa6, hAp6⟩ := ref_step (TreeAt_sub hTa4 s5) hAp4.symm hSb
  have hsb6 := (AsideR.sub hsb4 s5).step hSb
  have hsa6 : Aside A6 A Oa4 := ⟨hsb6.1, hsa4.2⟩
  have hAp6 := hAp6.symm
  have hrt6 := rt_new.apply (createD 3 pOld 0 1)
  have hky6 := apply_keys keys_new (createD 3 pOld 0 1)
  have l6 := apply_len treeNew (createD 3 pOld 0 1)
  have e6 := apply_slen treeNew (createD 3 pOld 0 1)
  have hl60 : treeNew.nodes.length = 1 ∧ treeNew.seats.length = 0 ∧ (createD 3 pOld 0 1).parts.length = 0 := ⟨rfl, rfl, rfl⟩
  have hrt6 : RT (treeApply treeNew (createD 3 pOld 0 1)) (rapplyN refNew (createD 3 pOld 0 1)) (rapplyS [] (createD 3 pOld 0 1)) := hrt6
  generalize treeApply treeNew (createD 3 pOld 0 1) = T0 at *
  generalize rapplyN refNew (createD 3 pOld 0 1) = N0 at *
  generalize rapplyS [] (createD 3 pOld 0 1) = S0 at *
  obtain ⟨LC, hLC⟩ : ∃ LC : Prop, LC = LoadC (ns.map (·.1)) := ⟨_, rfl⟩
  obtain ⟨z, hz⟩ : ∃ z : Int, z = if LC then 0 else 4 := ⟨_, rfl⟩
  obtain ⟨T1, hT1d⟩ : ∃ T1 : TreeD, T1 = if LC then ⟨loadN (ns.map (·.1)), T0.seats⟩ else T0 := ⟨_, rfl⟩
  obtain ⟨N1, hN1d⟩ : ∃ N1 : List ToldD, N1 = if LC then ns.map (·.1) else N0 := ⟨_, rfl⟩
  have hrt1 : RT T1 N1 S0 := by
    by_cases h : LC
    · rw [hT1d, hN1d, if_pos h, if_pos h]
      exact hrt6.load (hLC ▸ h)
    · rw [hT1d, hN1d, if_neg h, if_neg h]
      exact hrt6
  have hky1 : KeysOk T1 := by
    by_cases h : LC
    · rw [hT1d, if_pos h]
      exact load_keys (hLC ▸ h) _
    · rw [hT1d, if_neg h]
      exact hky6
  have hS1l : T1.seats = T0.seats := by
    rw [hT1d]
    split <;> rfl
  have hN1l : T1.nodes.length ≤ 60 := by
    rw [← rt_len hrt1, hN1d]
    split
    · rw [List.length_map]; exact hnl
    · rw [rt_len hrt6]; omega
  conv => lhs; whnf
  refine (hD _).2 ⟨(⟨T0, Ba4, Oa4, ta⟩, ns, A), ⟨_, rfl, hTa6, hNR, by show ns.length ≤ 1000000; omega, hsa6⟩, fun v A7 hq => ?_⟩
  have hq : if LoadC (ns.map (·.1)) then v = .int .i64 0 ∧ StepTo A6 Ba4 Oa4 ta ⟨loadN (ns.map (·.1)), T0.seats⟩ A7 else v = .int .i64 4 ∧ A7 = A6 := hq
  rw [← hLC] at hq
  have hq : v = .int .i64 z ∧ StepTo A6 Ba4 Oa4 ta T1 A7 := by
    by_cases h : LC
    · rw [if_pos h] at hq hz hT1d
      rw [hz, hT1d]
      exact hq
    · rw [if_neg h] at hq hz hT1d
      rw [hz, hT1d, hq.2]
      exact ⟨hq.1, Ba4, Oa4, hTa6, Step.refl _ _ _⟩
  obtain ⟨hv, Ba7, Oa7, hTa7, hSa7⟩ := hq
  subst hv
  obtain ⟨hTb7, hAp7⟩ := tree_step hTb6 hAp6 hSa7
  have hsa7 := hsa6.step hSa7
  have hsb7 : Aside A7 A Ob6 := ⟨hsa7.1, hsb6.2⟩
  conv => lhs; whnf
  refine (hD _).2 ⟨(⟨N0, S0, Bb6, Ob6, rb⟩, ns, A), ⟨_, rfl, hTb7, hNR, by show ns.length ≤ 1000000; omega, hsh, hsb7⟩, fun v A8 hq => ?_⟩
  have hq : if LoadC (ns.map (·.1)) then v = .int .i64 0 ∧ RefTo A7 Bb6 Ob6 rb (ns.map (·.1)) S0 A8 else v = .int .i64 4 ∧ A7.Sub A8 := hq
  rw [← hLC] at hq
  have hq : v = .int .i64 z ∧ RefTo A7 Bb6 Ob6 rb N1 S0 A8 := by
    by_cases h : LC
    · rw [if_pos h] at hq hz hN1d
      rw [hz, hN1d]
      exact hq
    · rw [if_neg h] at hq hz hN1d
      rw [hz, hN1d]
      exact ⟨hq.1, RefTo.of (hTb7.more hq.2) (Kept.more hq.2) (Arena.Sub.refl _) fun k o hk => .inl hk⟩
  obtain ⟨hv, Bb8, Ob8, hTb8, hSb8⟩ := hq
  subst hv
  obtain ⟨hTa8, hAp8⟩ := ref_step hTa7 hAp7.symm hSb8
  have hsb8 := hsb7.step hSb8
  have hsa8 : Aside A8 A Oa7 := ⟨hsb8.1, hsa7.2⟩
  have hAp8 := hAp8.symm
  have hsh1 := rt_short hrt1 hky1
  conv => lhs; whnf
  refine split_nd (fun _ => ?_) (fun h => absurd rfl h)
  conv => lhs; whnf
  refine (hD _).2 ⟨(⟨T1, Ba7, Oa7, ta⟩, ⟨N1, S0, Bb8, Ob8, rb⟩), ⟨rfl, hTa8, hTb8, hrt1, by show T1.nodes.length ≤ 1000000; omega, by show T1.seats.length ≤ 1000000; rw [hS1l]; omega, hsh1⟩, fun v A9 hq => ?_⟩
  have hq : A8.Sub A9 ∧ v = .bool true := hq
  obtain ⟨s9, hv⟩ := hq
  subst hv
  have hsa9 := AsideR.sub hsa8 s9
  have hsb9 := AsideR.sub hsb8 s9
  conv => lhs; whnf
  refine (hD _).2 ⟨(⟨T1, Ba7, Oa7, ta⟩, ss, A), ⟨_, rfl, TreeAt_sub hTa8 s9, hSS, hsa9⟩, fun v A10 hq => ?_⟩
  have hq : v = .tuple #[] ∧ StepTo A9 Ba7 Oa7 ta ⟨T1.nodes, seatsOf ss⟩ A10 := hq
  obtain ⟨hv, Ba10, Oa10, hTa10, hSa10⟩ := hq
  subst hv
  obtain ⟨hTb10, hAp10⟩ := tree_step (hTb8.more s9) hAp8 hSa10
  have hsa10 := hsa9.step hSa10
  have hsb10 : Aside A10 A Ob8 := ⟨hsa10.1, hsb9.2⟩
  conv => lhs; whnf
  refine (hD _).2 ⟨(⟨N1, S0, Bb8, Ob8, rb⟩, ss, A), ⟨_, rfl, hTb10, hSS, by show ss.length ≤ 900000; omega, hsb10⟩, fun v A11 hq => ?_⟩
  have hq : ∃ O', RefAt A11 Bb8 O' rb N1 (rseatsL ss) ∧ Kept A10 Ob8 A11 O' := hq
  obtain ⟨Ob11, hTb11, hK11⟩ := hq
  have hSb11 : Step A10 Bb8 Ob8 A11 Bb8 Ob11 := ⟨hK11.keep, hK11.dom, hK11.own, Arena.Sub.refl _, fun _ _ h => .inl h⟩
  obtain ⟨hTa11, hAp11⟩ := ref_step hTa10 hAp10.symm hSb11
  have hsb11 := hsb10.step hSb11
  have hsa11 : Aside A11 A Oa10 := ⟨hsb11.1, hsa10.2⟩
  have hAp11 := hAp11.symm
  have hrt11 := hrt1.seat ss
  have hky11 : KeysOk ⟨T1.nodes, seatsOf ss⟩ := hky1
  have hsol := seatsOf_len ss
  conv => lhs; whnf
  refine (hD _).2 ⟨(⟨⟨T1.nodes, seatsOf ss⟩, Ba10, Oa10, ta⟩, ⟨N1, rseatsL ss, Bb8, Ob11, rb⟩), ⟨rfl, hTa11, hTb11, hrt11, by show T1.nodes.length ≤ 1000000; omega, by show (seatsOf ss).length ≤ 1000000; omega, hsh1⟩, fun v A12 hq => ?_⟩
  have hq : A11.Sub A12 ∧ v = .bool true := hq
  obtain ⟨s12, hv⟩ := hq
  subst hv
  have hI0 : SideI A ta rb ⟨0, A12, Ba10, Oa10, ⟨T1.nodes, seatsOf ss⟩, Bb8, Ob11, N1, rseatsL ss⟩ :=
    ⟨TreeAt_sub hTa11 s12, hTb11.more s12, hAp11, AsideR.sub hsa11 s12, AsideR.sub hsb11 s12, hrt11, hky11, by show T1.nodes.length ≤ 200 + 0 * 61; omega, by show (seatsOf ss).length ≤ 200 + 0 * 2; omega⟩
  clear hTa11 hTb11 hTa10 hTb10 hTa8 hTb8 hTa7 hTb7 hTa6 hTb6 hTa4 hTb4 hT1 hT2 hd3 hd5 hq
  conv => lhs; whnf
  refine (hD _).2 ⟨loadsInv A ta rb ds.length, ⟨(⟨0, A12, Ba10, Oa10, ⟨T1.nodes, seatsOf ss⟩, Bb8, Ob11, N1, rseatsL ss⟩ : LoT), ⟨Nat.zero_le _, hI0⟩, ⟨rfl, trivial⟩, trivial, rfl⟩, fun (s : LoT) hG => ⟨⟨trivial, trivial⟩, trivial, ?_⟩⟩
  obtain ⟨k, Ak, Ba, Oa, T, Bb, Ob, N, S⟩ := s
  obtain ⟨hk, hI⟩ : k ≤ ds.length ∧ SideI A ta rb ⟨k, Ak, Ba, Oa, T, Bb, Ob, N, S⟩ := hG
  obtain ⟨hTa, hTb, hAp, hsa, hsb, hrt, hky, hna, hea⟩ := hI
  dsimp only at hTa hTb hAp hsa hsb hrt hky hna hea
  conv => lhs; whnf
  refine split_dec (fun hlt => ?_) (fun hlt => ?_)
  · have hin : (k : Int) < (ds.length : Int) := hlt
    have hkn : k < ds.length := by omega
    obtain ⟨g1, o1, e1, cs, r1, hR1⟩ := hrow k hkn
    cases e1
    have i0 : (0 : Int) ≤ (k : Int) := by omega
    conv => lhs; whnf
    refine go_in ⟨i0, hin⟩ ?_
    conv => lhs; whnf
    obtain ⟨d, hd⟩ : ∃ d, d = ds[k] := ⟨_, rfl⟩
    rw [← hd] at hR1
    obtain ⟨⟨zxid, kind, ses, turn, xid, dtime, path, data, owner, ver, cver, tmo, err, cfg, mem⟩, parts⟩ := d
    have hR0 := hR1
    rw [DeedR] at hR1
    dsimp only [DeedH.cells] at hR1
    obtain ⟨vd, vm, vp, rws, rfl, -, hd1, hM, hSp, hlen2, hRows⟩ := hR1
    obtain ⟨a7, k7, rfl⟩ := hd1.1.form
    obtain ⟨a14, k14, rfl⟩ := hM.1.form
    obtain ⟨a15, k15, rfl⟩ := hSp.form
    refine go_rd (rd_sub hsa.1 r1) ?_
    conv => lhs; whnf
    refine (hD _).2 ⟨(.mk ⟨zxid, kind, ses, turn, xid, dtime, path, data, owner, ver, cver, tmo, err, cfg, mem⟩ parts, A), ⟨_, rfl, hR0⟩, fun v A9 hq => ?_⟩
    obtain ⟨h9, rfl⟩ : Ak = A9 ∧ v = .bool (decide ((60 : Int) < parts.length)) := ⟨hq.1.symm, hq.2⟩
    subst h9
    conv => lhs; whnf
    refine split_dec (fun hw => ?_) (fun hw => ?_) <;> (conv => lhs; whnf)
    · refine (hD _).2 ⟨(), ⟨rfl, hHas.sub hsa.1⟩, fun v A9 hq => ?_⟩
      obtain ⟨h9, hv⟩ : Ak = A9 ∧ v = .bool true := ⟨hq.1.symm, hq.2⟩
      subst h9 hv
      conv => lhs; whnf
      exact (hD _).2 ⟨hsa.1, rfl⟩
    have hwp : parts.length ≤ 60 := by
      have hw : ¬ (60 : Int) < (parts.length : Int) := hw
      omega
    obtain ⟨dd, hdd⟩ : ∃ dd : DeedD, dd = (.mk ⟨zxid, kind, ses, turn, xid, dtime, path, data, owner, ver, cver, tmo, err, cfg, mem⟩ parts : DeedD) := ⟨_, rfl⟩
    have hddp : dd.parts.length ≤ 60 := by rw [hdd]; exact hwp
    rw [← hdd] at hR0
    have l1 := apply_len T dd
    have l4 := apply_slen T dd
    have hNl := rt_len hrt
    have hSl := rt_slen hrt
    have hrt' := hrt.apply dd
    have hky' := apply_keys hky dd
    repeat (first | refine go_in ⟨i0, hin⟩ ?_ | refine go_rd (rd_sub hsa.1 r1) ?_
            conv => lhs; whnf)
    refine (hD _).2 ⟨(⟨T, Ba, Oa, ta⟩, dd, A), ⟨_, rfl, hTa, hR0, hHas, hsa⟩, fun v A4 hq => ?_⟩
    obtain ⟨Ba4, Oa4, hTa4, hSa⟩ : StepTo Ak Ba Oa ta (treeApply T dd) A4 := hq
    obtain ⟨hTb4, hAp4⟩ := tree_step hTb hAp hSa
    have hsa4 := hsa.step hSa
    have hsb4 : Aside A4 A Ob := ⟨hsa4.1, hsb.2⟩
    conv => lhs; whnf
    repeat (first | refine go_in ⟨i0, hin⟩ ?_ | refine go_rd (rd_sub hsa4.1 r1) ?_
            conv => lhs; whnf)
    refine (hD _).2 ⟨(⟨N, S, Bb, Ob, rb⟩, dd, A), ⟨_, rfl, hTb4, by show N.length ≤ 800000; omega, by show S.length ≤ 800000; omega, hR0, hsb4⟩, fun v A5 hq => ?_⟩
    obtain ⟨Bb5, Ob5, hTb5, hSb⟩ : RefTo A4 Bb Ob rb (rapplyN N dd) (rapplyS S dd) A5 := hq
    obtain ⟨hTa5, hAp5⟩ := ref_step hTa4 hAp4.symm hSb
    have hsb5 := hsb4.step hSb
    have hsa5 : Aside A5 A Oa4 := ⟨hsb5.1, hsa4.2⟩
    have hI5 : SideI A ta rb ⟨k + 1, A5, Ba4, Oa4, treeApply T dd, Bb5, Ob5, rapplyN N dd, rapplyS S dd⟩ :=
      ⟨hTa5, hTb5, hAp5.symm, hsa5, hsb5, hrt', hky', by show (treeApply T dd).nodes.length ≤ 200 + (k + 1) * 61; omega, by show (treeApply T dd).seats.length ≤ 200 + (k + 1) * 2; omega⟩
    conv => lhs; whnf
    exact (hD _).2 ⟨(⟨k + 1, A5, Ba4, Oa4, treeApply T dd, Bb5, Ob5, rapplyN N dd, rapplyS S dd⟩ : LoT), ⟨⟨by show k + 1 ≤ ds.length; omega, hI5⟩, ⟨inc_slot (k := k) (by omega), trivial⟩, trivial, rfl⟩, by show ds.length - (k + 1) < ds.length - k; omega, ⟨same1 rfl rfl, same1 rfl rfl, same1 rfl rfl, trivial⟩, trivial⟩
  · have hsh' := rt_short hrt hky
    conv => lhs; whnf
    refine (hD _).2 ⟨(⟨T, Ba, Oa, ta⟩, ⟨N, S, Bb, Ob, rb⟩), ⟨rfl, hTa, hTb, hrt, by show T.nodes.length ≤ 1000000; omega, by show T.seats.length ≤ 1000000; omega, hsh'⟩, fun v A5 hq => ?_⟩
    have hq : Ak.Sub A5 ∧ v = .bool true := hq
    obtain ⟨s5, hv⟩ := hq
    subst hv
    have hAA5 := hsa.1.trans s5
    conv => lhs; whnf
    refine (hD _).2 ⟨(), ⟨rfl, hHas.sub hAA5⟩, fun v A9 hq => ?_⟩
    obtain ⟨h9, hv⟩ : A5 = A9 ∧ v = .bool true := ⟨hq.1.symm, hq.2⟩
    subst h9 hv
    conv => lhs; whnf
    exact (hD _).2 ⟨hAA5, rfl⟩

end
end Go.Proofs.YtbebacffaljckaaGreatDoor
