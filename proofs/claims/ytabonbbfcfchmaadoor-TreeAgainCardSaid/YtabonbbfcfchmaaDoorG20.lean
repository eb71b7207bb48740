/-
  The law TreeAgain, walked.
-/
import Derived.Test.YtabonbbfcfchmaaDoorG15
import Derived.Test.YtabonbbfcfchmaaDoorG16
import Derived.Test.YtabonbbfcfchmaaDoorG18
import Derived.Test.YtabonbbfcfchmaaDoorG19
namespace Go.Proofs.YtabonbbfcfchmaaDoor
open Go.Sx Go.RowKit
noncomputable section
open Classical

/-- A row of numbers. -/
def SlI (A : Arena) (v : Value) (l : List Int) : Prop := Sl A 1 l.length v (l.map fun x => .int .i64 x) ∧ l.length ≤ 140737488351232

/-- A row of deeds that was made, cut off. -/
theorem grow_take {A A1 A2 : Arena} {c k lo : Nat} {base : Option (Nat × Nat)} {ns : List DeedD} {rows : List (List Value)} (h : GrowR A A1 16 53 ns.length (.slice (addrA base) ns.length c) rows.flatten) (hR : DeedsR A ns rows) (hk : k ≤ ns.length) (h60 : ns.length ≤ 60) (hs1 : A.Sub A1) (hs : A1.Sub A2) {ao : Option Addr} (hao : (∃ g, base = some (g, 0) ∧ ao = some ⟨g, 0, none⟩) ∨ (base = none ∧ ao = none ∧ ns.length = 0 ∧ c = 0)) (hc : c - 0 = lo) : DeedsS A2 (.slice ao k lo) (ns.take k) := by
  have hcap := h.cap_le
  rcases hao with ⟨g, rfl, rfl⟩ | ⟨rfl, rfl, hz, hz2⟩
  · have hR1 := DeedsR.sub (hs1.trans hs) _ _ hR
    by_cases h0 : ns.length = 0
    · obtain rfl := List.length_eq_zero_iff.1 h0
      obtain rfl : k = 0 := by simpa using hk
      exact ⟨[], Sl.zero _ _ (fun h => (by cases h)) (fun a ha _ => (by injection ha with ha; subst ha; rfl)), by simp, rfl⟩
    · have hrd := (h.formB.1 1 184 (by omega) (by omega)).rd
      have hrd : (if ns.length * 16 = 0 then some [] else A1.rd g 0 (ns.length * 16)) = some rows.flatten := hrd
      rw [if_neg (by omega)] at hrd
      exact deeds_take (rd_sub hs hrd) hR1 rfl hk (by omega) (by omega)
  · obtain rfl := List.length_eq_zero_iff.1 hz
    obtain rfl : k = 0 := by simpa using hk
    exact ⟨[], Sl.zero _ _ (fun _ => (by omega)) (fun a ha => (by cases ha)), by simp, rfl⟩

/-- What was known, and what is new. -/
theorem know_step {K Ak A5 : Arena} (h : K.Sub Ak) (s : Ak.Sub A5) : ∃ K' : Arena, K.Sub K' ∧ (A5.minus Ak).Sub K' ∧ K'.Sub A5 ∧ ∀ {es : Nat} {e : TypeId} {n : Nat} {v : Value} {cs : List Value}, GrowR K Ak es e n v cs → GrowR K' A5 es e n v cs := by
  refine ⟨K.plus (A5.minus Ak), plus_l _ _, plus_r fun j o hj => ?_, fun j o hj => ?_, fun {es e n v cs} hG => ?_⟩
  · cases hKj : K.blk j with
    | none => rfl
    | some o' => rw [minus_none _ (h _ _ hKj)] at hj; cases hj
  · rcases plus_cases hj with hj | ⟨_, hj⟩
    · exact s _ _ (h _ _ hj)
    · exact (minus_blk hj).2
  · exact (grow_know hG fun j o h1 h2 => by rw [plus_blk, h1]; exact minus_none _ h2).sub s

theorem row_len61 : ∀ (ds : List DeedD) (T : TreeD), (∀ d ∈ ds, d.parts.length ≤ 60) → (treeRow T ds).nodes.length ≤ T.nodes.length + ds.length * 61
  | [], _, _ => by simp [treeRow]
  | d :: ds, T, h => by
    have h1 := row_len61 ds (treeApply T d) fun x hx => h x (List.mem_cons_of_mem _ hx)
    have h2 := apply_len T d
    have h3 := h d (by simp)
    have e : treeRow T (d :: ds) = treeRow (treeApply T d) ds := rfl
    rw [e, List.length_cons]
    omega

theorem state_len {ns : List DeedD} (h60 : ns.length ≤ 60) (hp : ∀ d ∈ ns, d.parts.length ≤ 60) (k : Nat) : (stateT ns k).nodes.length ≤ 3661 ∧ (stateT ns k).seats.length ≤ 120 := by
  have h1 := row_len61 (ns.take k) treeNew fun d hd => hp d (List.take_subset _ _ hd)
  have h2 := (row_len (ns.take k) treeNew).2
  have h3 : (ns.take k).length ≤ 60 := by rw [List.length_take]; omega
  have h4 : treeNew.nodes.length = 1 := rfl
  have h5 : treeNew.seats.length = 0 := rfl
  unfold stateT
  omega

theorem seen_len {m : Nat} : ∀ {g : StL}, (∀ e ∈ g, e.2.length ≤ m) → (seenL g).length ≤ g.length * m
  | [], _ => by simp [seenL]
  | e :: g, h => by
    have h1 := seen_len (g := g) fun x hx => h x (List.mem_cons_of_mem _ hx)
    have h2 := h e (by simp)
    have h3 : seenL (e :: g) = (e.2.map fun y => pathL y.1.path) ++ seenL g := by simp [seenL]
    rw [h3, List.length_append, List.length_map, List.length_cons, Nat.succ_mul]
    omega

theorem seen_iff {g : StL} {F : Nat → TreeD} (h : ∀ i (h : i < g.length), g[i].2.map (·.1) = treeAll (F i)) (x : List UInt8) : x ∈ seenL g ↔ ∃ j, j < g.length ∧ x ∈ treePaths (F j) := by
  have key : ∀ i (hi : i < g.length), (g[i].2.map fun y => pathL y.1.path) = treePaths (F i) := fun i hi => by
    have h1 := congrArg (fun l : List ToldD => l.map fun t => pathL t.path) (h i hi)
    simp only [List.map_map] at h1
    have h2 : (treeAll (F i)).map (fun t => pathL t.path) = treePaths (F i) := by
      have h3 := congrArg (fun l : List ByteArray => l.map pathL) (all_paths (F i))
      simp only [List.map_map] at h3
      have h4 : (treePaths (F i)).map (pathL ∘ bytesOf) = treePaths (F i) := by
        conv => rhs; rw [← List.map_id (treePaths (F i))]
        exact List.map_congr_left fun y _ => pathL_bytesOf y
      rw [h4] at h3
      exact h3
    rw [← h2]; exact h1
  unfold seenL
  rw [List.mem_flatMap]
  constructor
  · rintro ⟨e, he, hx⟩
    obtain ⟨i, hi, rfl⟩ := List.getElem_of_mem he
    exact ⟨i, hi, by rw [← key i hi]; exact hx⟩
  · rintro ⟨i, hi, hx⟩
    exact ⟨g[i], List.getElem_mem hi, by rw [key i hi]; exact hx⟩

theorem bnd_ok {x : Int} {c k : Nat} (hx : x = k) (hk : k ≤ c) : ((decide ((0 : Int) ≤ 0) && decide ((0 : Int) ≤ x)) && (false || decide (x ≤ (c : Int)))) = true := by
  subst hx
  exact Bool.and_eq_true_iff.2 ⟨Bool.and_eq_true_iff.2 ⟨decide_eq_true (by omega), decide_eq_true (by omega)⟩, Bool.or_eq_true_iff.2 (.inr (decide_eq_true (by omega)))⟩

structure StG where
  A : Arena
  K : Arena
  v : Value
  g : StL

structure StI (A2 : Arena) (ns : List DeedD) (k1 k2 : Nat) (s : StG) : Prop where
  le : k1 + s.g.length ≤ k2 + 1
  lo : A2.Sub s.K
  hi : s.K.Sub s.A
  row : GrowR s.K s.A 1 30 s.g.length s.v (s.g.map (·.1))
  are : ∀ e ∈ s.g, NodesR s.K e.1 e.2
  told : ∀ i (h : i < s.g.length), s.g[i].2.map (·.1) = treeAll (stateT ns (k1 + i))

theorem StI.step {A2 A K A7 K' : Arena} {ns : List DeedD} {k1 k2 : Nat} {v v' w : Value} {g : StL} {l : List (ToldD × Value)} (h : StI A2 ns k1 k2 ⟨A, K, v, g⟩) (hle : k1 + g.length ≤ k2) (hKK : K.Sub K') (hK7 : K'.Sub A7) (hG : GrowR K' A7 1 30 (g.length + 1) v' (g.map (·.1) ++ [w])) (hN : NodesR K' w l) (hl : l.map (·.1) = treeAll (stateT ns (k1 + g.length))) : StI A2 ns k1 k2 ⟨A7, K', v', g ++ [(w, l)]⟩ := by
  refine ⟨by show k1 + (g ++ [(w, l)]).length ≤ k2 + 1; rw [List.length_append]; show k1 + (g.length + 1) ≤ k2 + 1; omega, h.lo.trans hKK, hK7, ?_, fun e he => ?_, fun i hi => ?_⟩
  · show GrowR K' A7 1 _ (g ++ [(w, l)]).length v' ((g ++ [(w, l)]).map (·.1))
    rw [List.length_append, List.map_append]
    exact hG
  · rcases List.mem_append.1 he with he | he
    · have h1 := h.are e he
      exact ⟨h1.1.sub hKK, fun y hy => (h1.2 y hy).sub hKK⟩
    · simp only [List.mem_singleton] at he
      subst he; exact hN
  · have hi : i < (g ++ [(w, l)]).length := hi
    rw [List.length_append] at hi
    show (g ++ [(w, l)])[i].2.map (·.1) = _
    by_cases e : i < g.length
    · rw [List.getElem_append_left e]
      exact h.told i e
    · have hi : i < g.length + 1 := hi
      have e2 : i = g.length := by omega
      subst e2
      simp only [List.getElem_append_right (Nat.le_refl _), Nat.sub_self, List.getElem_cons_zero]
      exact hl

/-- A slot that stays: each side is reckoned alone. -/
theorem same1 {α : Type} {t t' : T α} {i : Nat} {x : α} (h1 : t'.get i = some x) (h2 : t.get i = some x) : t'.get i = t.get i := h1.trans h2.symm

theorem none_of {K A : Arena} (h : K.Sub A) : ∀ j, A.blk j = none → K.blk j = none := fun j hj => by
  cases h9 : K.blk j with
  | none => rfl
  | some o => rw [h _ _ h9] at hj; cases hj

def stInv (A2 : Arena) (ns : List DeedD) (k1 k2 : Nat) : LInv := { γ := StG, G := StI A2 ns k1 k2, keepS := [0, 1, 3, 9], keepB := [], sl := fun s => [(11, .v (.int .i64 (k1 + s.g.length : Nat))), (10, .v s.v), (2, .v (.int .i64 k2))], bl := fun _ => [], ar := fun s => s.A, mu := fun s => k2 + 1 - (k1 + s.g.length) }

structure RoG where
  i : Nat
  A : Arena
  v : Value
  rows : List (ToldD × Value)

structure RoI (A3 : Arena) (f : Nat → List ToldD) (N : Nat) (ps : List (List UInt8)) (s : RoG) : Prop where
  le : s.i ≤ ps.length
  sub : A3.Sub s.A
  row : GrowR A3 s.A 12 39 s.rows.length s.v (s.rows.flatMap nodeC)
  are : ∀ x ∈ s.rows, SlB A3 x.2 x.1.data
  rows_ : RowsI f N (ps.take s.i) (s.rows.map (·.1))
  len : s.rows.length ≤ s.i

theorem RoI.yes {A3 A A7 : Arena} {f : Nat → List ToldD} {N : Nat} {ps : List (List UInt8)} {i : Nat} {v v' : Value} {rows : List (ToldD × Value)} (h : RoI A3 f N ps ⟨i, A, v, rows⟩) (hris : Rising ps) (hi : i < ps.length) {x : ToldD × Value} (hG : GrowR A3 A7 12 39 (rows.length + 1) v' (rows.flatMap nodeC ++ nodeC x)) (hs : A3.Sub A7) (hd : SlB A3 x.2 x.1.data) {j : Nat} (hj : j < N) (hx : x.1 ∈ f j) (hp : x.1.path = bytesOf ps[i]) : RoI A3 f N ps ⟨i + 1, A7, v', rows ++ [x]⟩ := by
  have hlen := h.len
  refine ⟨hi, hs, ?_, fun y hy => ?_, ?_, ?_⟩
  · show GrowR A3 A7 12 _ (rows ++ [x]).length v' ((rows ++ [x]).flatMap nodeC)
    rw [List.length_append, List.flatMap_append, List.flatMap_singleton]
    exact hG
  · rcases List.mem_append.1 hy with hy | hy
    · exact h.are y hy
    · simp only [List.mem_singleton] at hy
      subst hy; exact hd
  · show RowsI f N (ps.take (i + 1)) ((rows ++ [x]).map (·.1))
    rw [List.map_append, List.map_singleton]
    exact h.rows_.yes hris hi hj hx hp
  · show (rows ++ [x]).length ≤ i + 1
    rw [List.length_append]
    exact Nat.succ_le_succ hlen

theorem RoI.no {A3 A : Arena} {f : Nat → List ToldD} {N : Nat} {ps : List (List UInt8)} {i : Nat} {v : Value} {rows : List (ToldD × Value)} (h : RoI A3 f N ps ⟨i, A, v, rows⟩) (hris : Rising ps) (hi : i < ps.length) {j : Nat} (hj : j < N) (hx : ∀ y ∈ f j, y.path ≠ bytesOf ps[i]) : RoI A3 f N ps ⟨i + 1, A, v, rows⟩ :=
  ⟨hi, h.sub, h.row, h.are, h.rows_.no hris hi hj hx, Nat.le_succ_of_le h.len⟩

def roInv (A3 : Arena) (f : Nat → List ToldD) (N : Nat) (ps : List (List UInt8)) : LInv := { γ := RoG, G := RoI A3 f N ps, keepS := [0, 1, 2, 3, 9, 10, 13], keepB := [], sl := fun s => [(14, .v (.int .i64 s.i)), (12, .v s.v)], bl := fun _ => [], ar := fun s => s.A, mu := fun s => ps.length - s.i }

structure LpG where
  k : Nat
  A : Arena
  B : Arena
  O : Nat → Prop

structure LpI (A1 B0 : Arena) (O0 : Nat → Prop) (t0 t1 : Nat) (W U : TreeD) (es : List DeedD) (s : LpG) : Prop where
  le : s.k ≤ es.length
  tree : TreeAt s.A s.B s.O t1 (treeRow U (es.take s.k))
  want : TreeAt s.A B0 O0 t0 W
  ap : Apart2 s.B s.O B0 O0
  side : Aside s.A A1 s.O

def lpInv (A1 B0 : Arena) (O0 : Nat → Prop) (t0 t1 : Nat) (W U : TreeD) (es : List DeedD) (k1 : Nat) : LInv := { γ := LpG, G := LpI A1 B0 O0 t0 t1 W U es, keepS := [0, 2, 9, 18], keepB := [], sl := fun s => [(20, .v (.int .i64 (k1 + s.k : Nat)))], bl := fun _ => [], ar := fun s => s.A, mu := fun s => es.length - s.k }

theorem Aside.less {A C C' : Arena} {O : Nat → Prop} (h : Aside A C O) (hs : C'.Sub C) : Aside A C' O := ⟨hs.trans h.1, fun j o hj => h.2 j o (hs _ _ hj)⟩

theorem TSim.symm {T U : TreeD} (h : TSim T U) : TSim U T := ⟨fun q => (h.1 q).symm, fun s => (h.2 s).symm⟩

theorem sim_fits {T U : TreeD} (h : TSim T U) (hT : ND T) (hU : TOk U) {n m : Nat} (hn : U.nodes.length ≤ n) (hm : U.seats.length ≤ m) : SeatsOk T ∧ T.nodes.length ≤ n ∧ T.seats.length ≤ m := by
  have h1 := (keys_sim h hT hU.nd).length_eq
  have h2 := (keys_perm h.2 hT.2 hU.nd.2).length_eq
  rw [List.length_map, List.length_map] at h1 h2
  exact ⟨seatsOk_ofG h.symm hU hT, by omega, by omega⟩

def againS : FSpec := ⟨List DeedD × Int × Int × List Int, fun g vs A => ∃ v w, vs = [v, .int .i64 g.2.1, .int .i64 g.2.2.1, w] ∧ DeedsS A v g.1 ∧ SlI A w g.2.2.2 ∧ HasA A, fun _ _ A v A' => A.Sub A' ∧ v = .bool true⟩

set_option maxRecDepth 100000 in
set_option maxHeartbeats 0 in
theorem again_ok : FOk Tryd.prog 3 againS := by
  refine fok_v mixed fun ⟨ds, from_, to_, pick⟩ vs A hp => ?_
  obtain ⟨v, w, rfl, hDs, ⟨⟨ap, cp, rfl, hcp, hpl, hp1, hp2, hp3⟩, hpl2⟩, hHas⟩ : ∃ v w, vs = [v, .int .i64 from_, .int .i64 to_, w] ∧ DeedsS A v ds ∧ SlI A w pick ∧ HasA A := hp
  obtain ⟨ao, c, rfl⟩ : ∃ ao c, v = .slice ao ds.length c := by
    obtain ⟨rows, hS, _⟩ := hDs
    exact hS.form
  have hC : CTSound Tryd.prog (lookC [specE 5 awake11S, specE 6 numberedS, specE 7 pickS, specE 8 doneS, specE 9 allS, specE 10 allPathsS, specE 11 atS, specE 12 sittingsS, specE 13 loadS, specE 14 seatS, specE 15 applyS, specE 16 sameS] noC) := lookC_sound (noC_sound _) (fun x hx => by
    simp only [List.mem_cons, List.not_mem_nil, or_false] at hx
    rcases hx with rfl | rfl | rfl | rfl | rfl | rfl | rfl | rfl | rfl | rfl | rfl | rfl
    · exact specE_ok awake11_ok
    · exact specE_ok numbered_ok
    · exact specE_ok pick_ok
    · exact specE_ok done_ok
    · exact specE_ok all_ok
    · exact specE_ok allPaths_ok
    · exact specE_ok at_ok
    · exact specE_ok sittings_ok
    · exact specE_ok loadC_ok
    · exact specE_ok seat_ok
    · exact specE_ok apply_ok
    · exact specE_ok same_ok)
  refine ⟨_, tabO Tryd.prog _ noL 60 [(3, 0), (3, 2), (3, 4)], 60, hC, tabO_sound mixed hC (noL_sound _) _ _, fun blk os out tape D hD => ?_⟩
  conv => lhs; whnf
  refine (hD _).2 ⟨(), ⟨rfl, hHas⟩, fun v A' hq => ?_⟩
  obtain ⟨hA1, hv1⟩ : A' = A ∧ v = .bool true := hq
  subst hA1 hv1
  conv => lhs; whnf
  refine (hD _).2 ⟨ds, ⟨_, rfl, hDs, hHas⟩, fun v A1 hq => ?_⟩
  obtain ⟨s1, ns, rows, hrow, hare, h60, hparts⟩ : A'.Sub A1 ∧ ∃ (ns : List DeedD) (rows : List (List Value)), GrowR A' A1 16 53 ns.length v (List.flatten rows) ∧ DeedsR A' ns rows ∧ ns.length ≤ 60 ∧ ∀ d ∈ ns, d.parts.length ≤ 60 := hq
  obtain ⟨base, c9, rfl, hbase, -⟩ := hrow.formN
  have w61 : IntKind.i64.wrap ((ns.length : Int) + 1) = ((ns.length + 1 : Nat) : Int) := wrap_inc (by omega)
  conv => lhs; whnf
  refine (hD _).2 ⟨(from_, ns.length + 1), ⟨congrArg (fun z => [Value.int .i64 from_, .int .i64 z]) w61, by show 1 ≤ ns.length + 1; omega, by show ns.length + 1 ≤ 1000000; omega⟩, fun v A2 hq => ?_⟩
  obtain ⟨hA2, k1, hk1, hv⟩ : A2 = A1 ∧ ∃ k : Nat, k < ns.length + 1 ∧ v = .int .i64 k := hq
  have hA2 := hA2.symm
  subst hA2 hv
  conv => lhs; whnf
  have w62 : IntKind.i64.wrap (IntKind.i64.wrap ((ns.length : Int) + 1) - (k1 : Int)) = ((ns.length + 1 - k1 : Nat) : Int) := by
    rw [w61, Sx.wrap_i64 (by omega) (by omega)]; omega
  refine (hD _).2 ⟨(to_, ns.length + 1 - k1), ⟨congrArg (fun z => [Value.int .i64 to_, .int .i64 z]) w62, by show 1 ≤ ns.length + 1 - k1; omega, by show ns.length + 1 - k1 ≤ 1000000; omega⟩, fun v A2 hq => ?_⟩
  obtain ⟨hA2, kd, hkd, hv⟩ : A2 = A1 ∧ ∃ k : Nat, k < ns.length + 1 - k1 ∧ v = .int .i64 k := hq
  have hA2 := hA2.symm
  subst hA2 hv
  obtain ⟨k2, hk2⟩ : ∃ k2, k2 = k1 + kd := ⟨_, rfl⟩
  have w63 : IntKind.i64.wrap ((k1 : Int) + (kd : Int)) = ((k2 : Nat) : Int) := by
    rw [Sx.wrap_i64 (by omega) (by omega)]; omega
  have hcap : ns.length ≤ c9 := hrow.cap_le
  rcases hbase with rfl | ⟨g0, rfl⟩ <;> (conv => lhs; whnf)
  · have hz : ns.length = 0 := ((hrow.formB.1 1 184 (by omega) (by omega)).none_ rfl).1
    have hz9 : c9 = 0 := ((hrow.formB.1 1 184 (by omega) (by omega)).none_ rfl).2
    subst hz9
    have hcut : ∀ (A2 : Arena) (X : Int) (k : Nat), A1.Sub A2 → X = k → k ≤ ns.length → DeedsS A2 (.slice none (X.toNat - 0) 0) (ns.take k) := fun A2 X k h1 h2 h3 => by
      rw [h2, Int.toNat_natCast, Nat.sub_zero]
      exact grow_take hrow hare h3 h60 s1 h1 (.inr ⟨rfl, rfl, hz, rfl⟩) rfl
    refine go_b (bnd_ok w63 (by omega)) ?_
    conv => lhs; whnf
    refine (hD _).2 ⟨ns.take k2, ⟨_, rfl, hcut A1 _ k2 (Arena.Sub.refl _) w63 (by omega), hHas.sub s1⟩, fun v A2 hq => ?_⟩
    have hq : A1.Sub A2 ∧ ∃ t B O, v = .pointer (some ⟨t, 0, none⟩) ∧ TreeAt A2 B O t (treeRow treeNew (ns.take k2)) ∧ (∀ k, O k → A1.blk k = none) ∧ ∀ k o, B.blk k = some o → A1.blk k = none := hq
    obtain ⟨s2, t0, B0, O0, rfl, hT0, -, -⟩ := hq
    conv => lhs; whnf
    have hSt0 : StI A2 ns k1 k2 ⟨A2, A2, .slice none 0 0, []⟩ := ⟨by show k1 + 0 ≤ k2 + 1; omega, Arena.Sub.refl _, Arena.Sub.refl _, GrowR.nil _ _ _ _, fun _ h => (by cases h), fun i h => absurd h (Nat.not_lt_zero i)⟩
    refine (hD _).2 ⟨stInv A2 ns k1 k2, ⟨(⟨A2, A2, .slice none 0 0, []⟩ : StG), hSt0, ⟨rfl, rfl, congrArg (fun z => some (SV.v (Value.int .i64 z))) w63, trivial⟩, trivial, rfl⟩, fun (s : StG) hG => ⟨⟨trivial, trivial, trivial, trivial⟩, trivial, ?_⟩⟩
    obtain ⟨Ak, K, vk, gk⟩ := s
    obtain ⟨hjle, hlo, hhi, hgrow, hgare, htold⟩ : StI A2 ns k1 k2 ⟨Ak, K, vk, gk⟩ := hG
    dsimp only at hjle hlo hhi hgrow hgare htold
    have hAk : A1.Sub Ak := s2.trans (hlo.trans hhi)
    conv => lhs; whnf
    refine split_dec (fun hle => ?_) (fun hle => ?_) <;> (conv => lhs; whnf)
    · have hle' : k1 + gk.length ≤ k2 := by
        have hle : ((k1 + gk.length : Nat) : Int) ≤ (k2 : Int) := hle
        omega
      refine go_b (bnd_ok rfl (by omega)) ?_
      conv => lhs; whnf
      refine (hD _).2 ⟨ns.take (k1 + gk.length), ⟨_, rfl, hcut Ak _ (k1 + gk.length) hAk rfl (by omega), hHas.sub (s1.trans hAk)⟩, fun v A4 hq => ?_⟩
      have hq : Ak.Sub A4 ∧ ∃ t B O, v = .pointer (some ⟨t, 0, none⟩) ∧ TreeAt A4 B O t (stateT ns (k1 + gk.length)) ∧ (∀ k, O k → Ak.blk k = none) ∧ ∀ k o, B.blk k = some o → Ak.blk k = none := hq
      obtain ⟨s4, t4, B4, O4, rfl, hT4, -, -⟩ := hq
      have hsl := state_len h60 hparts (k1 + gk.length)
      conv => lhs; whnf
      refine (hD _).2 ⟨⟨stateT ns (k1 + gk.length), B4, O4, t4⟩, ⟨rfl, hT4, by show (stateT ns (k1 + gk.length)).nodes.length ≤ 1000000; omega⟩, fun v A5 hq => ?_⟩
      have hq : A4.Sub A5 ∧ NodesS (A5.minus A4) v (treeAll (stateT ns (k1 + gk.length))) := hq
      obtain ⟨s5, hNS⟩ := hq
      obtain ⟨K', hKK, hnew, hK5, hgK⟩ := know_step hhi (s4.trans s5)
      have hG5 := hgK hgrow
      obtain ⟨l5, hl5, hN5⟩ := nodesR_of hNS ((minus_later (A2 := A5) s4).trans hnew)
      obtain ⟨a5, c5, hv5⟩ := hN5.1.form
      subst hv5
      conv => lhs; whnf
      refine (hD _).2 fun gb A6 hN => ?_
      have hN : A5.New A6 gb #[.slice a5 l5.length c5] 30 := hN
      have hG6 := hG5.sub hN.sub
      have hK6 := hK5.trans hN.sub
      obtain ⟨b6, c6, hv6, hb6, -⟩ := hG6.formN
      subst hv6
      obtain ⟨hP6, hA6⟩ := hG6.formB
      have hP6 := hP6 1 24 (by omega) (by omega)
      have hrow6 : A6.rd gb 0 (1 * 1) = some [.slice a5 l5.length c5] := hN.rd (o := 0) (n := 1 * 1) (by show 0 + 1 * 1 ≤ 1; omega)
      have hslot : ((k1 + gk.length + 1 : Nat) : Int) = ((k1 + (gk ++ [(Value.slice a5 l5.length c5, l5)]).length : Nat) : Int) := by rw [List.length_append]; rfl
      have hmu : k2 + 1 - (k1 + (gk ++ [((.slice a5 l5.length c5 : Value), l5)]).length) < k2 + 1 - (k1 + gk.length) := by
        rw [List.length_append]
        show k2 + 1 - (k1 + (gk.length + 1)) < _
        omega
      have hfin : ∀ v A7, Appended A6 b6 gk.length c6 1 30 (gk.map (·.1)) [.slice a5 l5.length c5] 1 v A7 → StI A2 ns k1 k2 ⟨A7, K', v, gk ++ [(Value.slice a5 l5.length c5, l5)]⟩ := fun v A7 hAp => by
        obtain ⟨hG7, hk7⟩ := hA6 1 _ v A7 rfl (none_of hK6) hAp
        exact StI.step ⟨hjle, hlo, hhi, hgrow, hgare, htold⟩ hle' hKK (fun j o hj => by rw [hk7 j o hj]; exact hK6 _ _ hj) hG7 hN5 hl5
      rcases hb6 with rfl | ⟨g6, rfl⟩ <;> (conv => lhs; whnf)
      all_goals
        refine (hD _).2 ⟨(gk.map fun e : Value × List (ToldD × Value) => e.1 : List Value), ([Value.slice a5 l5.length c5] : List Value), hP6.rd, ?_, rfl, ?_, ?_, hP6.cap, rfl, hP6.none_, fun g' o' he' hle' _ => hP6.room 1 rfl g' o' he' hle', fun v A7 hAp => ?_⟩
        · show (if 1 * 1 = 0 then some [] else A6.rd gb 0 (1 * 1)) = _
          rw [if_neg (by omega)]; exact hrow6
        · intro v hv
          simp only [List.mem_cons, List.not_mem_nil, or_false] at hv
          subst hv; rfl
        · show gk.length + 1 ≤ 9223372036854775807
          omega
        have hI7 := hfin v A7 hAp
        conv => lhs; whnf
        exact (hD _).2 ⟨(⟨A7, K', v, gk ++ [(Value.slice a5 l5.length c5, l5)]⟩ : StG), ⟨hI7, ⟨(inc_slot (k := k1 + gk.length) (by omega)).trans (congrArg (fun z : Int => some (SV.v (.int .i64 z))) hslot), rfl, rfl, trivial⟩, trivial, rfl⟩, hmu, ⟨same1 rfl rfl, same1 rfl rfl, same1 rfl rfl, same1 rfl rfl, trivial⟩, trivial⟩
    have hgN : gk.length = k2 - k1 + 1 := by
      have hle : ¬ ((k1 + gk.length : Nat) : Int) ≤ (k2 : Int) := hle
      omega
    obtain ⟨bk, ck, hvk, hbk, -⟩ := hgrow.formN
    subst hvk
    obtain ⟨hPk, -⟩ := hgrow.formB
    have hPk := hPk 1 24 (by omega) (by omega)
    rcases hbk with rfl | ⟨gs, rfl⟩
    · exact absurd (hPk.none_ rfl).1 (by omega)
    have hrk : Ak.rd gs 0 (gk.length * 1) = some (gk.map (·.1)) := by
      have h2 : (if gk.length * 1 = 0 then some [] else Ak.rd gs 0 (gk.length * 1)) = some (gk.map (·.1)) := hPk.rd
      rw [if_neg (by omega)] at h2
      exact h2
    have hlen2 : ∀ e ∈ gk, e.2.length ≤ 3661 := fun e he => by
      obtain ⟨i, hi, rfl⟩ := List.getElem_of_mem he
      have h1 := congrArg List.length (htold i hi)
      have h2 := (state_len h60 hparts (k1 + i)).1
      rw [List.length_map, treeAll_len] at h1
      omega
    have hsz := seen_len hlen2
    have hsz2 : gk.length * 3661 ≤ 61 * 3661 := Nat.mul_le_mul_right _ (by omega)
    conv => lhs; whnf
    refine (hD _).2 ⟨gk, ⟨_, rfl, ⟨hgrow.sl, fun e he => ⟨(hgare e he).1.sub hhi, fun y hy => ((hgare e he).2 y hy).sub hhi⟩⟩, by show (seenL gk).length ≤ 1000000; omega, by show gk.length ≤ 1000000; omega⟩, fun v A3 hq => ?_⟩
    have hq : Ak.Sub A3 ∧ ∃ ps : List (List UInt8), Sl A3 1 ps.length v (ps.map strV) ∧ ps.length ≤ 1000000 ∧ Rising ps ∧ ∀ x, x ∈ ps ↔ x ∈ seenL gk := hq
    obtain ⟨s3, ps, ⟨aq, cq, rfl, hcq, hql, hq1, hq2, hq3⟩, hpl, hris, hmem⟩ := hq
    have hPO : PathsOf (fun j => stateT ns (k1 + j)) (k2 - k1 + 1) ps := ⟨hris, fun x => (hmem x).trans (by rw [seen_iff (F := fun j => stateT ns (k1 + j)) htold, hgN])⟩
    conv => lhs; whnf
    have hRo0 : RoI A3 (fun j => treeAll (stateT ns (k1 + j))) (k2 - k1 + 1) ps ⟨0, A3, .slice none 0 0, []⟩ := ⟨Nat.zero_le _, Arena.Sub.refl _, GrowR.nil _ _ _ _, fun _ h => (by cases h), RowsI.nil _ _, Nat.le_refl _⟩
    refine (hD _).2 ⟨roInv A3 (fun j => treeAll (stateT ns (k1 + j))) (k2 - k1 + 1) ps, ⟨(⟨0, A3, .slice none 0 0, []⟩ : RoG), hRo0, ⟨rfl, rfl, trivial⟩, trivial, rfl⟩, fun (s : RoG) hG => ⟨⟨trivial, trivial, trivial⟩, trivial, ?_⟩⟩
    obtain ⟨i, As, vr, rs⟩ := s
    have hRo : RoI A3 (fun j => treeAll (stateT ns (k1 + j))) (k2 - k1 + 1) ps ⟨i, As, vr, rs⟩ := hG
    have hAs := hRo.sub
    have hi := hRo.le
    have hrs := hRo.len
    dsimp only at hAs hi hrs
    have hrgrow := hRo.row
    dsimp only at hrgrow
    conv => lhs; whnf
    refine split_dec (fun hlt => ?_) (fun hlt => ?_) <;> (conv => lhs; whnf)
    · have hip : i < ps.length := by
        have hlt : (i : Int) < (ps.length : Int) := hlt
        omega
      obtain ⟨gq, oq, rfl, hrq⟩ := Sl.at_ hcq hq1 hq2 hq3 (by omega)
      have hri := rd_sub hAs (text_at hrq i hip rfl)
      have hKs : K.Sub As := hhi.trans (s3.trans hAs)
      have hrst : ∀ k (hk : k < gk.length), As.rd gs (0 + k * 1) 1 = some [gk[k].1] := fun k hk => by
        have := val_at hrk k (by rw [List.length_map]; exact hk) (by rw [List.length_map])
        rw [List.getElem_map] at this
        exact rd_sub (s3.trans hAs) this
      have i0 : (0 : Int) ≤ (i : Int) ∧ (i : Int) < (ps.length : Int) := by omega
      refine split_dec (fun hpk => ?_) (fun hpk => ?_) <;> (conv => lhs; whnf)
      · have hpp : 0 < pick.length := by
          have hpk : (0 : Int) < (pick.length : Int) := hpk
          omega
        obtain ⟨gp, op, rfl, hrp⟩ := Sl.at_ hcp hp1 hp2 hp3 hpp
        have hn0 : ¬ (pick.length : Int) = 0 := by omega
        have hmlo : 0 ≤ Int.tmod (i : Int) pick.length := Int.tmod_nonneg _ (by omega)
        have hmhi : Int.tmod (i : Int) pick.length < pick.length := Int.tmod_lt_of_pos _ (by omega)
        obtain ⟨mi, hmi⟩ : ∃ mi, mi = (Int.tmod (i : Int) pick.length).toNat := ⟨_, rfl⟩
        have hmi2 : mi < pick.length := by omega
        have hrpi := val_at hrp mi (by rw [List.length_map]; exact hmi2) (by rw [List.length_map])
        obtain ⟨pv, hpv⟩ : ∃ pv, pv = pick[mi] := ⟨_, rfl⟩
        rw [List.getElem_map, ← hpv, hmi] at hrpi
        have hrpi := rd_sub (s1.trans (hAk.trans (s3.trans hAs))) hrpi
        refine split_b (fun _ => ?_) (fun hb => absurd hb (by rw [decide_eq_false hn0]; decide)) <;> (conv => lhs; whnf)
        refine go_in ⟨hmlo, hmhi⟩ ?_
        conv => lhs; whnf
        refine go_rd hrpi ?_
        conv => lhs; whnf
        refine (hD _).2 ⟨(_, gk.length), ⟨rfl, by show 1 ≤ gk.length; omega, by show gk.length ≤ 1000000; omega⟩, fun v A4 hq => ?_⟩
        obtain ⟨hA4, kp, hkp, hv⟩ : A4 = As ∧ ∃ k : Nat, k < gk.length ∧ v = .int .i64 k := hq
        have hA4 := hA4.symm
        subst hA4 hv
        have kpin : (0 : Int) ≤ (kp : Int) ∧ (kp : Int) < (gk.length : Int) := by omega
        conv => lhs; whnf
        obtain ⟨⟨wk, lk⟩, hxk⟩ : ∃ e, e = gk[kp] := ⟨_, rfl⟩
        have hr1 := hrst kp (by omega)
        have hN1 := hgare _ (List.getElem_mem (l := gk) (n := kp) (by omega))
        have hl1 := htold kp (by omega)
        have hl2 := hlen2 _ (List.getElem_mem (l := gk) (n := kp) (by omega))
        rw [← hxk] at hr1 hN1 hl1 hl2
        obtain ⟨hN1, hN2⟩ : NodesR K wk lk := hN1
        have hl1 : lk.map (·.1) = treeAll (stateT ns (k1 + kp)) := hl1
        have hl2 : lk.length ≤ 3661 := hl2
        obtain ⟨ak, kk, hwk⟩ := hN1.form
        have hr1 : As.rd gs (0 + kp * 1) 1 = some [.slice ak lk.length kk] := by rw [hwk] at hr1; exact hr1
        have hNR : NodesR As (.slice ak lk.length kk) lk := ⟨by rw [← hwk]; exact hN1.sub hKs, fun y hy => (hN2 y hy).sub hKs⟩
        refine go_in kpin ?_
        conv => lhs; whnf
        refine go_rd hr1 ?_
        conv => lhs; whnf
        repeat (first | refine go_in i0 ?_ | refine go_rd hri ?_
                conv => lhs; whnf)
        refine go_b ?_ ?_
        rotate_left
        conv => lhs; whnf
        repeat (first | refine go_in kpin ?_ | refine go_rd hr1 ?_ | refine go_in i0 ?_ | refine go_rd hri ?_
                conv => lhs; whnf)
        all_goals
          refine (hD _).2 ⟨(lk, bytesOf ps[i]), ⟨_, rfl, hNR, by show lk.length ≤ 1000000; omega⟩, fun v A4 hq => ?_⟩
          have hq : A4 = As ∧ ((∃ y ∈ lk, y.1.path = bytesOf ps[i] ∧ v = .tuple #[.agg (nodeC y).toArray, .bool true]) ∨ ((∀ y ∈ lk, y.1.path ≠ bytesOf ps[i]) ∧ v = .tuple #[nodeV ⟨#[]⟩ (.slice none 0 0) statZ, .bool false])) := hq
          have h4 := hq.1.symm
          have hq2 := hq.2
          subst h4
          refine Or.elim hq2 (fun hex => ?_) (fun hno2 => ?_)
          · have hex : ∃ yp yd q1 q2 q3 q4 q5 q6 q7 q8 q9 q10 ay cy, ((⟨yp, yd, ⟨q1, q2, q3, q4, q5, q6, q7, q8, q9, q10⟩⟩ : ToldD), Value.slice ay yd.length cy) ∈ lk ∧ yp = bytesOf ps[i] ∧ v = .tuple #[.agg #[.string yp, .slice ay yd.length cy, .int .i64 q1, .int .i64 q2, .int .i64 q3, .int .i64 q4, .int .i64 q5, .int .i64 q6, .int .i64 q7, .int .i64 q8, .int .i64 q9, .int .i64 q10], .bool true] := by
              obtain ⟨⟨⟨yp, yd, ⟨q1, q2, q3, q4, q5, q6, q7, q8, q9, q10⟩⟩, yv⟩, hy, hyp, rfl⟩ := hex
              have hyd : SlB K yv yd := hN2 _ hy
              obtain ⟨ay, cy, rfl⟩ := hyd.1.form
              exact ⟨_, _, _, _, _, _, _, _, _, _, _, _, _, _, hy, hyp, rfl⟩
            obtain ⟨yp, yd, q1, q2, q3, q4, q5, q6, q7, q8, q9, q10, ay, cy, hy, hyp, hv⟩ := hex
            have hyd : SlB K (.slice ay yd.length cy) yd := hN2 _ hy
            subst hv
            have hyf : (⟨yp, yd, ⟨q1, q2, q3, q4, q5, q6, q7, q8, q9, q10⟩⟩ : ToldD) ∈ treeAll (stateT ns (k1 + kp)) := by
              rw [← hl1]; exact List.mem_map.2 ⟨_, hy, rfl⟩
            obtain ⟨xn, hxn⟩ : ∃ xn : ToldD × Value, xn = (⟨yp, yd, ⟨q1, q2, q3, q4, q5, q6, q7, q8, q9, q10⟩⟩, .slice ay yd.length cy) := ⟨_, rfl⟩
            conv => lhs; whnf
            refine (hD _).2 fun gb A6 hN => ?_
            have hNx : As.New A6 gb (nodeC xn).toArray 39 := by rw [hxn]; exact hN
            have hxl : (nodeC xn).length = 12 := rfl
            have hG6 := hrgrow.sub hNx.sub
            have hK6 := hAs.trans hNx.sub
            obtain ⟨b6, c6, hv6, hb6, -⟩ := hG6.formN
            subst hv6
            obtain ⟨hP6, hA6⟩ := hG6.formB
            have hP6 := hP6 1 120 (by omega) (by omega)
            have hrow6 : A6.rd gb 0 (1 * 12) = some (nodeC xn) := hNx.rd (o := 0) (n := 1 * 12) (by rw [List.size_toArray, hxl]; omega)
            have hfin : ∀ v A7, Appended A6 b6 rs.length c6 12 39 (rs.flatMap nodeC) (nodeC xn) 1 v A7 → RoI A3 (fun j => treeAll (stateT ns (k1 + j))) (k2 - k1 + 1) ps ⟨i + 1, A7, v, rs ++ [xn]⟩ := fun v A7 hAp => by
              obtain ⟨hG7, hk7⟩ := hA6 1 _ v A7 rfl (none_of hK6) hAp
              exact hRo.yes hris hip hG7 (fun j o hj => by rw [hk7 j o hj]; exact hK6 _ _ hj) (by rw [hxn]; exact hyd.sub (hhi.trans s3)) (j := kp) (by omega) (by rw [hxn]; exact hyf) (by rw [hxn]; exact hyp)
            have hone : ∀ v ∈ nodeC xn, v.oneCell' = true := fun v hv => by
              rw [hxn] at hv
              simp only [nodeC, StatD.cells, List.mem_cons, List.not_mem_nil, or_false] at hv
              rcases hv with rfl | rfl | rfl | rfl | rfl | rfl | rfl | rfl | rfl | rfl | rfl | rfl <;> rfl
            refine Or.elim hb6 (fun hb6 => ?_) (fun hb6 => ?_)
            rotate_left
            obtain ⟨g6, hb6⟩ := hb6
            all_goals
              subst hb6
              conv => lhs; whnf
              refine (hD _).2 ⟨rs.flatMap nodeC, nodeC xn, hP6.rd, ?_, rfl, hone, ?_, hP6.cap, rfl, hP6.none_, fun g' o' he' hle' _ => hP6.room 12 rfl g' o' he' hle', fun v A7 hAp => ?_⟩
              · show (if 1 * 12 = 0 then some [] else A6.rd gb 0 (1 * 12)) = _
                rw [if_neg (by omega)]; exact hrow6
              · show rs.length + 1 ≤ 9223372036854775807
                omega
              have hI7 := hfin v A7 hAp
              conv => lhs; whnf
              exact (hD _).2 ⟨(⟨i + 1, A7, v, rs ++ [xn]⟩ : RoG), ⟨hI7, ⟨inc_slot (k := i) (by omega), rfl, trivial⟩, trivial, rfl⟩, by show ps.length - (i + 1) < ps.length - i; omega, ⟨same1 rfl rfl, same1 rfl rfl, same1 rfl rfl, same1 rfl rfl, same1 rfl rfl, same1 rfl rfl, same1 rfl rfl, trivial⟩, trivial⟩
          · have hno := hno2.1
            have hv := hno2.2
            subst hv
            have hno' : ∀ y ∈ treeAll (stateT ns (k1 + kp)), y.path ≠ bytesOf ps[i] := fun y hy => by
              rw [← hl1] at hy
              obtain ⟨z, hz, rfl⟩ := List.mem_map.1 hy
              exact hno z hz
            have hI7 : RoI A3 (fun j => treeAll (stateT ns (k1 + j))) (k2 - k1 + 1) ps ⟨i + 1, As, vr, rs⟩ := hRo.no hris hip (j := kp) (by omega) hno'
            conv => lhs; whnf
            exact (hD _).2 ⟨(⟨i + 1, As, vr, rs⟩ : RoG), ⟨hI7, ⟨inc_slot (k := i) (by omega), rfl, trivial⟩, trivial, rfl⟩, by show ps.length - (i + 1) < ps.length - i; omega, ⟨same1 rfl rfl, same1 rfl rfl, same1 rfl rfl, same1 rfl rfl, same1 rfl rfl, same1 rfl rfl, same1 rfl rfl, trivial⟩, trivial⟩
      · have k0in : (0 : Int) ≤ (0 : Int) ∧ (0 : Int) < (gk.length : Int) := by omega
        obtain ⟨⟨wk, lk⟩, hxk⟩ : ∃ e, e = gk[0] := ⟨_, rfl⟩
        have hr1 := hrst 0 (by omega)
        have hN1 := hgare _ (List.getElem_mem (l := gk) (n := 0) (by omega))
        have hl1 := htold 0 (by omega)
        have hl2 := hlen2 _ (List.getElem_mem (l := gk) (n := 0) (by omega))
        rw [← hxk] at hr1 hN1 hl1 hl2
        obtain ⟨hN1, hN2⟩ : NodesR K wk lk := hN1
        have hl1 : lk.map (·.1) = treeAll (stateT ns (k1 + 0)) := hl1
        have hl2 : lk.length ≤ 3661 := hl2
        obtain ⟨ak, kk, hwk⟩ := hN1.form
        have hr1 : As.rd gs (0 + 0 * 1) 1 = some [.slice ak lk.length kk] := by rw [hwk] at hr1; exact hr1
        have hNR : NodesR As (.slice ak lk.length kk) lk := ⟨by rw [← hwk]; exact hN1.sub hKs, fun y hy => (hN2 y hy).sub hKs⟩
        refine go_in k0in ?_
        conv => lhs; whnf
        refine go_rd hr1 ?_
        conv => lhs; whnf
        repeat (first | refine go_in i0 ?_ | refine go_rd hri ?_
                conv => lhs; whnf)
        refine go_b ?_ ?_
        rotate_left
        conv => lhs; whnf
        repeat (first | refine go_in k0in ?_ | refine go_rd hr1 ?_ | refine go_in i0 ?_ | refine go_rd hri ?_
                conv => lhs; whnf)
        all_goals
          refine (hD _).2 ⟨(lk, bytesOf ps[i]), ⟨_, rfl, hNR, by show lk.length ≤ 1000000; omega⟩, fun v A4 hq => ?_⟩
          have hq : A4 = As ∧ ((∃ y ∈ lk, y.1.path = bytesOf ps[i] ∧ v = .tuple #[.agg (nodeC y).toArray, .bool true]) ∨ ((∀ y ∈ lk, y.1.path ≠ bytesOf ps[i]) ∧ v = .tuple #[nodeV ⟨#[]⟩ (.slice none 0 0) statZ, .bool false])) := hq
          have h4 := hq.1.symm
          have hq2 := hq.2
          subst h4
          refine Or.elim hq2 (fun hex => ?_) (fun hno2 => ?_)
          · have hex : ∃ yp yd q1 q2 q3 q4 q5 q6 q7 q8 q9 q10 ay cy, ((⟨yp, yd, ⟨q1, q2, q3, q4, q5, q6, q7, q8, q9, q10⟩⟩ : ToldD), Value.slice ay yd.length cy) ∈ lk ∧ yp = bytesOf ps[i] ∧ v = .tuple #[.agg #[.string yp, .slice ay yd.length cy, .int .i64 q1, .int .i64 q2, .int .i64 q3, .int .i64 q4, .int .i64 q5, .int .i64 q6, .int .i64 q7, .int .i64 q8, .int .i64 q9, .int .i64 q10], .bool true] := by
              obtain ⟨⟨⟨yp, yd, ⟨q1, q2, q3, q4, q5, q6, q7, q8, q9, q10⟩⟩, yv⟩, hy, hyp, rfl⟩ := hex
              have hyd : SlB K yv yd := hN2 _ hy
              obtain ⟨ay, cy, rfl⟩ := hyd.1.form
              exact ⟨_, _, _, _, _, _, _, _, _, _, _, _, _, _, hy, hyp, rfl⟩
            obtain ⟨yp, yd, q1, q2, q3, q4, q5, q6, q7, q8, q9, q10, ay, cy, hy, hyp, hv⟩ := hex
            have hyd : SlB K (.slice ay yd.length cy) yd := hN2 _ hy
            subst hv
            have hyf : (⟨yp, yd, ⟨q1, q2, q3, q4, q5, q6, q7, q8, q9, q10⟩⟩ : ToldD) ∈ treeAll (stateT ns (k1 + 0)) := by
              rw [← hl1]; exact List.mem_map.2 ⟨_, hy, rfl⟩
            obtain ⟨xn, hxn⟩ : ∃ xn : ToldD × Value, xn = (⟨yp, yd, ⟨q1, q2, q3, q4, q5, q6, q7, q8, q9, q10⟩⟩, .slice ay yd.length cy) := ⟨_, rfl⟩
            conv => lhs; whnf
            refine (hD _).2 fun gb A6 hN => ?_
            have hNx : As.New A6 gb (nodeC xn).toArray 39 := by rw [hxn]; exact hN
            have hxl : (nodeC xn).length = 12 := rfl
            have hG6 := hrgrow.sub hNx.sub
            have hK6 := hAs.trans hNx.sub
            obtain ⟨b6, c6, hv6, hb6, -⟩ := hG6.formN
            subst hv6
            obtain ⟨hP6, hA6⟩ := hG6.formB
            have hP6 := hP6 1 120 (by omega) (by omega)
            have hrow6 : A6.rd gb 0 (1 * 12) = some (nodeC xn) := hNx.rd (o := 0) (n := 1 * 12) (by rw [List.size_toArray, hxl]; omega)
            have hfin : ∀ v A7, Appended A6 b6 rs.length c6 12 39 (rs.flatMap nodeC) (nodeC xn) 1 v A7 → RoI A3 (fun j => treeAll (stateT ns (k1 + j))) (k2 - k1 + 1) ps ⟨i + 1, A7, v, rs ++ [xn]⟩ := fun v A7 hAp => by
              obtain ⟨hG7, hk7⟩ := hA6 1 _ v A7 rfl (none_of hK6) hAp
              exact hRo.yes hris hip hG7 (fun j o hj => by rw [hk7 j o hj]; exact hK6 _ _ hj) (by rw [hxn]; exact hyd.sub (hhi.trans s3)) (j := 0) (by omega) (by rw [hxn]; exact hyf) (by rw [hxn]; exact hyp)
            have hone : ∀ v ∈ nodeC xn, v.oneCell' = true := fun v hv => by
              rw [hxn] at hv
              simp only [nodeC, StatD.cells, List.mem_cons, List.not_mem_nil, or_false] at hv
              rcases hv with rfl | rfl | rfl | rfl | rfl | rfl | rfl | rfl | rfl | rfl | rfl | rfl <;> rfl
            refine Or.elim hb6 (fun hb6 => ?_) (fun hb6 => ?_)
            rotate_left
            obtain ⟨g6, hb6⟩ := hb6
            all_goals
              subst hb6
              conv => lhs; whnf
              refine (hD _).2 ⟨rs.flatMap nodeC, nodeC xn, hP6.rd, ?_, rfl, hone, ?_, hP6.cap, rfl, hP6.none_, fun g' o' he' hle' _ => hP6.room 12 rfl g' o' he' hle', fun v A7 hAp => ?_⟩
              · show (if 1 * 12 = 0 then some [] else A6.rd gb 0 (1 * 12)) = _
                rw [if_neg (by omega)]; exact hrow6
              · show rs.length + 1 ≤ 9223372036854775807
                omega
              have hI7 := hfin v A7 hAp
              conv => lhs; whnf
              exact (hD _).2 ⟨(⟨i + 1, A7, v, rs ++ [xn]⟩ : RoG), ⟨hI7, ⟨inc_slot (k := i) (by omega), rfl, trivial⟩, trivial, rfl⟩, by show ps.length - (i + 1) < ps.length - i; omega, ⟨same1 rfl rfl, same1 rfl rfl, same1 rfl rfl, same1 rfl rfl, same1 rfl rfl, same1 rfl rfl, same1 rfl rfl, trivial⟩, trivial⟩
          · have hno := hno2.1
            have hv := hno2.2
            subst hv
            have hno' : ∀ y ∈ treeAll (stateT ns (k1 + 0)), y.path ≠ bytesOf ps[i] := fun y hy => by
              rw [← hl1] at hy
              obtain ⟨z, hz, rfl⟩ := List.mem_map.1 hy
              exact hno z hz
            have hI7 : RoI A3 (fun j => treeAll (stateT ns (k1 + j))) (k2 - k1 + 1) ps ⟨i + 1, As, vr, rs⟩ := hRo.no hris hip (j := 0) (by omega) hno'
            conv => lhs; whnf
            exact (hD _).2 ⟨(⟨i + 1, As, vr, rs⟩ : RoG), ⟨hI7, ⟨inc_slot (k := i) (by omega), rfl, trivial⟩, trivial, rfl⟩, by show ps.length - (i + 1) < ps.length - i; omega, ⟨same1 rfl rfl, same1 rfl rfl, same1 rfl rfl, same1 rfl rfl, same1 rfl rfl, same1 rfl rfl, same1 rfl rfl, trivial⟩, trivial⟩
    · have hip : i = ps.length := by
        have hlt : ¬ (i : Int) < (ps.length : Int) := hlt
        omega
      subst hip
      have hrI := hRo.rows_
      dsimp only at hrI
      rw [List.take_length] at hrI
      have hrare := hRo.are
      dsimp only at hrare
      have hload := rows_load (F := fun j => stateT ns (k1 + j)) (fun j => state_good ns (k1 + j)) (Nat.succ_pos _) hPO hrI
      have hNRr : NodesR As vr rs := ⟨hrgrow.sl, fun x hx => (hrare x hx).sub hAs⟩
      have hAsA : A1.Sub As := hAk.trans (s3.trans hAs)
      have hgood : ∀ k, TGood (stateT ns k) := state_good ns
      refine go_b (bnd_ok rfl (by omega)) ?_
      conv => lhs; whnf
      refine (hD _).2 ⟨ns.take k1, ⟨_, rfl, hcut As _ k1 hAsA rfl (by omega), hHas.sub (s1.trans hAsA)⟩, fun v A8 hq => ?_⟩
      have hq : As.Sub A8 ∧ ∃ t B O, v = .pointer (some ⟨t, 0, none⟩) ∧ TreeAt A8 B O t (stateT ns k1) ∧ (∀ k, O k → As.blk k = none) ∧ ∀ k o, B.blk k = some o → As.blk k = none := hq
      obtain ⟨s8, t1, B1, O1, rfl, hT1, hO1, hB1⟩ := hq
      conv => lhs; whnf
      refine go_b (bnd_ok rfl (by omega)) ?_
      conv => lhs; whnf
      refine (hD _).2 ⟨ns.take k1, ⟨_, rfl, hcut A8 _ k1 (hAsA.trans s8) rfl (by omega), hHas.sub (s1.trans (hAsA.trans s8))⟩, fun v A9 hq => ?_⟩
      have hq : A8.Sub A9 ∧ ∃ t B O, v = .pointer (some ⟨t, 0, none⟩) ∧ TreeAt A9 B O t (stateT ns k1) ∧ (∀ k, O k → A8.blk k = none) ∧ ∀ k o, B.blk k = some o → A8.blk k = none := hq
      obtain ⟨s9, t9, B9, O9, rfl, hT9, -, -⟩ := hq
      have hsl1 := state_len h60 hparts k1
      conv => lhs; whnf
      refine (hD _).2 ⟨⟨stateT ns k1, B9, O9, t9⟩, ⟨rfl, hT9, (hgood k1).ok.seatsOk, by show (stateT ns k1).seats.length ≤ 1000000; omega⟩, fun v A10 hq => ?_⟩
      have hq : A9.Sub A10 ∧ Sl (A10.minus A9) 3 (treeSits (stateT ns k1)).length v ((treeSits (stateT ns k1)).flatMap sitC) := hq
      obtain ⟨s10, hS10⟩ := hq
      obtain ⟨a10, c10, hv10⟩ := hS10.form
      subst hv10
      conv => lhs; whnf
      refine split_dec (fun hpk => ?_) (fun hpk => ?_) <;> (conv => lhs; whnf)
      · have hpp : 0 < pick.length := by
          have hpk : (0 : Int) < (pick.length : Int) := hpk
          omega
        obtain ⟨gp, op, hap, hrp⟩ := Sl.at_ hcp hp1 hp2 hp3 hpp
        subst hap
        have hrpi := val_at hrp 0 (by rw [List.length_map]; exact hpp) (by rw [List.length_map])
        obtain ⟨pv, hpv⟩ : ∃ pv, pv = pick[0] := ⟨_, rfl⟩
        rw [List.getElem_map, ← hpv] at hrpi
        have hrpi := rd_sub (s1.trans (hAsA.trans (s8.trans (s9.trans s10)))) hrpi
        have p0in : (0 : Int) ≤ (0 : Int) ∧ (0 : Int) < (pick.length : Int) := by omega
        have w64 : IntKind.i64.wrap (IntKind.i64.wrap ((k2 : Int) - (k1 : Int)) + 1) = ((k2 - k1 + 1 : Nat) : Int) := by
          have h1 : IntKind.i64.wrap ((k2 : Int) - (k1 : Int)) = ((k2 - k1 : Nat) : Int) := by
            rw [Sx.wrap_i64 (by omega) (by omega)]; omega
          rw [h1]; exact wrap_inc (by omega)
        repeat (first | refine go_in p0in ?_ | refine go_rd hrpi ?_
                conv => lhs; whnf)
        refine (hD _).2 ⟨(pv, k2 - k1 + 1), ⟨congrArg (fun z => [Value.int .i64 pv, .int .i64 z]) w64, by show 1 ≤ k2 - k1 + 1; omega, by show k2 - k1 + 1 ≤ 1000000; omega⟩, fun v A4 hq => ?_⟩
        obtain ⟨hA4, mp, hmp, hv⟩ : A4 = A10 ∧ ∃ k : Nat, k < k2 - k1 + 1 ∧ v = .int .i64 k := hq
        have hA4 := hA4.symm
        subst hA4 hv
        have w65 : IntKind.i64.wrap ((k1 : Int) + (mp : Int)) = ((k1 + mp : Nat) : Int) := by
          rw [Sx.wrap_i64 (by omega) (by omega)]; omega
        conv => lhs; whnf
        refine go_b (bnd_ok w65 (by omega)) ?_
        conv => lhs; whnf
        refine (hD _).2 ⟨ns.take (k1 + mp), ⟨_, rfl, hcut A10 _ (k1 + mp) (hAsA.trans (s8.trans (s9.trans s10))) w65 (by omega), hHas.sub (s1.trans (hAsA.trans (s8.trans (s9.trans s10))))⟩, fun v A11 hq => ?_⟩
        have hq : A10.Sub A11 ∧ ∃ t B O, v = .pointer (some ⟨t, 0, none⟩) ∧ TreeAt A11 B O t (stateT ns (k1 + mp)) ∧ (∀ k, O k → A10.blk k = none) ∧ ∀ k o, B.blk k = some o → A10.blk k = none := hq
        obtain ⟨s11, t11, B11, O11, hv, hT11, -, -⟩ := hq
        subst hv
        have hsl2 := state_len h60 hparts (k1 + mp)
        conv => lhs; whnf
        refine (hD _).2 ⟨⟨stateT ns (k1 + mp), B11, O11, t11⟩, ⟨rfl, hT11, (hgood (k1 + mp)).ok.seatsOk, by show (stateT ns (k1 + mp)).seats.length ≤ 1000000; omega⟩, fun v A12 hq => ?_⟩
        have hq : A11.Sub A12 ∧ Sl (A12.minus A11) 3 (treeSits (stateT ns (k1 + mp))).length v ((treeSits (stateT ns (k1 + mp))).flatMap sitC) := hq
        obtain ⟨s12, hS12⟩ := hq
        obtain ⟨a12, c12, hv12⟩ := hS12.form
        subst hv12
        have hslS : (treeSits (stateT ns (k1 + mp))).length ≤ 140737488351232 := by rw [treeSits_len]; omega
        have hSS : SlS (A12.minus A8) (.slice a12 (treeSits (stateT ns (k1 + mp))).length c12) (treeSits (stateT ns (k1 + mp))) := ⟨hS12.sub (minus_later (s9.trans (s10.trans s11))), hslS⟩
        have s8X : A8.Sub A12 := s9.trans (s10.trans (s11.trans s12))
        conv => lhs; whnf
        have hT1X : TreeAt A12 B1 O1 t1 (stateT ns k1) := TreeAt_sub hT1 s8X
        have hAsX : Aside A12 As O1 := ⟨s8.trans s8X, fun j o hj hO => by rw [hO1 j hO] at hj; cases hj⟩
        have hT0s : TreeAt As B0 O0 t0 (stateT ns k2) := TreeAt_sub hT0 (hlo.trans (hhi.trans (s3.trans hAs)))
        have hT0X : TreeAt A12 B0 O0 t0 (stateT ns k2) := TreeAt_sub hT0s (s8.trans s8X)
        have hApX : Apart2 B1 O1 B0 O0 := (apart_newG hT0s hO1 hB1).symm
        have hNRl : rs.length ≤ 1000000 := by omega
        refine (hD _).2 ⟨(⟨stateT ns k1, B1, O1, t1⟩, rs, As), ⟨_, rfl, hT1X, hNRr, hNRl, hAsX⟩, fun v A13 hq => ?_⟩
        have hq : if LoadC (rs.map (·.1)) then v = .int .i64 0 ∧ StepTo A12 B1 O1 t1 ⟨loadN (rs.map (·.1)), (stateT ns k1).seats⟩ A13 else v = .int .i64 4 ∧ A13 = A12 := hq
        rw [if_pos hload] at hq
        obtain ⟨hv, B13, O13, hT13, hS13⟩ := hq
        subst hv
        have hAsS : Aside A12 ((A12).minus A8) O1 := ⟨minus_sub _ _, fun j o hj hO => by
          obtain ⟨m1, s1', E1, h1⟩ := hT1
          obtain ⟨o', ho'⟩ := h1.live j hO
          rw [minus_none _ ho'] at hj; cases hj⟩
        conv => lhs; whnf
        refine (hD _).2 ⟨(⟨⟨loadN (rs.map (·.1)), (stateT ns k1).seats⟩, B13, O13, t1⟩, treeSits (stateT ns (k1 + mp)), (A12).minus A8), ⟨_, rfl, hT13, hSS, hAsS.step hS13⟩, fun v A14 hq => ?_⟩
        have hq : v = .tuple #[] ∧ StepTo A13 B13 O13 t1 ⟨loadN (rs.map (·.1)), seatsOf (treeSits (stateT ns (k1 + mp)))⟩ A14 := hq
        obtain ⟨hv, B14, O14, hT14, hS14⟩ := hq
        subst hv
        obtain ⟨U, hU⟩ : ∃ U : TreeD, U = ⟨loadN (rs.map (·.1)), seatsOf (treeSits (stateT ns (k1 + mp)))⟩ := ⟨_, rfl⟩
        obtain ⟨es, hes⟩ : ∃ es, es = (ns.take k2).drop k1 := ⟨_, rfl⟩
        have hel : es.length = k2 - k1 := by rw [hes, List.length_drop, List.length_take]; omega
        have hsim : TSim (treeRow U es) (stateT ns k2) := by
          rw [hU, hes]
          exact again_plain ns (by omega) hPO hrI (by omega) (TreeAt.nd hT14)
        rw [← hU] at hT14
        obtain ⟨hw1, ha1⟩ := two_stepG hT0X hApX hS13
        obtain ⟨hw2, ha2⟩ := two_stepG hw1 ha1 hS14
        have hLp0 : LpI A1 B0 O0 t0 t1 (stateT ns k2) U es ⟨0, A14, B14, O14⟩ := ⟨Nat.zero_le _, hT14, hw2, ha2, ((hAsX.step hS13).step hS14).less hAsA⟩
        conv => lhs; whnf
        refine (hD _).2 ⟨lpInv A1 B0 O0 t0 t1 (stateT ns k2) U es k1, ⟨(⟨0, A14, B14, O14⟩ : LpG), hLp0, ⟨rfl, trivial⟩, trivial, rfl⟩, fun (s : LpG) hG => ⟨⟨trivial, trivial⟩, trivial, ?_⟩⟩
        obtain ⟨j, Aj, Bj, Oj⟩ := s
        have hG : LpI A1 B0 O0 t0 t1 (stateT ns k2) U es ⟨j, Aj, Bj, Oj⟩ := hG
        have hjl := hG.le
        have hTj := hG.tree
        have hWj := hG.want
        have hApj := hG.ap
        have hSdj := hG.side
        dsimp only at hjl hTj hWj hApj hSdj
        conv => lhs; whnf
        refine split_dec (fun hlt3 => ?_) (fun hlt3 => ?_)
        · have hlt3 : ((k1 + j : Nat) : Int) < (k2 : Int) := hlt3
          exact absurd hlt3 (by omega)
        · have hje : j = es.length := by
            have hlt3 : ¬ ((k1 + j : Nat) : Int) < (k2 : Int) := hlt3
            omega
          rw [hje, List.take_length] at hTj
          have hsl9 := state_len h60 hparts k2
          have hndU := TreeAt.nd hTj
          have hokW := (hgood k2).ok
          have hfU : TFits (treeRow U es) := sim_fits hsim hndU hokW (by omega) (by omega)
          have hfW : TFits (stateT ns k2) := ⟨hokW.seatsOk, by omega, by omega⟩
          have hsame1 : TSame (treeRow U es) (stateT ns k2) := hsim.same hndU hokW.nd
          have hsame2 : TSame (stateT ns k2) (treeRow U es) := hsim.symm.same hokW.nd hndU
          conv => lhs; whnf
          refine (hD _).2 ⟨(⟨treeRow U es, Bj, Oj, t1⟩, ⟨stateT ns k2, B0, O0, t0⟩), ⟨rfl, hTj, hWj, hfU, hfW⟩, fun v A15 hq => ?_⟩
          have hq : Aj.Sub A15 ∧ v = .bool (decide (TSame (treeRow U es) (stateT ns k2))) := hq
          obtain ⟨s15, hv⟩ := hq
          rw [decide_eq_true hsame1] at hv
          subst hv
          conv => lhs; whnf
          refine (hD _).2 ⟨(⟨stateT ns k2, B0, O0, t0⟩, ⟨treeRow U es, Bj, Oj, t1⟩), ⟨rfl, TreeAt_sub hWj s15, TreeAt_sub hTj s15, hfW, hfU⟩, fun v A16 hq => ?_⟩
          have hq : A15.Sub A16 ∧ v = .bool (decide (TSame (stateT ns k2) (treeRow U es))) := hq
          obtain ⟨s16, hv⟩ := hq
          rw [decide_eq_true hsame2] at hv
          subst hv
          have hend : againS.post (ds, from_, to_, pick) [] A' (.bool true) A16 := ⟨s1.trans (hSdj.1.trans (s15.trans s16)), rfl⟩
          conv => lhs; whnf
          exact (hD _).2 hend
      · have hslS : (treeSits (stateT ns k1)).length ≤ 140737488351232 := by rw [treeSits_len]; omega
        have hSS : SlS (A10.minus A8) (.slice a10 (treeSits (stateT ns k1)).length c10) (treeSits (stateT ns (k1 + 0))) := ⟨hS10.sub (minus_later s9), hslS⟩
        have s8X : A8.Sub A10 := s9.trans s10
        have hT1X : TreeAt A10 B1 O1 t1 (stateT ns k1) := TreeAt_sub hT1 s8X
        have hAsX : Aside A10 As O1 := ⟨s8.trans s8X, fun j o hj hO => by rw [hO1 j hO] at hj; cases hj⟩
        have hT0s : TreeAt As B0 O0 t0 (stateT ns k2) := TreeAt_sub hT0 (hlo.trans (hhi.trans (s3.trans hAs)))
        have hT0X : TreeAt A10 B0 O0 t0 (stateT ns k2) := TreeAt_sub hT0s (s8.trans s8X)
        have hApX : Apart2 B1 O1 B0 O0 := (apart_newG hT0s hO1 hB1).symm
        have hNRl : rs.length ≤ 1000000 := by omega
        refine (hD _).2 ⟨(⟨stateT ns k1, B1, O1, t1⟩, rs, As), ⟨_, rfl, hT1X, hNRr, hNRl, hAsX⟩, fun v A13 hq => ?_⟩
        have hq : if LoadC (rs.map (·.1)) then v = .int .i64 0 ∧ StepTo A10 B1 O1 t1 ⟨loadN (rs.map (·.1)), (stateT ns k1).seats⟩ A13 else v = .int .i64 4 ∧ A13 = A10 := hq
        rw [if_pos hload] at hq
        obtain ⟨hv, B13, O13, hT13, hS13⟩ := hq
        subst hv
        have hAsS : Aside A10 ((A10).minus A8) O1 := ⟨minus_sub _ _, fun j o hj hO => by
          obtain ⟨m1, s1', E1, h1⟩ := hT1
          obtain ⟨o', ho'⟩ := h1.live j hO
          rw [minus_none _ ho'] at hj; cases hj⟩
        conv => lhs; whnf
        refine (hD _).2 ⟨(⟨⟨loadN (rs.map (·.1)), (stateT ns k1).seats⟩, B13, O13, t1⟩, treeSits (stateT ns (k1 + 0)), (A10).minus A8), ⟨_, rfl, hT13, hSS, hAsS.step hS13⟩, fun v A14 hq => ?_⟩
        have hq : v = .tuple #[] ∧ StepTo A13 B13 O13 t1 ⟨loadN (rs.map (·.1)), seatsOf (treeSits (stateT ns (k1 + 0)))⟩ A14 := hq
        obtain ⟨hv, B14, O14, hT14, hS14⟩ := hq
        subst hv
        obtain ⟨U, hU⟩ : ∃ U : TreeD, U = ⟨loadN (rs.map (·.1)), seatsOf (treeSits (stateT ns (k1 + 0)))⟩ := ⟨_, rfl⟩
        obtain ⟨es, hes⟩ : ∃ es, es = (ns.take k2).drop k1 := ⟨_, rfl⟩
        have hel : es.length = k2 - k1 := by rw [hes, List.length_drop, List.length_take]; omega
        have hsim : TSim (treeRow U es) (stateT ns k2) := by
          rw [hU, hes]
          exact again_plain ns (by omega) hPO hrI (by omega) (TreeAt.nd hT14)
        rw [← hU] at hT14
        obtain ⟨hw1, ha1⟩ := two_stepG hT0X hApX hS13
        obtain ⟨hw2, ha2⟩ := two_stepG hw1 ha1 hS14
        have hLp0 : LpI A1 B0 O0 t0 t1 (stateT ns k2) U es ⟨0, A14, B14, O14⟩ := ⟨Nat.zero_le _, hT14, hw2, ha2, ((hAsX.step hS13).step hS14).less hAsA⟩
        conv => lhs; whnf
        refine (hD _).2 ⟨lpInv A1 B0 O0 t0 t1 (stateT ns k2) U es k1, ⟨(⟨0, A14, B14, O14⟩ : LpG), hLp0, ⟨rfl, trivial⟩, trivial, rfl⟩, fun (s : LpG) hG => ⟨⟨trivial, trivial⟩, trivial, ?_⟩⟩
        obtain ⟨j, Aj, Bj, Oj⟩ := s
        have hG : LpI A1 B0 O0 t0 t1 (stateT ns k2) U es ⟨j, Aj, Bj, Oj⟩ := hG
        have hjl := hG.le
        have hTj := hG.tree
        have hWj := hG.want
        have hApj := hG.ap
        have hSdj := hG.side
        dsimp only at hjl hTj hWj hApj hSdj
        conv => lhs; whnf
        refine split_dec (fun hlt3 => ?_) (fun hlt3 => ?_)
        · have hlt3 : ((k1 + j : Nat) : Int) < (k2 : Int) := hlt3
          exact absurd hlt3 (by omega)
        · have hje : j = es.length := by
            have hlt3 : ¬ ((k1 + j : Nat) : Int) < (k2 : Int) := hlt3
            omega
          rw [hje, List.take_length] at hTj
          have hsl9 := state_len h60 hparts k2
          have hndU := TreeAt.nd hTj
          have hokW := (hgood k2).ok
          have hfU : TFits (treeRow U es) := sim_fits hsim hndU hokW (by omega) (by omega)
          have hfW : TFits (stateT ns k2) := ⟨hokW.seatsOk, by omega, by omega⟩
          have hsame1 : TSame (treeRow U es) (stateT ns k2) := hsim.same hndU hokW.nd
          have hsame2 : TSame (stateT ns k2) (treeRow U es) := hsim.symm.same hokW.nd hndU
          conv => lhs; whnf
          refine (hD _).2 ⟨(⟨treeRow U es, Bj, Oj, t1⟩, ⟨stateT ns k2, B0, O0, t0⟩), ⟨rfl, hTj, hWj, hfU, hfW⟩, fun v A15 hq => ?_⟩
          have hq : Aj.Sub A15 ∧ v = .bool (decide (TSame (treeRow U es) (stateT ns k2))) := hq
          obtain ⟨s15, hv⟩ := hq
          rw [decide_eq_true hsame1] at hv
          subst hv
          conv => lhs; whnf
          refine (hD _).2 ⟨(⟨stateT ns k2, B0, O0, t0⟩, ⟨treeRow U es, Bj, Oj, t1⟩), ⟨rfl, TreeAt_sub hWj s15, TreeAt_sub hTj s15, hfW, hfU⟩, fun v A16 hq => ?_⟩
          have hq : A15.Sub A16 ∧ v = .bool (decide (TSame (stateT ns k2) (treeRow U es))) := hq
          obtain ⟨s16, hv⟩ := hq
          rw [decide_eq_true hsame2] at hv
          subst hv
          have hend : againS.post (ds, from_, to_, pick) [] A' (.bool true) A16 := ⟨s1.trans (hSdj.1.trans (s15.trans s16)), rfl⟩
          conv => lhs; whnf
          exact (hD _).2 hend
  · have hcut : ∀ (A2 : Arena) (X : Int) (k : Nat), A1.Sub A2 → X = k → k ≤ ns.length → DeedsS A2 (.slice (some ⟨g0, 0 + bif Nat.beq c9 0 then 0 else 0 * 16, none⟩) (X.toNat - 0) (c9 - 0)) (ns.take k) := fun A2 X k h1 h2 h3 => by
      have e : (0 + bif Nat.beq c9 0 then 0 else 0 * 16) = 0 := by cases Nat.beq c9 0 <;> rfl
      rw [h2, Int.toNat_natCast, Nat.sub_zero, e]
      exact grow_take hrow hare h3 h60 s1 h1 (.inl ⟨g0, rfl, rfl⟩) rfl
    refine go_b (bnd_ok w63 (by omega)) ?_
    conv => lhs; whnf
    refine (hD _).2 ⟨ns.take k2, ⟨_, rfl, hcut A1 _ k2 (Arena.Sub.refl _) w63 (by omega), hHas.sub s1⟩, fun v A2 hq => ?_⟩
    have hq : A1.Sub A2 ∧ ∃ t B O, v = .pointer (some ⟨t, 0, none⟩) ∧ TreeAt A2 B O t (treeRow treeNew (ns.take k2)) ∧ (∀ k, O k → A1.blk k = none) ∧ ∀ k o, B.blk k = some o → A1.blk k = none := hq
    obtain ⟨s2, t0, B0, O0, rfl, hT0, -, -⟩ := hq
    conv => lhs; whnf
    have hSt0 : StI A2 ns k1 k2 ⟨A2, A2, .slice none 0 0, []⟩ := ⟨by show k1 + 0 ≤ k2 + 1; omega, Arena.Sub.refl _, Arena.Sub.refl _, GrowR.nil _ _ _ _, fun _ h => (by cases h), fun i h => absurd h (Nat.not_lt_zero i)⟩
    refine (hD _).2 ⟨stInv A2 ns k1 k2, ⟨(⟨A2, A2, .slice none 0 0, []⟩ : StG), hSt0, ⟨rfl, rfl, congrArg (fun z => some (SV.v (Value.int .i64 z))) w63, trivial⟩, trivial, rfl⟩, fun (s : StG) hG => ⟨⟨trivial, trivial, trivial, trivial⟩, trivial, ?_⟩⟩
    obtain ⟨Ak, K, vk, gk⟩ := s
    obtain ⟨hjle, hlo, hhi, hgrow, hgare, htold⟩ : StI A2 ns k1 k2 ⟨Ak, K, vk, gk⟩ := hG
    dsimp only at hjle hlo hhi hgrow hgare htold
    have hAk : A1.Sub Ak := s2.trans (hlo.trans hhi)
    conv => lhs; whnf
    refine split_dec (fun hle => ?_) (fun hle => ?_) <;> (conv => lhs; whnf)
    · have hle' : k1 + gk.length ≤ k2 := by
        have hle : ((k1 + gk.length : Nat) : Int) ≤ (k2 : Int) := hle
        omega
      refine go_b (bnd_ok rfl (by omega)) ?_
      conv => lhs; whnf
      refine (hD _).2 ⟨ns.take (k1 + gk.length), ⟨_, rfl, hcut Ak _ (k1 + gk.length) hAk rfl (by omega), hHas.sub (s1.trans hAk)⟩, fun v A4 hq => ?_⟩
      have hq : Ak.Sub A4 ∧ ∃ t B O, v = .pointer (some ⟨t, 0, none⟩) ∧ TreeAt A4 B O t (stateT ns (k1 + gk.length)) ∧ (∀ k, O k → Ak.blk k = none) ∧ ∀ k o, B.blk k = some o → Ak.blk k = none := hq
      obtain ⟨s4, t4, B4, O4, rfl, hT4, -, -⟩ := hq
      have hsl := state_len h60 hparts (k1 + gk.length)
      conv => lhs; whnf
      refine (hD _).2 ⟨⟨stateT ns (k1 + gk.length), B4, O4, t4⟩, ⟨rfl, hT4, by show (stateT ns (k1 + gk.length)).nodes.length ≤ 1000000; omega⟩, fun v A5 hq => ?_⟩
      have hq : A4.Sub A5 ∧ NodesS (A5.minus A4) v (treeAll (stateT ns (k1 + gk.length))) := hq
      obtain ⟨s5, hNS⟩ := hq
      obtain ⟨K', hKK, hnew, hK5, hgK⟩ := know_step hhi (s4.trans s5)
      have hG5 := hgK hgrow
      obtain ⟨l5, hl5, hN5⟩ := nodesR_of hNS ((minus_later (A2 := A5) s4).trans hnew)
      obtain ⟨a5, c5, hv5⟩ := hN5.1.form
      subst hv5
      conv => lhs; whnf
      refine (hD _).2 fun gb A6 hN => ?_
      have hN : A5.New A6 gb #[.slice a5 l5.length c5] 30 := hN
      have hG6 := hG5.sub hN.sub
      have hK6 := hK5.trans hN.sub
      obtain ⟨b6, c6, hv6, hb6, -⟩ := hG6.formN
      subst hv6
      obtain ⟨hP6, hA6⟩ := hG6.formB
      have hP6 := hP6 1 24 (by omega) (by omega)
      have hrow6 : A6.rd gb 0 (1 * 1) = some [.slice a5 l5.length c5] := hN.rd (o := 0) (n := 1 * 1) (by show 0 + 1 * 1 ≤ 1; omega)
      have hslot : ((k1 + gk.length + 1 : Nat) : Int) = ((k1 + (gk ++ [(Value.slice a5 l5.length c5, l5)]).length : Nat) : Int) := by rw [List.length_append]; rfl
      have hmu : k2 + 1 - (k1 + (gk ++ [((.slice a5 l5.length c5 : Value), l5)]).length) < k2 + 1 - (k1 + gk.length) := by
        rw [List.length_append]
        show k2 + 1 - (k1 + (gk.length + 1)) < _
        omega
      have hfin : ∀ v A7, Appended A6 b6 gk.length c6 1 30 (gk.map (·.1)) [.slice a5 l5.length c5] 1 v A7 → StI A2 ns k1 k2 ⟨A7, K', v, gk ++ [(Value.slice a5 l5.length c5, l5)]⟩ := fun v A7 hAp => by
        obtain ⟨hG7, hk7⟩ := hA6 1 _ v A7 rfl (none_of hK6) hAp
        exact StI.step ⟨hjle, hlo, hhi, hgrow, hgare, htold⟩ hle' hKK (fun j o hj => by rw [hk7 j o hj]; exact hK6 _ _ hj) hG7 hN5 hl5
      rcases hb6 with rfl | ⟨g6, rfl⟩ <;> (conv => lhs; whnf)
      all_goals
        refine (hD _).2 ⟨(gk.map fun e : Value × List (ToldD × Value) => e.1 : List Value), ([Value.slice a5 l5.length c5] : List Value), hP6.rd, ?_, rfl, ?_, ?_, hP6.cap, rfl, hP6.none_, fun g' o' he' hle' _ => hP6.room 1 rfl g' o' he' hle', fun v A7 hAp => ?_⟩
        · show (if 1 * 1 = 0 then some [] else A6.rd gb 0 (1 * 1)) = _
          rw [if_neg (by omega)]; exact hrow6
        · intro v hv
          simp only [List.mem_cons, List.not_mem_nil, or_false] at hv
          subst hv; rfl
        · show gk.length + 1 ≤ 9223372036854775807
          omega
        have hI7 := hfin v A7 hAp
        conv => lhs; whnf
        exact (hD _).2 ⟨(⟨A7, K', v, gk ++ [(Value.slice a5 l5.length c5, l5)]⟩ : StG), ⟨hI7, ⟨(inc_slot (k := k1 + gk.length) (by omega)).trans (congrArg (fun z : Int => some (SV.v (.int .i64 z))) hslot), rfl, rfl, trivial⟩, trivial, rfl⟩, hmu, ⟨same1 rfl rfl, same1 rfl rfl, same1 rfl rfl, same1 rfl rfl, trivial⟩, trivial⟩
    have hgN : gk.length = k2 - k1 + 1 := by
      have hle : ¬ ((k1 + gk.length : Nat) : Int) ≤ (k2 : Int) := hle
      omega
    obtain ⟨bk, ck, hvk, hbk, -⟩ := hgrow.formN
    subst hvk
    obtain ⟨hPk, -⟩ := hgrow.formB
    have hPk := hPk 1 24 (by omega) (by omega)
    rcases hbk with rfl | ⟨gs, rfl⟩
    · exact absurd (hPk.none_ rfl).1 (by omega)
    have hrk : Ak.rd gs 0 (gk.length * 1) = some (gk.map (·.1)) := by
      have h2 : (if gk.length * 1 = 0 then some [] else Ak.rd gs 0 (gk.length * 1)) = some (gk.map (·.1)) := hPk.rd
      rw [if_neg (by omega)] at h2
      exact h2
    have hlen2 : ∀ e ∈ gk, e.2.length ≤ 3661 := fun e he => by
      obtain ⟨i, hi, rfl⟩ := List.getElem_of_mem he
      have h1 := congrArg List.length (htold i hi)
      have h2 := (state_len h60 hparts (k1 + i)).1
      rw [List.length_map, treeAll_len] at h1
      omega
    have hsz := seen_len hlen2
    have hsz2 : gk.length * 3661 ≤ 61 * 3661 := Nat.mul_le_mul_right _ (by omega)
    conv => lhs; whnf
    refine (hD _).2 ⟨gk, ⟨_, rfl, ⟨hgrow.sl, fun e he => ⟨(hgare e he).1.sub hhi, fun y hy => ((hgare e he).2 y hy).sub hhi⟩⟩, by show (seenL gk).length ≤ 1000000; omega, by show gk.length ≤ 1000000; omega⟩, fun v A3 hq => ?_⟩
    have hq : Ak.Sub A3 ∧ ∃ ps : List (List UInt8), Sl A3 1 ps.length v (ps.map strV) ∧ ps.length ≤ 1000000 ∧ Rising ps ∧ ∀ x, x ∈ ps ↔ x ∈ seenL gk := hq
    obtain ⟨s3, ps, ⟨aq, cq, rfl, hcq, hql, hq1, hq2, hq3⟩, hpl, hris, hmem⟩ := hq
    have hPO : PathsOf (fun j => stateT ns (k1 + j)) (k2 - k1 + 1) ps := ⟨hris, fun x => (hmem x).trans (by rw [seen_iff (F := fun j => stateT ns (k1 + j)) htold, hgN])⟩
    conv => lhs; whnf
    have hRo0 : RoI A3 (fun j => treeAll (stateT ns (k1 + j))) (k2 - k1 + 1) ps ⟨0, A3, .slice none 0 0, []⟩ := ⟨Nat.zero_le _, Arena.Sub.refl _, GrowR.nil _ _ _ _, fun _ h => (by cases h), RowsI.nil _ _, Nat.le_refl _⟩
    refine (hD _).2 ⟨roInv A3 (fun j => treeAll (stateT ns (k1 + j))) (k2 - k1 + 1) ps, ⟨(⟨0, A3, .slice none 0 0, []⟩ : RoG), hRo0, ⟨rfl, rfl, trivial⟩, trivial, rfl⟩, fun (s : RoG) hG => ⟨⟨trivial, trivial, trivial⟩, trivial, ?_⟩⟩
    obtain ⟨i, As, vr, rs⟩ := s
    have hRo : RoI A3 (fun j => treeAll (stateT ns (k1 + j))) (k2 - k1 + 1) ps ⟨i, As, vr, rs⟩ := hG
    have hAs := hRo.sub
    have hi := hRo.le
    have hrs := hRo.len
    dsimp only at hAs hi hrs
    have hrgrow := hRo.row
    dsimp only at hrgrow
    conv => lhs; whnf
    refine split_dec (fun hlt => ?_) (fun hlt => ?_) <;> (conv => lhs; whnf)
    · have hip : i < ps.length := by
        have hlt : (i : Int) < (ps.length : Int) := hlt
        omega
      obtain ⟨gq, oq, rfl, hrq⟩ := Sl.at_ hcq hq1 hq2 hq3 (by omega)
      have hri := rd_sub hAs (text_at hrq i hip rfl)
      have hKs : K.Sub As := hhi.trans (s3.trans hAs)
      have hrst : ∀ k (hk : k < gk.length), As.rd gs (0 + k * 1) 1 = some [gk[k].1] := fun k hk => by
        have := val_at hrk k (by rw [List.length_map]; exact hk) (by rw [List.length_map])
        rw [List.getElem_map] at this
        exact rd_sub (s3.trans hAs) this
      have i0 : (0 : Int) ≤ (i : Int) ∧ (i : Int) < (ps.length : Int) := by omega
      refine split_dec (fun hpk => ?_) (fun hpk => ?_) <;> (conv => lhs; whnf)
      · have hpp : 0 < pick.length := by
          have hpk : (0 : Int) < (pick.length : Int) := hpk
          omega
        obtain ⟨gp, op, rfl, hrp⟩ := Sl.at_ hcp hp1 hp2 hp3 hpp
        have hn0 : ¬ (pick.length : Int) = 0 := by omega
        have hmlo : 0 ≤ Int.tmod (i : Int) pick.length := Int.tmod_nonneg _ (by omega)
        have hmhi : Int.tmod (i : Int) pick.length < pick.length := Int.tmod_lt_of_pos _ (by omega)
        obtain ⟨mi, hmi⟩ : ∃ mi, mi = (Int.tmod (i : Int) pick.length).toNat := ⟨_, rfl⟩
        have hmi2 : mi < pick.length := by omega
        have hrpi := val_at hrp mi (by rw [List.length_map]; exact hmi2) (by rw [List.length_map])
        obtain ⟨pv, hpv⟩ : ∃ pv, pv = pick[mi] := ⟨_, rfl⟩
        rw [List.getElem_map, ← hpv, hmi] at hrpi
        have hrpi := rd_sub (s1.trans (hAk.trans (s3.trans hAs))) hrpi
        refine split_b (fun _ => ?_) (fun hb => absurd hb (by rw [decide_eq_false hn0]; decide)) <;> (conv => lhs; whnf)
        refine go_in ⟨hmlo, hmhi⟩ ?_
        conv => lhs; whnf
        refine go_rd hrpi ?_
        conv => lhs; whnf
        refine (hD _).2 ⟨(_, gk.length), ⟨rfl, by show 1 ≤ gk.length; omega, by show gk.length ≤ 1000000; omega⟩, fun v A4 hq => ?_⟩
        obtain ⟨hA4, kp, hkp, hv⟩ : A4 = As ∧ ∃ k : Nat, k < gk.length ∧ v = .int .i64 k := hq
        have hA4 := hA4.symm
        subst hA4 hv
        have kpin : (0 : Int) ≤ (kp : Int) ∧ (kp : Int) < (gk.length : Int) := by omega
        conv => lhs; whnf
        obtain ⟨⟨wk, lk⟩, hxk⟩ : ∃ e, e = gk[kp] := ⟨_, rfl⟩
        have hr1 := hrst kp (by omega)
        have hN1 := hgare _ (List.getElem_mem (l := gk) (n := kp) (by omega))
        have hl1 := htold kp (by omega)
        have hl2 := hlen2 _ (List.getElem_mem (l := gk) (n := kp) (by omega))
        rw [← hxk] at hr1 hN1 hl1 hl2
        obtain ⟨hN1, hN2⟩ : NodesR K wk lk := hN1
        have hl1 : lk.map (·.1) = treeAll (stateT ns (k1 + kp)) := hl1
        have hl2 : lk.length ≤ 3661 := hl2
        obtain ⟨ak, kk, hwk⟩ := hN1.form
        have hr1 : As.rd gs (0 + kp * 1) 1 = some [.slice ak lk.length kk] := by rw [hwk] at hr1; exact hr1
        have hNR : NodesR As (.slice ak lk.length kk) lk := ⟨by rw [← hwk]; exact hN1.sub hKs, fun y hy => (hN2 y hy).sub hKs⟩
        refine go_in kpin ?_
        conv => lhs; whnf
        refine go_rd hr1 ?_
        conv => lhs; whnf
        repeat (first | refine go_in i0 ?_ | refine go_rd hri ?_
                conv => lhs; whnf)
        refine go_b ?_ ?_
        rotate_left
        conv => lhs; whnf
        repeat (first | refine go_in kpin ?_ | refine go_rd hr1 ?_ | refine go_in i0 ?_ | refine go_rd hri ?_
                conv => lhs; whnf)
        all_goals
          refine (hD _).2 ⟨(lk, bytesOf ps[i]), ⟨_, rfl, hNR, by show lk.length ≤ 1000000; omega⟩, fun v A4 hq => ?_⟩
          have hq : A4 = As ∧ ((∃ y ∈ lk, y.1.path = bytesOf ps[i] ∧ v = .tuple #[.agg (nodeC y).toArray, .bool true]) ∨ ((∀ y ∈ lk, y.1.path ≠ bytesOf ps[i]) ∧ v = .tuple #[nodeV ⟨#[]⟩ (.slice none 0 0) statZ, .bool false])) := hq
          have h4 := hq.1.symm
          have hq2 := hq.2
          subst h4
          refine Or.elim hq2 (fun hex => ?_) (fun hno2 => ?_)
          · have hex : ∃ yp yd q1 q2 q3 q4 q5 q6 q7 q8 q9 q10 ay cy, ((⟨yp, yd, ⟨q1, q2, q3, q4, q5, q6, q7, q8, q9, q10⟩⟩ : ToldD), Value.slice ay yd.length cy) ∈ lk ∧ yp = bytesOf ps[i] ∧ v = .tuple #[.agg #[.string yp, .slice ay yd.length cy, .int .i64 q1, .int .i64 q2, .int .i64 q3, .int .i64 q4, .int .i64 q5, .int .i64 q6, .int .i64 q7, .int .i64 q8, .int .i64 q9, .int .i64 q10], .bool true] := by
              obtain ⟨⟨⟨yp, yd, ⟨q1, q2, q3, q4, q5, q6, q7, q8, q9, q10⟩⟩, yv⟩, hy, hyp, rfl⟩ := hex
              have hyd : SlB K yv yd := hN2 _ hy
              obtain ⟨ay, cy, rfl⟩ := hyd.1.form
              exact ⟨_, _, _, _, _, _, _, _, _, _, _, _, _, _, hy, hyp, rfl⟩
            obtain ⟨yp, yd, q1, q2, q3, q4, q5, q6, q7, q8, q9, q10, ay, cy, hy, hyp, hv⟩ := hex
            have hyd : SlB K (.slice ay yd.length cy) yd := hN2 _ hy
            subst hv
            have hyf : (⟨yp, yd, ⟨q1, q2, q3, q4, q5, q6, q7, q8, q9, q10⟩⟩ : ToldD) ∈ treeAll (stateT ns (k1 + kp)) := by
              rw [← hl1]; exact List.mem_map.2 ⟨_, hy, rfl⟩
            obtain ⟨xn, hxn⟩ : ∃ xn : ToldD × Value, xn = (⟨yp, yd, ⟨q1, q2, q3, q4, q5, q6, q7, q8, q9, q10⟩⟩, .slice ay yd.length cy) := ⟨_, rfl⟩
            conv => lhs; whnf
            refine (hD _).2 fun gb A6 hN => ?_
            have hNx : As.New A6 gb (nodeC xn).toArray 39 := by rw [hxn]; exact hN
            have hxl : (nodeC xn).length = 12 := rfl
            have hG6 := hrgrow.sub hNx.sub
            have hK6 := hAs.trans hNx.sub
            obtain ⟨b6, c6, hv6, hb6, -⟩ := hG6.formN
            subst hv6
            obtain ⟨hP6, hA6⟩ := hG6.formB
            have hP6 := hP6 1 120 (by omega) (by omega)
            have hrow6 : A6.rd gb 0 (1 * 12) = some (nodeC xn) := hNx.rd (o := 0) (n := 1 * 12) (by rw [List.size_toArray, hxl]; omega)
            have hfin : ∀ v A7, Appended A6 b6 rs.length c6 12 39 (rs.flatMap nodeC) (nodeC xn) 1 v A7 → RoI A3 (fun j => treeAll (stateT ns (k1 + j))) (k2 - k1 + 1) ps ⟨i + 1, A7, v, rs ++ [xn]⟩ := fun v A7 hAp => by
              obtain ⟨hG7, hk7⟩ := hA6 1 _ v A7 rfl (none_of hK6) hAp
              exact hRo.yes hris hip hG7 (fun j o hj => by rw [hk7 j o hj]; exact hK6 _ _ hj) (by rw [hxn]; exact hyd.sub (hhi.trans s3)) (j := kp) (by omega) (by rw [hxn]; exact hyf) (by rw [hxn]; exact hyp)
            have hone : ∀ v ∈ nodeC xn, v.oneCell' = true := fun v hv => by
              rw [hxn] at hv
              simp only [nodeC, StatD.cells, List.mem_cons, List.not_mem_nil, or_false] at hv
              rcases hv with rfl | rfl | rfl | rfl | rfl | rfl | rfl | rfl | rfl | rfl | rfl | rfl <;> rfl
            refine Or.elim hb6 (fun hb6 => ?_) (fun hb6 => ?_)
            rotate_left
            obtain ⟨g6, hb6⟩ := hb6
            all_goals
              subst hb6
              conv => lhs; whnf
              refine (hD _).2 ⟨rs.flatMap nodeC, nodeC xn, hP6.rd, ?_, rfl, hone, ?_, hP6.cap, rfl, hP6.none_, fun g' o' he' hle' _ => hP6.room 12 rfl g' o' he' hle', fun v A7 hAp => ?_⟩
              · show (if 1 * 12 = 0 then some [] else A6.rd gb 0 (1 * 12)) = _
                rw [if_neg (by omega)]; exact hrow6
              · show rs.length + 1 ≤ 9223372036854775807
                omega
              have hI7 := hfin v A7 hAp
              conv => lhs; whnf
              exact (hD _).2 ⟨(⟨i + 1, A7, v, rs ++ [xn]⟩ : RoG), ⟨hI7, ⟨inc_slot (k := i) (by omega), rfl, trivial⟩, trivial, rfl⟩, by show ps.length - (i + 1) < ps.length - i; omega, ⟨same1 rfl rfl, same1 rfl rfl, same1 rfl rfl, same1 rfl rfl, same1 rfl rfl, same1 rfl rfl, same1 rfl rfl, trivial⟩, trivial⟩
          · have hno := hno2.1
            have hv := hno2.2
            subst hv
            have hno' : ∀ y ∈ treeAll (stateT ns (k1 + kp)), y.path ≠ bytesOf ps[i] := fun y hy => by
              rw [← hl1] at hy
              obtain ⟨z, hz, rfl⟩ := List.mem_map.1 hy
              exact hno z hz
            have hI7 : RoI A3 (fun j => treeAll (stateT ns (k1 + j))) (k2 - k1 + 1) ps ⟨i + 1, As, vr, rs⟩ := hRo.no hris hip (j := kp) (by omega) hno'
            conv => lhs; whnf
            exact (hD _).2 ⟨(⟨i + 1, As, vr, rs⟩ : RoG), ⟨hI7, ⟨inc_slot (k := i) (by omega), rfl, trivial⟩, trivial, rfl⟩, by show ps.length - (i + 1) < ps.length - i; omega, ⟨same1 rfl rfl, same1 rfl rfl, same1 rfl rfl, same1 rfl rfl, same1 rfl rfl, same1 rfl rfl, same1 rfl rfl, trivial⟩, trivial⟩
      · have k0in : (0 : Int) ≤ (0 : Int) ∧ (0 : Int) < (gk.length : Int) := by omega
        obtain ⟨⟨wk, lk⟩, hxk⟩ : ∃ e, e = gk[0] := ⟨_, rfl⟩
        have hr1 := hrst 0 (by omega)
        have hN1 := hgare _ (List.getElem_mem (l := gk) (n := 0) (by omega))
        have hl1 := htold 0 (by omega)
        have hl2 := hlen2 _ (List.getElem_mem (l := gk) (n := 0) (by omega))
        rw [← hxk] at hr1 hN1 hl1 hl2
        obtain ⟨hN1, hN2⟩ : NodesR K wk lk := hN1
        have hl1 : lk.map (·.1) = treeAll (stateT ns (k1 + 0)) := hl1
        have hl2 : lk.length ≤ 3661 := hl2
        obtain ⟨ak, kk, hwk⟩ := hN1.form
        have hr1 : As.rd gs (0 + 0 * 1) 1 = some [.slice ak lk.length kk] := by rw [hwk] at hr1; exact hr1
        have hNR : NodesR As (.slice ak lk.length kk) lk := ⟨by rw [← hwk]; exact hN1.sub hKs, fun y hy => (hN2 y hy).sub hKs⟩
        refine go_in k0in ?_
        conv => lhs; whnf
        refine go_rd hr1 ?_
        conv => lhs; whnf
        repeat (first | refine go_in i0 ?_ | refine go_rd hri ?_
                conv => lhs; whnf)
        refine go_b ?_ ?_
        rotate_left
        conv => lhs; whnf
        repeat (first | refine go_in k0in ?_ | refine go_rd hr1 ?_ | refine go_in i0 ?_ | refine go_rd hri ?_
                conv => lhs; whnf)
        all_goals
          refine (hD _).2 ⟨(lk, bytesOf ps[i]), ⟨_, rfl, hNR, by show lk.length ≤ 1000000; omega⟩, fun v A4 hq => ?_⟩
          have hq : A4 = As ∧ ((∃ y ∈ lk, y.1.path = bytesOf ps[i] ∧ v = .tuple #[.agg (nodeC y).toArray, .bool true]) ∨ ((∀ y ∈ lk, y.1.path ≠ bytesOf ps[i]) ∧ v = .tuple #[nodeV ⟨#[]⟩ (.slice none 0 0) statZ, .bool false])) := hq
          have h4 := hq.1.symm
          have hq2 := hq.2
          subst h4
          refine Or.elim hq2 (fun hex => ?_) (fun hno2 => ?_)
          · have hex : ∃ yp yd q1 q2 q3 q4 q5 q6 q7 q8 q9 q10 ay cy, ((⟨yp, yd, ⟨q1, q2, q3, q4, q5, q6, q7, q8, q9, q10⟩⟩ : ToldD), Value.slice ay yd.length cy) ∈ lk ∧ yp = bytesOf ps[i] ∧ v = .tuple #[.agg #[.string yp, .slice ay yd.length cy, .int .i64 q1, .int .i64 q2, .int .i64 q3, .int .i64 q4, .int .i64 q5, .int .i64 q6, .int .i64 q7, .int .i64 q8, .int .i64 q9, .int .i64 q10], .bool true] := by
              obtain ⟨⟨⟨yp, yd, ⟨q1, q2, q3, q4, q5, q6, q7, q8, q9, q10⟩⟩, yv⟩, hy, hyp, rfl⟩ := hex
              have hyd : SlB K yv yd := hN2 _ hy
              obtain ⟨ay, cy, rfl⟩ := hyd.1.form
              exact ⟨_, _, _, _, _, _, _, _, _, _, _, _, _, _, hy, hyp, rfl⟩
            obtain ⟨yp, yd, q1, q2, q3, q4, q5, q6, q7, q8, q9, q10, ay, cy, hy, hyp, hv⟩ := hex
            have hyd : SlB K (.slice ay yd.length cy) yd := hN2 _ hy
            subst hv
            have hyf : (⟨yp, yd, ⟨q1, q2, q3, q4, q5, q6, q7, q8, q9, q10⟩⟩ : ToldD) ∈ treeAll (stateT ns (k1 + 0)) := by
              rw [← hl1]; exact List.mem_map.2 ⟨_, hy, rfl⟩
            obtain ⟨xn, hxn⟩ : ∃ xn : ToldD × Value, xn = (⟨yp, yd, ⟨q1, q2, q3, q4, q5, q6, q7, q8, q9, q10⟩⟩, .slice ay yd.length cy) := ⟨_, rfl⟩
            conv => lhs; whnf
            refine (hD _).2 fun gb A6 hN => ?_
            have hNx : As.New A6 gb (nodeC xn).toArray 39 := by rw [hxn]; exact hN
            have hxl : (nodeC xn).length = 12 := rfl
            have hG6 := hrgrow.sub hNx.sub
            have hK6 := hAs.trans hNx.sub
            obtain ⟨b6, c6, hv6, hb6, -⟩ := hG6.formN
            subst hv6
            obtain ⟨hP6, hA6⟩ := hG6.formB
            have hP6 := hP6 1 120 (by omega) (by omega)
            have hrow6 : A6.rd gb 0 (1 * 12) = some (nodeC xn) := hNx.rd (o := 0) (n := 1 * 12) (by rw [List.size_toArray, hxl]; omega)
            have hfin : ∀ v A7, Appended A6 b6 rs.length c6 12 39 (rs.flatMap nodeC) (nodeC xn) 1 v A7 → RoI A3 (fun j => treeAll (stateT ns (k1 + j))) (k2 - k1 + 1) ps ⟨i + 1, A7, v, rs ++ [xn]⟩ := fun v A7 hAp => by
              obtain ⟨hG7, hk7⟩ := hA6 1 _ v A7 rfl (none_of hK6) hAp
              exact hRo.yes hris hip hG7 (fun j o hj => by rw [hk7 j o hj]; exact hK6 _ _ hj) (by rw [hxn]; exact hyd.sub (hhi.trans s3)) (j := 0) (by omega) (by rw [hxn]; exact hyf) (by rw [hxn]; exact hyp)
            have hone : ∀ v ∈ nodeC xn, v.oneCell' = true := fun v hv => by
              rw [hxn] at hv
              simp only [nodeC, StatD.cells, List.mem_cons, List.not_mem_nil, or_false] at hv
              rcases hv with rfl | rfl | rfl | rfl | rfl | rfl | rfl | rfl | rfl | rfl | rfl | rfl <;> rfl
            refine Or.elim hb6 (fun hb6 => ?_) (fun hb6 => ?_)
            rotate_left
            obtain ⟨g6, hb6⟩ := hb6
            all_goals
              subst hb6
              conv => lhs; whnf
              refine (hD _).2 ⟨rs.flatMap nodeC, nodeC xn, hP6.rd, ?_, rfl, hone, ?_, hP6.cap, rfl, hP6.none_, fun g' o' he' hle' _ => hP6.room 12 rfl g' o' he' hle', fun v A7 hAp => ?_⟩
              · show (if 1 * 12 = 0 then some [] else A6.rd gb 0 (1 * 12)) = _
                rw [if_neg (by omega)]; exact hrow6
              · show rs.length + 1 ≤ 9223372036854775807
                omega
              have hI7 := hfin v A7 hAp
              conv => lhs; whnf
              exact (hD _).2 ⟨(⟨i + 1, A7, v, rs ++ [xn]⟩ : RoG), ⟨hI7, ⟨inc_slot (k := i) (by omega), rfl, trivial⟩, trivial, rfl⟩, by show ps.length - (i + 1) < ps.length - i; omega, ⟨same1 rfl rfl, same1 rfl rfl, same1 rfl rfl, same1 rfl rfl, same1 rfl rfl, same1 rfl rfl, same1 rfl rfl, trivial⟩, trivial⟩
          · have hno := hno2.1
            have hv := hno2.2
            subst hv
            have hno' : ∀ y ∈ treeAll (stateT ns (k1 + 0)), y.path ≠ bytesOf ps[i] := fun y hy => by
              rw [← hl1] at hy
              obtain ⟨z, hz, rfl⟩ := List.mem_map.1 hy
              exact hno z hz
            have hI7 : RoI A3 (fun j => treeAll (stateT ns (k1 + j))) (k2 - k1 + 1) ps ⟨i + 1, As, vr, rs⟩ := hRo.no hris hip (j := 0) (by omega) hno'
            conv => lhs; whnf
            exact (hD _).2 ⟨(⟨i + 1, As, vr, rs⟩ : RoG), ⟨hI7, ⟨inc_slot (k := i) (by omega), rfl, trivial⟩, trivial, rfl⟩, by show ps.length - (i + 1) < ps.length - i; omega, ⟨same1 rfl rfl, same1 rfl rfl, same1 rfl rfl, same1 rfl rfl, same1 rfl rfl, same1 rfl rfl, same1 rfl rfl, trivial⟩, trivial⟩
    · have hip : i = ps.length := by
        have hlt : ¬ (i : Int) < (ps.length : Int) := hlt
        omega
      subst hip
      have hrI := hRo.rows_
      dsimp only at hrI
      rw [List.take_length] at hrI
      have hrare := hRo.are
      dsimp only at hrare
      have hload := rows_load (F := fun j => stateT ns (k1 + j)) (fun j => state_good ns (k1 + j)) (Nat.succ_pos _) hPO hrI
      have hNRr : NodesR As vr rs := ⟨hrgrow.sl, fun x hx => (hrare x hx).sub hAs⟩
      have hAsA : A1.Sub As := hAk.trans (s3.trans hAs)
      have hgood : ∀ k, TGood (stateT ns k) := state_good ns
      refine go_b (bnd_ok rfl (by omega)) ?_
      conv => lhs; whnf
      refine (hD _).2 ⟨ns.take k1, ⟨_, rfl, hcut As _ k1 hAsA rfl (by omega), hHas.sub (s1.trans hAsA)⟩, fun v A8 hq => ?_⟩
      have hq : As.Sub A8 ∧ ∃ t B O, v = .pointer (some ⟨t, 0, none⟩) ∧ TreeAt A8 B O t (stateT ns k1) ∧ (∀ k, O k → As.blk k = none) ∧ ∀ k o, B.blk k = some o → As.blk k = none := hq
      obtain ⟨s8, t1, B1, O1, rfl, hT1, hO1, hB1⟩ := hq
      conv => lhs; whnf
      refine go_b (bnd_ok rfl (by omega)) ?_
      conv => lhs; whnf
      refine (hD _).2 ⟨ns.take k1, ⟨_, rfl, hcut A8 _ k1 (hAsA.trans s8) rfl (by omega), hHas.sub (s1.trans (hAsA.trans s8))⟩, fun v A9 hq => ?_⟩
      have hq : A8.Sub A9 ∧ ∃ t B O, v = .pointer (some ⟨t, 0, none⟩) ∧ TreeAt A9 B O t (stateT ns k1) ∧ (∀ k, O k → A8.blk k = none) ∧ ∀ k o, B.blk k = some o → A8.blk k = none := hq
      obtain ⟨s9, t9, B9, O9, rfl, hT9, -, -⟩ := hq
      have hsl1 := state_len h60 hparts k1
      conv => lhs; whnf
      refine (hD _).2 ⟨⟨stateT ns k1, B9, O9, t9⟩, ⟨rfl, hT9, (hgood k1).ok.seatsOk, by show (stateT ns k1).seats.length ≤ 1000000; omega⟩, fun v A10 hq => ?_⟩
      have hq : A9.Sub A10 ∧ Sl (A10.minus A9) 3 (treeSits (stateT ns k1)).length v ((treeSits (stateT ns k1)).flatMap sitC) := hq
      obtain ⟨s10, hS10⟩ := hq
      obtain ⟨a10, c10, hv10⟩ := hS10.form
      subst hv10
      conv => lhs; whnf
      refine split_dec (fun hpk => ?_) (fun hpk => ?_) <;> (conv => lhs; whnf)
      · have hpp : 0 < pick.length := by
          have hpk : (0 : Int) < (pick.length : Int) := hpk
          omega
        obtain ⟨gp, op, hap, hrp⟩ := Sl.at_ hcp hp1 hp2 hp3 hpp
        subst hap
        have hrpi := val_at hrp 0 (by rw [List.length_map]; exact hpp) (by rw [List.length_map])
        obtain ⟨pv, hpv⟩ : ∃ pv, pv = pick[0] := ⟨_, rfl⟩
        rw [List.getElem_map, ← hpv] at hrpi
        have hrpi := rd_sub (s1.trans (hAsA.trans (s8.trans (s9.trans s10)))) hrpi
        have p0in : (0 : Int) ≤ (0 : Int) ∧ (0 : Int) < (pick.length : Int) := by omega
        have w64 : IntKind.i64.wrap (IntKind.i64.wrap ((k2 : Int) - (k1 : Int)) + 1) = ((k2 - k1 + 1 : Nat) : Int) := by
          have h1 : IntKind.i64.wrap ((k2 : Int) - (k1 : Int)) = ((k2 - k1 : Nat) : Int) := by
            rw [Sx.wrap_i64 (by omega) (by omega)]; omega
          rw [h1]; exact wrap_inc (by omega)
        repeat (first | refine go_in p0in ?_ | refine go_rd hrpi ?_
                conv => lhs; whnf)
        refine (hD _).2 ⟨(pv, k2 - k1 + 1), ⟨congrArg (fun z => [Value.int .i64 pv, .int .i64 z]) w64, by show 1 ≤ k2 - k1 + 1; omega, by show k2 - k1 + 1 ≤ 1000000; omega⟩, fun v A4 hq => ?_⟩
        obtain ⟨hA4, mp, hmp, hv⟩ : A4 = A10 ∧ ∃ k : Nat, k < k2 - k1 + 1 ∧ v = .int .i64 k := hq
        have hA4 := hA4.symm
        subst hA4 hv
        have w65 : IntKind.i64.wrap ((k1 : Int) + (mp : Int)) = ((k1 + mp : Nat) : Int) := by
          rw [Sx.wrap_i64 (by omega) (by omega)]; omega
        conv => lhs; whnf
        refine go_b (bnd_ok w65 (by omega)) ?_
        conv => lhs; whnf
        refine (hD _).2 ⟨ns.take (k1 + mp), ⟨_, rfl, hcut A10 _ (k1 + mp) (hAsA.trans (s8.trans (s9.trans s10))) w65 (by omega), hHas.sub (s1.trans (hAsA.trans (s8.trans (s9.trans s10))))⟩, fun v A11 hq => ?_⟩
        have hq : A10.Sub A11 ∧ ∃ t B O, v = .pointer (some ⟨t, 0, none⟩) ∧ TreeAt A11 B O t (stateT ns (k1 + mp)) ∧ (∀ k, O k → A10.blk k = none) ∧ ∀ k o, B.blk k = some o → A10.blk k = none := hq
        obtain ⟨s11, t11, B11, O11, hv, hT11, -, -⟩ := hq
        subst hv
        have hsl2 := state_len h60 hparts (k1 + mp)
        conv => lhs; whnf
        refine (hD _).2 ⟨⟨stateT ns (k1 + mp), B11, O11, t11⟩, ⟨rfl, hT11, (hgood (k1 + mp)).ok.seatsOk, by show (stateT ns (k1 + mp)).seats.length ≤ 1000000; omega⟩, fun v A12 hq => ?_⟩
        have hq : A11.Sub A12 ∧ Sl (A12.minus A11) 3 (treeSits (stateT ns (k1 + mp))).length v ((treeSits (stateT ns (k1 + mp))).flatMap sitC) := hq
        obtain ⟨s12, hS12⟩ := hq
        obtain ⟨a12, c12, hv12⟩ := hS12.form
        subst hv12
        have hslS : (treeSits (stateT ns (k1 + mp))).length ≤ 140737488351232 := by rw [treeSits_len]; omega
        have hSS : SlS (A12.minus A8) (.slice a12 (treeSits (stateT ns (k1 + mp))).length c12) (treeSits (stateT ns (k1 + mp))) := ⟨hS12.sub (minus_later (s9.trans (s10.trans s11))), hslS⟩
        have s8X : A8.Sub A12 := s9.trans (s10.trans (s11.trans s12))
        conv => lhs; whnf
        have hT1X : TreeAt A12 B1 O1 t1 (stateT ns k1) := TreeAt_sub hT1 s8X
        have hAsX : Aside A12 As O1 := ⟨s8.trans s8X, fun j o hj hO => by rw [hO1 j hO] at hj; cases hj⟩
        have hT0s : TreeAt As B0 O0 t0 (stateT ns k2) := TreeAt_sub hT0 (hlo.trans (hhi.trans (s3.trans hAs)))
        have hT0X : TreeAt A12 B0 O0 t0 (stateT ns k2) := TreeAt_sub hT0s (s8.trans s8X)
        have hApX : Apart2 B1 O1 B0 O0 := (apart_newG hT0s hO1 hB1).symm
        have hNRl : rs.length ≤ 1000000 := by omega
        refine (hD _).2 ⟨(⟨stateT ns k1, B1, O1, t1⟩, rs, As), ⟨_, rfl, hT1X, hNRr, hNRl, hAsX⟩, fun v A13 hq => ?_⟩
        have hq : if LoadC (rs.map (·.1)) then v = .int .i64 0 ∧ StepTo A12 B1 O1 t1 ⟨loadN (rs.map (·.1)), (stateT ns k1).seats⟩ A13 else v = .int .i64 4 ∧ A13 = A12 := hq
        rw [if_pos hload] at hq
        obtain ⟨hv, B13, O13, hT13, hS13⟩ := hq
        subst hv
        have hAsS : Aside A12 ((A12).minus A8) O1 := ⟨minus_sub _ _, fun j o hj hO => by
          obtain ⟨m1, s1', E1, h1⟩ := hT1
          obtain ⟨o', ho'⟩ := h1.live j hO
          rw [minus_none _ ho'] at hj; cases hj⟩
        conv => lhs; whnf
        refine (hD _).2 ⟨(⟨⟨loadN (rs.map (·.1)), (stateT ns k1).seats⟩, B13, O13, t1⟩, treeSits (stateT ns (k1 + mp)), (A12).minus A8), ⟨_, rfl, hT13, hSS, hAsS.step hS13⟩, fun v A14 hq => ?_⟩
        have hq : v = .tuple #[] ∧ StepTo A13 B13 O13 t1 ⟨loadN (rs.map (·.1)), seatsOf (treeSits (stateT ns (k1 + mp)))⟩ A14 := hq
        obtain ⟨hv, B14, O14, hT14, hS14⟩ := hq
        subst hv
        obtain ⟨U, hU⟩ : ∃ U : TreeD, U = ⟨loadN (rs.map (·.1)), seatsOf (treeSits (stateT ns (k1 + mp)))⟩ := ⟨_, rfl⟩
        obtain ⟨es, hes⟩ : ∃ es, es = (ns.take k2).drop k1 := ⟨_, rfl⟩
        have hel : es.length = k2 - k1 := by rw [hes, List.length_drop, List.length_take]; omega
        have hsim : TSim (treeRow U es) (stateT ns k2) := by
          rw [hU, hes]
          exact again_plain ns (by omega) hPO hrI (by omega) (TreeAt.nd hT14)
        rw [← hU] at hT14
        obtain ⟨hw1, ha1⟩ := two_stepG hT0X hApX hS13
        obtain ⟨hw2, ha2⟩ := two_stepG hw1 ha1 hS14
        have hLp0 : LpI A1 B0 O0 t0 t1 (stateT ns k2) U es ⟨0, A14, B14, O14⟩ := ⟨Nat.zero_le _, hT14, hw2, ha2, ((hAsX.step hS13).step hS14).less hAsA⟩
        conv => lhs; whnf
        refine (hD _).2 ⟨lpInv A1 B0 O0 t0 t1 (stateT ns k2) U es k1, ⟨(⟨0, A14, B14, O14⟩ : LpG), hLp0, ⟨rfl, trivial⟩, trivial, rfl⟩, fun (s : LpG) hG => ⟨⟨trivial, trivial⟩, trivial, ?_⟩⟩
        obtain ⟨j, Aj, Bj, Oj⟩ := s
        have hG : LpI A1 B0 O0 t0 t1 (stateT ns k2) U es ⟨j, Aj, Bj, Oj⟩ := hG
        have hjl := hG.le
        have hTj := hG.tree
        have hWj := hG.want
        have hApj := hG.ap
        have hSdj := hG.side
        dsimp only at hjl hTj hWj hApj hSdj
        conv => lhs; whnf
        refine split_dec (fun hlt3 => ?_) (fun hlt3 => ?_)
        · have hlt3 : ((k1 + j : Nat) : Int) < (k2 : Int) := hlt3
          have hjn : k1 + j < ns.length := by omega
          have hje : j < es.length := by omega
          have hdj : es[j] = ns[k1 + j] := by
            simp only [hes, List.getElem_drop, List.getElem_take]
          have htk : treeRow U (es.take (j + 1)) = treeApply (treeRow U (es.take j)) ns[k1 + j] := by
            rw [List.take_succ_eq_append_getElem hje, row_append, hdj]; rfl
          have hrd : A1.rd g0 0 (ns.length * 16) = some rows.flatten := by
            have h2 : (if ns.length * 16 = 0 then some [] else A1.rd g0 0 (ns.length * 16)) = some rows.flatten := (hrow.formB.1 1 184 (by omega) (by omega)).rd
            rw [if_neg (by omega)] at h2
            exact h2
          obtain ⟨cs, hcs, hR1⟩ := deed_at hrd (DeedsR.sub s1 _ _ hare) (k1 + j) hjn rfl
          obtain ⟨dd, hdd⟩ : ∃ dd, dd = ns[k1 + j] := ⟨_, rfl⟩
          rw [← hdd] at hR1 htk
          obtain ⟨a7, l7, k7, a14, l14, k14, a15, l15, k15, hform⟩ := hR1.form
          obtain ⟨⟨zxid, kind, ses, turn, xid, dtime, path, data, owner, ver, cver, tmo, err, cfg, mem⟩, hdh⟩ : ∃ h, h = dd.h := ⟨_, rfl⟩
          rw [← hdh] at hform
          have hcj := rd_sub hSdj.1 hcs
          rw [hform] at hcj hR1
          have hcj : Aj.rd g0 (0 + (k1 + j) * 16) 16 = some [.int .i64 zxid, .int .u8 kind, .int .i64 ses, .int .i64 turn, .int .i64 xid, .int .i64 dtime, .string path, .slice a7 l7 k7, .int .i64 owner, .int .i64 ver, .int .i64 cver, .int .i64 tmo, .int .i64 err, .int .i64 cfg, .slice a14 l14 k14, .slice a15 l15 k15] := hcj
          have i3 : (0 : Int) ≤ ((k1 + j : Nat) : Int) ∧ ((k1 + j : Nat) : Int) < (ns.length : Int) := by omega
          conv => lhs; whnf
          repeat (first | refine go_in i3 ?_ | refine go_rd hcj ?_
                  conv => lhs; whnf)
          refine (hD _).2 ⟨(⟨treeRow U (es.take j), Bj, Oj, t1⟩, dd, A1), ⟨_, rfl, hTj, hR1, (hHas.sub s1), hSdj⟩, fun v A15 hq => ?_⟩
          have hq : StepTo Aj Bj Oj t1 (treeApply (treeRow U (es.take j)) dd) A15 := hq
          obtain ⟨B15, O15, hT15, hS15⟩ := hq
          obtain ⟨hw15, ha15⟩ := two_stepG hWj hApj hS15
          have hI : LpI A1 B0 O0 t0 t1 (stateT ns k2) U es ⟨j + 1, A15, B15, O15⟩ := ⟨hje, by show TreeAt A15 B15 O15 t1 (treeRow U (es.take (j + 1))); rw [htk]; exact hT15, hw15, ha15, hSdj.step hS15⟩
          conv => lhs; whnf
          exact (hD _).2 ⟨(⟨j + 1, A15, B15, O15⟩ : LpG), ⟨hI, ⟨inc_slot (k := k1 + j) (by omega), trivial⟩, trivial, rfl⟩, by show es.length - (j + 1) < es.length - j; omega, ⟨same1 rfl rfl, same1 rfl rfl, same1 rfl rfl, same1 rfl rfl, trivial⟩, trivial⟩
        · have hje : j = es.length := by
            have hlt3 : ¬ ((k1 + j : Nat) : Int) < (k2 : Int) := hlt3
            omega
          rw [hje, List.take_length] at hTj
          have hsl9 := state_len h60 hparts k2
          have hndU := TreeAt.nd hTj
          have hokW := (hgood k2).ok
          have hfU : TFits (treeRow U es) := sim_fits hsim hndU hokW (by omega) (by omega)
          have hfW : TFits (stateT ns k2) := ⟨hokW.seatsOk, by omega, by omega⟩
          have hsame1 : TSame (treeRow U es) (stateT ns k2) := hsim.same hndU hokW.nd
          have hsame2 : TSame (stateT ns k2) (treeRow U es) := hsim.symm.same hokW.nd hndU
          conv => lhs; whnf
          refine (hD _).2 ⟨(⟨treeRow U es, Bj, Oj, t1⟩, ⟨stateT ns k2, B0, O0, t0⟩), ⟨rfl, hTj, hWj, hfU, hfW⟩, fun v A15 hq => ?_⟩
          have hq : Aj.Sub A15 ∧ v = .bool (decide (TSame (treeRow U es) (stateT ns k2))) := hq
          obtain ⟨s15, hv⟩ := hq
          rw [decide_eq_true hsame1] at hv
          subst hv
          conv => lhs; whnf
          refine (hD _).2 ⟨(⟨stateT ns k2, B0, O0, t0⟩, ⟨treeRow U es, Bj, Oj, t1⟩), ⟨rfl, TreeAt_sub hWj s15, TreeAt_sub hTj s15, hfW, hfU⟩, fun v A16 hq => ?_⟩
          have hq : A15.Sub A16 ∧ v = .bool (decide (TSame (stateT ns k2) (treeRow U es))) := hq
          obtain ⟨s16, hv⟩ := hq
          rw [decide_eq_true hsame2] at hv
          subst hv
          have hend : againS.post (ds, from_, to_, pick) [] A' (.bool true) A16 := ⟨s1.trans (hSdj.1.trans (s15.trans s16)), rfl⟩
          conv => lhs; whnf
          exact (hD _).2 hend
      · have hslS : (treeSits (stateT ns k1)).length ≤ 140737488351232 := by rw [treeSits_len]; omega
        have hSS : SlS (A10.minus A8) (.slice a10 (treeSits (stateT ns k1)).length c10) (treeSits (stateT ns (k1 + 0))) := ⟨hS10.sub (minus_later s9), hslS⟩
        have s8X : A8.Sub A10 := s9.trans s10
        have hT1X : TreeAt A10 B1 O1 t1 (stateT ns k1) := TreeAt_sub hT1 s8X
        have hAsX : Aside A10 As O1 := ⟨s8.trans s8X, fun j o hj hO => by rw [hO1 j hO] at hj; cases hj⟩
        have hT0s : TreeAt As B0 O0 t0 (stateT ns k2) := TreeAt_sub hT0 (hlo.trans (hhi.trans (s3.trans hAs)))
        have hT0X : TreeAt A10 B0 O0 t0 (stateT ns k2) := TreeAt_sub hT0s (s8.trans s8X)
        have hApX : Apart2 B1 O1 B0 O0 := (apart_newG hT0s hO1 hB1).symm
        have hNRl : rs.length ≤ 1000000 := by omega
        refine (hD _).2 ⟨(⟨stateT ns k1, B1, O1, t1⟩, rs, As), ⟨_, rfl, hT1X, hNRr, hNRl, hAsX⟩, fun v A13 hq => ?_⟩
        have hq : if LoadC (rs.map (·.1)) then v = .int .i64 0 ∧ StepTo A10 B1 O1 t1 ⟨loadN (rs.map (·.1)), (stateT ns k1).seats⟩ A13 else v = .int .i64 4 ∧ A13 = A10 := hq
        rw [if_pos hload] at hq
        obtain ⟨hv, B13, O13, hT13, hS13⟩ := hq
        subst hv
        have hAsS : Aside A10 ((A10).minus A8) O1 := ⟨minus_sub _ _, fun j o hj hO => by
          obtain ⟨m1, s1', E1, h1⟩ := hT1
          obtain ⟨o', ho'⟩ := h1.live j hO
          rw [minus_none _ ho'] at hj; cases hj⟩
        conv => lhs; whnf
        refine (hD _).2 ⟨(⟨⟨loadN (rs.map (·.1)), (stateT ns k1).seats⟩, B13, O13, t1⟩, treeSits (stateT ns (k1 + 0)), (A10).minus A8), ⟨_, rfl, hT13, hSS, hAsS.step hS13⟩, fun v A14 hq => ?_⟩
        have hq : v = .tuple #[] ∧ StepTo A13 B13 O13 t1 ⟨loadN (rs.map (·.1)), seatsOf (treeSits (stateT ns (k1 + 0)))⟩ A14 := hq
        obtain ⟨hv, B14, O14, hT14, hS14⟩ := hq
        subst hv
        obtain ⟨U, hU⟩ : ∃ U : TreeD, U = ⟨loadN (rs.map (·.1)), seatsOf (treeSits (stateT ns (k1 + 0)))⟩ := ⟨_, rfl⟩
        obtain ⟨es, hes⟩ : ∃ es, es = (ns.take k2).drop k1 := ⟨_, rfl⟩
        have hel : es.length = k2 - k1 := by rw [hes, List.length_drop, List.length_take]; omega
        have hsim : TSim (treeRow U es) (stateT ns k2) := by
          rw [hU, hes]
          exact again_plain ns (by omega) hPO hrI (by omega) (TreeAt.nd hT14)
        rw [← hU] at hT14
        obtain ⟨hw1, ha1⟩ := two_stepG hT0X hApX hS13
        obtain ⟨hw2, ha2⟩ := two_stepG hw1 ha1 hS14
        have hLp0 : LpI A1 B0 O0 t0 t1 (stateT ns k2) U es ⟨0, A14, B14, O14⟩ := ⟨Nat.zero_le _, hT14, hw2, ha2, ((hAsX.step hS13).step hS14).less hAsA⟩
        conv => lhs; whnf
        refine (hD _).2 ⟨lpInv A1 B0 O0 t0 t1 (stateT ns k2) U es k1, ⟨(⟨0, A14, B14, O14⟩ : LpG), hLp0, ⟨rfl, trivial⟩, trivial, rfl⟩, fun (s : LpG) hG => ⟨⟨trivial, trivial⟩, trivial, ?_⟩⟩
        obtain ⟨j, Aj, Bj, Oj⟩ := s
        have hG : LpI A1 B0 O0 t0 t1 (stateT ns k2) U es ⟨j, Aj, Bj, Oj⟩ := hG
        have hjl := hG.le
        have hTj := hG.tree
        have hWj := hG.want
        have hApj := hG.ap
        have hSdj := hG.side
        dsimp only at hjl hTj hWj hApj hSdj
        conv => lhs; whnf
        refine split_dec (fun hlt3 => ?_) (fun hlt3 => ?_)
        · have hlt3 : ((k1 + j : Nat) : Int) < (k2 : Int) := hlt3
          have hjn : k1 + j < ns.length := by omega
          have hje : j < es.length := by omega
          have hdj : es[j] = ns[k1 + j] := by
            simp only [hes, List.getElem_drop, List.getElem_take]
          have htk : treeRow U (es.take (j + 1)) = treeApply (treeRow U (es.take j)) ns[k1 + j] := by
            rw [List.take_succ_eq_append_getElem hje, row_append, hdj]; rfl
          have hrd : A1.rd g0 0 (ns.length * 16) = some rows.flatten := by
            have h2 : (if ns.length * 16 = 0 then some [] else A1.rd g0 0 (ns.length * 16)) = some rows.flatten := (hrow.formB.1 1 184 (by omega) (by omega)).rd
            rw [if_neg (by omega)] at h2
            exact h2
          obtain ⟨cs, hcs, hR1⟩ := deed_at hrd (DeedsR.sub s1 _ _ hare) (k1 + j) hjn rfl
          obtain ⟨dd, hdd⟩ : ∃ dd, dd = ns[k1 + j] := ⟨_, rfl⟩
          rw [← hdd] at hR1 htk
          obtain ⟨a7, l7, k7, a14, l14, k14, a15, l15, k15, hform⟩ := hR1.form
          obtain ⟨⟨zxid, kind, ses, turn, xid, dtime, path, data, owner, ver, cver, tmo, err, cfg, mem⟩, hdh⟩ : ∃ h, h = dd.h := ⟨_, rfl⟩
          rw [← hdh] at hform
          have hcj := rd_sub hSdj.1 hcs
          rw [hform] at hcj hR1
          have hcj : Aj.rd g0 (0 + (k1 + j) * 16) 16 = some [.int .i64 zxid, .int .u8 kind, .int .i64 ses, .int .i64 turn, .int .i64 xid, .int .i64 dtime, .string path, .slice a7 l7 k7, .int .i64 owner, .int .i64 ver, .int .i64 cver, .int .i64 tmo, .int .i64 err, .int .i64 cfg, .slice a14 l14 k14, .slice a15 l15 k15] := hcj
          have i3 : (0 : Int) ≤ ((k1 + j : Nat) : Int) ∧ ((k1 + j : Nat) : Int) < (ns.length : Int) := by omega
          conv => lhs; whnf
          repeat (first | refine go_in i3 ?_ | refine go_rd hcj ?_
                  conv => lhs; whnf)
          refine (hD _).2 ⟨(⟨treeRow U (es.take j), Bj, Oj, t1⟩, dd, A1), ⟨_, rfl, hTj, hR1, (hHas.sub s1), hSdj⟩, fun v A15 hq => ?_⟩
          have hq : StepTo Aj Bj Oj t1 (treeApply (treeRow U (es.take j)) dd) A15 := hq
          obtain ⟨B15, O15, hT15, hS15⟩ := hq
          obtain ⟨hw15, ha15⟩ := two_stepG hWj hApj hS15
          have hI : LpI A1 B0 O0 t0 t1 (stateT ns k2) U es ⟨j + 1, A15, B15, O15⟩ := ⟨hje, by show TreeAt A15 B15 O15 t1 (treeRow U (es.take (j + 1))); rw [htk]; exact hT15, hw15, ha15, hSdj.step hS15⟩
          conv => lhs; whnf
          exact (hD _).2 ⟨(⟨j + 1, A15, B15, O15⟩ : LpG), ⟨hI, ⟨inc_slot (k := k1 + j) (by omega), trivial⟩, trivial, rfl⟩, by show es.length - (j + 1) < es.length - j; omega, ⟨same1 rfl rfl, same1 rfl rfl, same1 rfl rfl, same1 rfl rfl, trivial⟩, trivial⟩
        · have hje : j = es.length := by
            have hlt3 : ¬ ((k1 + j : Nat) : Int) < (k2 : Int) := hlt3
            omega
          rw [hje, List.take_length] at hTj
          have hsl9 := state_len h60 hparts k2
          have hndU := TreeAt.nd hTj
          have hokW := (hgood k2).ok
          have hfU : TFits (treeRow U es) := sim_fits hsim hndU hokW (by omega) (by omega)
          have hfW : TFits (stateT ns k2) := ⟨hokW.seatsOk, by omega, by omega⟩
          have hsame1 : TSame (treeRow U es) (stateT ns k2) := hsim.same hndU hokW.nd
          have hsame2 : TSame (stateT ns k2) (treeRow U es) := hsim.symm.same hokW.nd hndU
          conv => lhs; whnf
          refine (hD _).2 ⟨(⟨treeRow U es, Bj, Oj, t1⟩, ⟨stateT ns k2, B0, O0, t0⟩), ⟨rfl, hTj, hWj, hfU, hfW⟩, fun v A15 hq => ?_⟩
          have hq : Aj.Sub A15 ∧ v = .bool (decide (TSame (treeRow U es) (stateT ns k2))) := hq
          obtain ⟨s15, hv⟩ := hq
          rw [decide_eq_true hsame1] at hv
          subst hv
          conv => lhs; whnf
          refine (hD _).2 ⟨(⟨stateT ns k2, B0, O0, t0⟩, ⟨treeRow U es, Bj, Oj, t1⟩), ⟨rfl, TreeAt_sub hWj s15, TreeAt_sub hTj s15, hfW, hfU⟩, fun v A16 hq => ?_⟩
          have hq : A15.Sub A16 ∧ v = .bool (decide (TSame (stateT ns k2) (treeRow U es))) := hq
          obtain ⟨s16, hv⟩ := hq
          rw [decide_eq_true hsame2] at hv
          subst hv
          have hend : againS.post (ds, from_, to_, pick) [] A' (.bool true) A16 := ⟨s1.trans (hSdj.1.trans (s15.trans s16)), rfl⟩
          conv => lhs; whnf
          exact (hD _).2 hend

end
end Go.Proofs.YtabonbbfcfchmaaDoor
