/-
  What contracts of slices.SortFunc at structs want.
  Contracts: slices.SortFunc at sittings by their sessions, by the kit's law of it over any program.
  Walks over maps of the arena: what was met, what is left.
  Contracts: a tree's sittings, sorted by session.
  Contracts: a tree's paths, sorted.
  What deeds do to a tree, node by node and sitting by sitting: each by itself, and once is as twice.
  Contracts: a node got; the answer to a reading.
  Plain: sittings as a row, and as a tree has them.
  Contracts: all of a tree's nodes, as they are told.
  Rows of nodes; what it means that two trees tell the same.
  Trees that are alike tell the same; a copy is alike; what deeds keep of a tree.
  Trees, plain: sorted paths, counts of children, nodes that were loaded.
  Trees, plain: what nodes hold; loaded nodes; trees alike but for what is reckoned; rows of deeds.
-/
import Derived.Shelf.SlSortCmp.NoneTotal
import Derived.Test.YtfpfjobknefedaaGreatDoorG07
import Derived.Test.YtfpfjobknefedaaGreatDoorG11
import Derived.Lib.SlKeysI
namespace Go.Proofs.YtfpfjobknefedaaGreatDoor
open Go.Sx Go.RowKit Go.Sort Go.Shelf
noncomputable section

theorem flat_get {α : Type} [Inhabited α] (enc : α → List Value) (k : Nat) (hk : ∀ x, (enc x).length = k) (hp : 0 < k) : ∀ (l : List α) (t : Nat), t < l.length * k → (l.flatMap enc)[t]? = (enc (l[t / k]!))[t % k]?
  | [], t, h => by simp at h
  | x :: l, t, h => by
    rw [List.flatMap_cons]
    by_cases ht : t < k
    · rw [List.getElem?_append_left (by rw [hk]; exact ht), Nat.div_eq_of_lt ht, Nat.mod_eq_of_lt ht]; rfl
    · rw [List.getElem?_append_right (by rw [hk]; omega), hk]
      have hlt : t - k < l.length * k := by
        rw [List.length_cons, Nat.succ_mul] at h; omega
      rw [flat_get enc k hk hp l (t - k) hlt]
      have e1 : t / k = (t - k) / k + 1 := by
        rw [Nat.div_eq_sub_div hp (by omega)]
      have e2 : t % k = (t - k) % k := by rw [Nat.mod_eq_sub_mod (by omega)]
      rw [e1, e2]
      simp

theorem flatK_list {α : Type} [Inhabited α] (enc : α → List Value) (k : Nat) (hk : ∀ x, (enc x).length = k) (hp : 0 < k) (l : List α) : (flatK enc k l.toArray).toList = l.flatMap enc := by
  have hlen : (l.flatMap enc).length = l.length * k := by
    induction l with
    | nil => simp
    | cons x l ih => rw [List.flatMap_cons, List.length_append, hk, ih, List.length_cons, Nat.succ_mul]; omega
  refine List.ext_getElem? fun t => ?_
  by_cases ht : t < l.length * k
  · rw [flat_get enc k hk hp l t ht]
    have hm : t % k < k := Nat.mod_lt _ hp
    simp only [flatK, Array.toList_map, Array.toList_range, List.getElem?_map, List.size_toArray]
    rw [List.getElem?_range ht]
    simp only [Option.map_some, List.getElem!_toArray]
    rw [List.getElem?_eq_getElem (by rw [hk]; exact hm)]
    congr 1
    rw [List.getElem!_eq_getElem?_getD, List.getElem?_eq_getElem (by rw [hk]; exact hm)]
    rfl
  · rw [List.getElem?_eq_none (by rw [Array.length_toList, size_flatK, List.size_toArray]; omega), List.getElem?_eq_none (by rw [hlen]; omega)]

theorem putC_toList {β : Type} [Inhabited β] (enc : β → Value) (d : Array β) (c : Array Value) (h : d.size ≤ c.size) : (putCells enc 0 d c).toList = c.toList.take 0 ++ d.toList.map enc ++ c.toList.drop (0 + (d.toList.map enc).length) := by
  obtain ⟨d⟩ := d
  have h : d.length ≤ c.size := h
  refine List.ext_getElem? fun k => ?_
  simp only [putCells, Array.toList_mapIdx, List.getElem?_mapIdx, List.take_zero, List.nil_append, List.length_map, Nat.zero_add, Nat.zero_le, true_and, List.size_toArray, Nat.sub_zero]
  by_cases hk : k < d.length
  · rw [List.getElem?_append_left (by simpa using hk), List.getElem?_map, List.getElem?_eq_getElem hk]
    have hkc : k < c.toList.length := Nat.lt_of_lt_of_le hk h
    have h1 : c.toList[k]? = some c.toList[k] := List.getElem?_eq_getElem hkc
    rw [h1]
    simp [hk]
  · rw [List.getElem?_append_right (by simpa using Nat.le_of_not_lt hk), List.length_map, List.getElem?_drop, Nat.add_sub_cancel' (Nat.le_of_not_lt hk)]
    cases c.toList[k]? <;> simp [hk]

/-- A world that a sort leaves, as an arena. -/
theorem put_moves {β : Type} [Inhabited β] (enc : β → Value) {A : Arena} {w w' : World} (hA : ∀ k o, A.blk k = some o → w.heap[k]? = some o) {g : Nat} {c : Array Value} {t : TypeId} {fz : Nat × Nat} (hb : A.blk g = some (.cells c t fz)) {arr : Array β} (hd : arr.size ≤ c.size) {n : Nat} {os : Array Obj}
    (k2 : w' = grow (putRow enc (Sort.ahead w n) g 0 arr) os) : ∃ A', A.Put A' g 0 (arr.toList.map enc) ∧ Moves A A' w w' := by
  subst k2
  have hw := hA _ _ hb
  have hsz : g < w.heap.size := (Array.getElem?_eq_some_iff.1 hw).1
  refine ⟨Arena.of (fun k => if k = g then some (.cells (putCells enc 0 arr c) t fz) else A.blk k), ⟨⟨c, t, fz, _, hb, if_pos rfl, putC_toList enc arr c hd⟩, fun k hk => if_neg hk⟩, ?_⟩
  have at_ : ∀ k, k < w.heap.size → (grow (putRow enc (Sort.ahead w n) g 0 arr) os).heap[k]? = if k = g then some (.cells (putCells enc 0 arr c) t fz) else w.heap[k]? := fun k hk => by
    show (((w.heap.modify g (onCells (putCells enc 0 arr))) ++ os)[k]?) = _
    rw [Array.getElem?_append_left (by simpa using hk), Array.getElem?_modify]
    by_cases e : k = g
    · subst e; rw [if_pos rfl, if_pos rfl, hw]; rfl
    · rw [if_neg (fun h => e h.symm), if_neg e]
  have lt_ : ∀ k o, A.blk k = some o → k < w.heap.size := fun k o hk => (Array.getElem?_eq_some_iff.1 (hA k o hk)).1
  refine ⟨rfl, rfl, rfl, fun k hk hks => ?_, fun k o hk => ?_, fun k o hk => ?_⟩
  · rw [at_ k hks, if_neg fun e => (by rw [e, hb] at hk; cases hk)]
  · have hk : (if k = g then some (Obj.cells (putCells enc 0 arr c) t fz) else A.blk k) = some o := hk
    by_cases e : k = g
    · rw [if_pos e] at hk
      rw [at_ k (e ▸ hsz), if_pos e, hk]
    · rw [if_neg e] at hk
      rw [at_ k (lt_ k o hk), if_neg e]; exact hA k o hk
  · have hk : (if k = g then some (Obj.cells (putCells enc 0 arr c) t fz) else A.blk k) = some o := hk
    by_cases e : k = g
    · exact .inl ⟨_, e ▸ hb⟩
    · rw [if_neg e] at hk; exact .inl ⟨o, hk⟩

end
end Go.Proofs.YtfpfjobknefedaaGreatDoor

namespace Go.Proofs.YtfpfjobknefedaaGreatDoor
open Go.Sx Go.RowKit Go.Sort Go.Shelf
noncomputable section

def sfRen : Go.Shelf.Ren := ⟨fun | 6 => 57 | 15 => 65 | 14 => 72 | 28 => 84 | 29 => 85 | 20 => 94 | 21 => 95 | 22 => 96 | 23 => 97 | 24 => 98 | 25 => 99 | 26 => 100 | 27 => 101 | 46 => 115 | 47 => 108 | 48 => 109 | 49 => 116 | 50 => 117 | 57 => 122 | n => n, fun | 22 => 91 | 24 => 96 | 25 => 120 | 3 => 3 | 39 => 128 | 0 => 0 | 53 => 150 | 55 => 152 | 4 => 4 | 46 => 143 | 45 => 142 | 50 => 147 | 5 => 5 | 9 => 9 | 66 => 164 | 70 => 168 | 76 => 176 | 77 => 177 | n => n, fun | n => n⟩
theorem sfLays : SlLaysF0.n6 Tryz.prog sfRen where
  mixed := by kernel_rfl
  f6 := ⟨"slices.SortFunc[[]beadle/api.Sitting,beadle/api.Sitting]", by decide, Tryz.func57.trans (congrArg some (by kernel_rfl))⟩
  f14 := ⟨"slices.pdqsortCmpFunc[beadle/api.Sitting]", by decide, Tryz.func72.trans (congrArg some (by kernel_rfl))⟩
  f15 := Tryz.func65.trans (congrArg some (by kernel_rfl))
  f20 := ⟨"slices.insertionSortCmpFunc[beadle/api.Sitting]", by decide, Tryz.func94.trans (congrArg some (by kernel_rfl))⟩
  f21 := ⟨"slices.heapSortCmpFunc[beadle/api.Sitting]", by decide, Tryz.func95.trans (congrArg some (by kernel_rfl))⟩
  f22 := ⟨"slices.breakPatternsCmpFunc[beadle/api.Sitting]", by decide, Tryz.func96.trans (congrArg some (by kernel_rfl))⟩
  f23 := ⟨"slices.choosePivotCmpFunc[beadle/api.Sitting]", by decide, Tryz.func97.trans (congrArg some (by kernel_rfl))⟩
  f24 := ⟨"slices.reverseRangeCmpFunc[beadle/api.Sitting]", by decide, Tryz.func98.trans (congrArg some (by kernel_rfl))⟩
  f25 := ⟨"slices.partialInsertionSortCmpFunc[beadle/api.Sitting]", by decide, Tryz.func99.trans (congrArg some (by kernel_rfl))⟩
  f26 := ⟨"slices.partitionEqualCmpFunc[beadle/api.Sitting]", by decide, Tryz.func100.trans (congrArg some (by kernel_rfl))⟩
  f27 := ⟨"slices.partitionCmpFunc[beadle/api.Sitting]", by decide, Tryz.func101.trans (congrArg some (by kernel_rfl))⟩
  f28 := Tryz.func84.trans (congrArg some (by kernel_rfl))
  f29 := Tryz.func85.trans (congrArg some (by kernel_rfl))
  f46 := ⟨"slices.siftDownCmpFunc[beadle/api.Sitting]", by decide, Tryz.func115.trans (congrArg some (by kernel_rfl))⟩
  f47 := Tryz.func108.trans (congrArg some (by kernel_rfl))
  f48 := Tryz.func109.trans (congrArg some (by kernel_rfl))
  f49 := ⟨"slices.medianAdjacentCmpFunc[beadle/api.Sitting]", by decide, Tryz.func116.trans (congrArg some (by kernel_rfl))⟩
  f50 := ⟨"slices.medianCmpFunc[beadle/api.Sitting]", by decide, Tryz.func117.trans (congrArg some (by kernel_rfl))⟩
  f57 := ⟨"slices.order2CmpFunc[beadle/api.Sitting]", by decide, Tryz.func122.trans (congrArg some (by kernel_rfl))⟩
  t0 := Tryz.underlying0
  a0 := Tryz.isAgg0
  z0 := Tryz.sizeOf0
  v0 := Tryz.zeroValue0
  t3 := Tryz.underlying3
  a3 := Tryz.isAgg3
  z3 := Tryz.sizeOf3
  v3 := Tryz.zeroValue3
  t4 := Tryz.underlying4
  a4 := Tryz.isAgg4
  z4 := Tryz.sizeOf4
  v4 := Tryz.zeroValue4
  t5 := Tryz.underlying5
  a5 := Tryz.isAgg5
  z5 := Tryz.sizeOf5
  v5 := Tryz.zeroValue5
  t9 := Tryz.underlying9
  a9 := Tryz.isAgg9
  z9 := Tryz.sizeOf9
  v9 := Tryz.zeroValue9
  t22 := Tryz.underlying91
  a22 := Tryz.isAgg91
  z22 := Tryz.sizeOf91
  v22 := Tryz.zeroValue91
  t25 := Tryz.underlying120
  a25 := Tryz.isAgg120
  z25 := Tryz.sizeOf120
  v25 := Tryz.zeroValue120
  t39 := Tryz.underlying128
  a39 := Tryz.isAgg128
  z39 := Tryz.sizeOf128
  v39 := Tryz.zeroValue128
  t45 := Tryz.underlying142
  a45 := Tryz.isAgg142
  z45 := Tryz.sizeOf142
  v45 := Tryz.zeroValue142
  t46 := Tryz.underlying143
  a46 := Tryz.isAgg143
  z46 := Tryz.sizeOf143
  v46 := Tryz.zeroValue143
  t50 := Tryz.underlying147
  a50 := Tryz.isAgg147
  z50 := Tryz.sizeOf147
  v50 := Tryz.zeroValue147
  t53 := Tryz.underlying150
  a53 := Tryz.isAgg150
  z53 := Tryz.sizeOf150
  v53 := Tryz.zeroValue150
  t55 := Tryz.underlying152
  a55 := Tryz.isAgg152
  z55 := Tryz.sizeOf152
  v55 := Tryz.zeroValue152
  t66 := Tryz.underlying164
  a66 := Tryz.isAgg164
  z66 := Tryz.sizeOf164
  v66 := Tryz.zeroValue164
  t70 := Tryz.underlying168
  a70 := Tryz.isAgg168
  z70 := Tryz.sizeOf168
  v70 := Tryz.zeroValue168
  t76 := Tryz.underlying176
  a76 := Tryz.isAgg176
  z76 := Tryz.sizeOf176
  v76 := Tryz.zeroValue176
  t77 := Tryz.underlying177
  a77 := Tryz.isAgg177
  z77 := Tryz.sizeOf177
  v77 := Tryz.zeroValue177

instance : Inhabited SitD := ⟨⟨0, 0, 0⟩⟩

def sitC (s : SitD) : List Value := [.int .i64 s.ses, .int .i64 s.tmo, .int .i64 s.turn]
def cfI (x y : Int) : Int := if x < y then -1 else 1
def sortI (ks : List Int) : List Int := ks.mergeSort fun x y => !(ltOf cfI) y x

theorem ltOf_cfI (x y : Int) : ltOf cfI x y = decide (x < y) := by
  unfold ltOf cfI
  by_cases h : x < y <;> simp [h]

theorem swo_cfI : SWO (ltOf cfI) := ⟨fun x => by simp [ltOf_cfI], fun x y z h1 h2 => by
  simp only [ltOf_cfI, decide_eq_true_eq] at *; omega, fun x y z h1 h2 => by
  simp only [ltOf_cfI, decide_eq_false_iff_not] at *; omega⟩

theorem sortI_eq (ks : List Int) : sortI ks = ks.mergeSort fun x y => decide (x ≤ y) := by
  unfold sortI
  congr 1
  funext x y
  rw [ltOf_cfI]
  by_cases h : y < x
  · have h2 : ¬ x ≤ y := by omega
    simp [h, h2]
  · have h2 : x ≤ y := by omega
    simp [h, h2]

theorem sortI_length (ks : List Int) : (sortI ks).length = ks.length := List.length_mergeSort _

theorem sortI_perm (ks : List Int) : (sortI ks).Perm ks := List.mergeSort_perm _ _

set_option maxHeartbeats 1000000 in
/-- The closure: which session is less. -/
theorem cmpSit (x y : SitD) (W : World) : Calls Tryz.prog 58 #[.agg (sitC x).toArray, .agg (sitC y).toArray] W fun e w' => e = .returned (.int .i64 (cfI x.ses y.ses)) ∧ ∃ q os', w' = grow (W.drewN q) os' := by
  obtain ⟨a, b, c⟩ := x
  obtain ⟨a', b', c'⟩ := y
  simp only [sitC]
  by_cases h : a < a'
  · have hc : cfI a a' = -1 := if_pos h
    rw [hc]
    go_enter Tryz.func58, Tryz.ntmps58
    go_wp2
    go_ret
    exact ⟨rfl, 0, _, by rw [alloc_eq_grow, alloc_eq_grow, grow_grow]; rfl⟩
  · have hc : cfI a a' = 1 := if_neg h
    rw [hc]
    go_enter Tryz.func58, Tryz.ntmps58
    go_wp2
    go_ret
    exact ⟨rfl, 0, _, by rw [alloc_eq_grow, alloc_eq_grow, grow_grow]; rfl⟩

def cmpV : Value := .func (.func 58) #[] #[]

/-- A row of sittings is sorted by session where it lies. -/
def sortSitS : FSpec := ⟨Nat × (Int → SitD) × List Int, fun g vs A => (∀ s, (g.2.1 s).ses = s) ∧ ((g.2.2 = [] ∧ ∃ p cap, vs = [.slice p 0 cap, cmpV]) ∨
    (g.2.2 ≠ [] ∧ g.2.2.length < 4611686018427387904 ∧ A.Room g.1 0 (g.2.2.length * 3) ∧ A.rd g.1 0 (g.2.2.length * 3) = some (g.2.2.flatMap fun s => sitC (g.2.1 s)) ∧ ∃ cap, vs = [.slice (some ⟨g.1, 0, none⟩) g.2.2.length cap, cmpV])),
  fun g _ A _ A' => (g.2.2 = [] → A' = A) ∧ (g.2.2 ≠ [] → A.Put A' g.1 0 ((sortI g.2.2).flatMap fun s => sitC (g.2.1 s)))⟩

theorem sortSit_ok : FOk Tryz.prog 57 sortSitS := by
  intro ⟨g, gf, ks⟩ vs A w hA hp
  refine goes_of_calls Tryz.func57 ⟨by kernel_rfl, by kernel_rfl⟩ ?_
  obtain ⟨hs, hp⟩ := hp
  rcases hp with ⟨h0, p, cap, rfl⟩ | ⟨h0, hlt, ⟨c, t, fz, hb, hle, hfz⟩, hr, cap, rfl⟩
  · intro cs
    obtain ⟨e, w', fr, ⟨k1, k2⟩, k3⟩ := AnyF.slices_SortFunc_none sfLays p cap cmpV w cs
    subst k2
    exact ⟨e, w', fr, ⟨_, k1, A, ⟨fun _ => rfl, fun h => absurd h0 h⟩, rfl, rfl, rfl, fun _ _ _ => rfl, hA, fun k o ho => .inl ⟨o, ho⟩⟩, k3⟩
  · dsimp only at hs h0 hlt hle hr hb hfz
    have hw := hA _ _ hb
    have hsz : g < w.heap.size := (Array.getElem?_eq_some_iff.1 hw).1
    have hk3 : ∀ x : Int, (sitC (gf x)).length = 3 := fun _ => rfl
    have hfl := flatK_list (fun s => sitC (gf s)) 3 hk3 (by omega) ks
    have hfs : (flatK (fun s => sitC (gf s)) 3 ks.toArray).size = ks.length * 3 := by rw [size_flatK]; simp
    have hH : HoldsK (fun s => sitC (gf s)) 3 w g 0 ks.toArray := fun j hj => by
      have hj' : j < ks.length * 3 := by rw [hfs] at hj; exact hj
      constructor
      · have hr' : (c.toList.drop 0).take (ks.length * 3) = ks.flatMap fun s => sitC (gf s) := by
          rw [A.rdeq] at hr
          unfold rdOf at hr
          rw [hb] at hr
          simp only at hr
          rw [if_pos (by omega)] at hr
          injection hr
        have h3 : ((c.toList.drop 0).take (ks.length * 3))[j]? = (flatK (fun s => sitC (gf s)) 3 ks.toArray).toList[j]? := by rw [hr', hfl]
        rw [List.drop_zero, List.getElem?_take, if_pos hj'] at h3
        unfold World.cell?
        rw [hw]
        simp only [Option.isSome_none, Bool.false_eq_true, if_false, Nat.zero_add]
        rw [← Array.getElem?_toList, h3, Array.getElem?_toList, Array.getElem?_eq_getElem hj, getElem!_pos (flatK (fun s => sitC (gf s)) 3 ks.toArray) j hj]
        rfl
      · unfold World.frozen?
        rw [hw]
        have h9 := hfz.not (0 + j) (by omega)
        obtain ⟨lo, hi⟩ := fz
        dsimp only at h9 ⊢
        rw [← Bool.decide_and]
        exact decide_eq_false h9
    intro cs
    have hcon := AnyQ.slices_SortFunc_total sfLays 3 Tryz.isAgg96 Tryz.sizeOf96 (fun s => sitC (gf s)) hk3 (fun x v hv => by
      simp only [sitC, List.mem_cons, List.not_mem_nil, or_false] at hv
      rcases hv with rfl | rfl | rfl <;> rfl) cfI swo_cfI 58 #[] g 0 cap ks.toArray w
      (enters_of Tryz.func58 (by kernel_rfl) rfl)
      (fun m os dk _ x y => by
        have := cmpSit (gf x) (gf y) (sortWorldK (fun s => sitC (gf s)) 3 w g 0 m dk os)
        rw [hs, hs] at this
        exact this) hH hsz (by simpa using hlt) (fun x y h1 h2 => by
        simp only [ltOf_cfI, decide_eq_false_iff_not] at h1 h2
        omega)
    rw [List.size_toArray] at hcon
    obtain ⟨e, w', fr, ⟨k1, n, os, k2⟩, k3⟩ := hcon cs
    have k2 : w' = grow (putRow id (Sort.ahead w n) g 0 (flatK (fun s => sitC (gf s)) 3 (sortI ks).toArray)) os := k2
    obtain ⟨A', hP, hM⟩ := put_moves id hA hb (by rw [size_flatK, List.size_toArray, sortI_length]; omega) k2
    rw [List.map_id, flatK_list (fun s => sitC (gf s)) 3 hk3 (by omega)] at hP
    exact ⟨e, w', fr, ⟨_, k1, A', ⟨fun h => absurd h h0, fun _ => hP⟩, hM⟩, k3⟩

end
end Go.Proofs.YtfpfjobknefedaaGreatDoor

namespace Go.Sx
noncomputable section

theorem nodup_sub_len {α : Type} : ∀ {l k : List α}, l.Nodup → (∀ x ∈ l, x ∈ k) → l.length ≤ k.length
  | [], _, _, _ => Nat.zero_le _
  | x :: xs, k, hn, hs => by
    rw [List.nodup_cons] at hn
    obtain ⟨a, b, rfl⟩ := List.append_of_mem (hs x (by simp))
    have := nodup_sub_len (k := a ++ b) hn.2 fun y hy => (by
      have := hs y (List.mem_cons_of_mem _ hy)
      simp only [List.mem_append, List.mem_cons] at this ⊢
      rcases this with h | rfl | h
      · exact .inl h
      · exact absurd hy hn.1
      · exact .inr h)
    simp only [List.length_append, List.length_cons] at this ⊢
    omega

theorem keys_nodup {κ α : Type} {l : List (κ × α)} (h : (l.map (·.1)).Nodup) : l.Nodup :=
  (List.pairwise_map.1 h).imp fun hab e => hab (by rw [e])

/-- A walk over the map in block m, whose entries are l: those of sk were met. -/
structure MWalk {κ α : Type} (kv : κ → Value) (f : α → Value) (A A1 As : Arena) (i m : Nat) (l sk : List (κ × α)) : Prop where
  old : A.Sub As
  dom : ∀ k, As.blk k = none → A1.blk k = none
  it : IterAt As i m (l.map fun e => (kv e.1, f e.2)) (sk.map fun e => kv e.1)
  nd : (sk.map (·.1)).Nodup
  mem : ∀ e ∈ sk, e ∈ l
  fresh : A.blk i = none
  sub1 : A.Sub A1
  iex : ∃ o, A1.blk i = some o
  mex : ∃ o, A1.blk m = some o

section
variable {κ α : Type} {kv : κ → Value} {f : α → Value} {A A1 As A' : Arena} {i m : Nat} {l sk : List (κ × α)}

theorem MWalk.start (hi : A.blk i = none) (hA1 : ∀ k, k ≠ i → A1.blk k = A.blk k) (hI : IterAt A1 i m (l.map fun e => (kv e.1, f e.2)) []) : MWalk kv f A A1 A1 i m l [] where
  old := fun k o hk => by rw [hA1 k fun e => by subst e; rw [hi] at hk; cases hk]; exact hk
  dom := fun _ h => h
  it := hI
  nd := List.nodup_nil
  mem := fun _ h => by cases h
  fresh := hi
  sub1 := fun k o hk => by rw [hA1 k fun e => by subst e; rw [hi] at hk; cases hk]; exact hk
  iex := by
    obtain ⟨es, clock, seen, h1, h2, h3, h4, h5, h6, h7⟩ := hI
    exact ⟨_, h6⟩
  mex := by
    obtain ⟨es, clock, seen, h1, h2, h3, h4, h5, h6, h7⟩ := hI
    exact ⟨_, h1⟩

/-- A walk over a map of an elder part of memory. -/
theorem MWalk.start' {C : Arena} (hCA : C.Sub A) (hm : ∃ o, C.blk m = some o) (hi : A.blk i = none) (hA1 : ∀ k, k ≠ i → A1.blk k = A.blk k) (hI : IterAt A1 i m (l.map fun e => (kv e.1, f e.2)) []) :
    MWalk kv f C (Arena.of fun k => if k = i then A1.blk k else C.blk k) A1 i m l [] := by
  have hiC : C.blk i = none := by
    cases h : C.blk i with
    | none => rfl
    | some o => have := hCA _ _ h; rw [hi] at this; cases this
  have hold : C.Sub A1 := fun k o hk => by
    rw [hA1 k fun e => by subst e; rw [hiC] at hk; cases hk]; exact hCA k o hk
  refine ⟨hold, fun k hk => ?_, hI, List.nodup_nil, fun _ h => (by cases h), hiC, fun k o hk => ?_, ?_, ?_⟩
  · show (if k = i then A1.blk k else C.blk k) = none
    by_cases e : k = i
    · rw [if_pos e]; exact hk
    · rw [if_neg e]
      cases h : C.blk k with
      | none => rfl
      | some o => have := hold _ _ h; rw [hk] at this; cases this
  · show (if k = i then A1.blk k else C.blk k) = some o
    rw [if_neg fun e => by subst e; rw [hiC] at hk; cases hk]; exact hk
  · obtain ⟨es, clock, seen, h1, h2, h3, h4, h5, h6, h7⟩ := hI
    exact ⟨_, (if_pos rfl).trans h6⟩
  · obtain ⟨o, ho⟩ := hm
    exact ⟨o, (if_neg fun e => by subst e; rw [hiC] at ho; cases ho).trans ho⟩

theorem MWalk.dom1 (h : MWalk kv f A A1 As i m l sk) : ∀ k, As.blk k = none → A.blk k = none := fun k hk => by
  cases hA : A.blk k with
  | none => rfl
  | some o => rw [h.old k o hA] at hk; cases hk

theorem MWalk.im (h : MWalk kv f A A1 As i m l sk) (hm : ∃ o, A.blk m = some o) : i ≠ m := fun e => by
  obtain ⟨o, ho⟩ := hm
  rw [← e, h.fresh] at ho; cases ho

/-- The next one. -/
theorem MWalk.next (h : MWalk kv f A A1 As i m l sk) {e : Value × Value} (he : e ∈ l.map fun e => (kv e.1, f e.2)) (hn : e.1 ∉ sk.map fun e => kv e.1)
    (hA2 : ∀ b, b ≠ i → A'.blk b = As.blk b) (hI2 : IterAt A' i m (l.map fun e => (kv e.1, f e.2)) ((sk.map fun e => kv e.1) ++ [e.1])) :
    ∃ x ∈ l, e = (kv x.1, f x.2) ∧ x.1 ∉ sk.map (·.1) ∧ MWalk kv f A A1 A' i m l (sk ++ [x]) ∧ sk.length < l.length := by
  obtain ⟨x, hx, rfl⟩ := List.mem_map.1 he
  have hns : x.1 ∉ sk.map (·.1) := fun hh => by
    obtain ⟨y, hy, e⟩ := List.mem_map.1 hh
    exact hn (List.mem_map.2 ⟨y, hy, by rw [e]⟩)
  have hnd : ((sk ++ [x]).map (·.1)).Nodup := by
    rw [List.map_append]
    refine List.nodup_append.2 ⟨h.nd, by simp, fun a ha b hb => ?_⟩
    simp only [List.map_cons, List.map_nil, List.mem_singleton] at hb
    subst hb
    exact fun e => hns (e ▸ ha)
  have hmem : ∀ e ∈ sk ++ [x], e ∈ l := fun e he => by
    rcases List.mem_append.1 he with he | he
    · exact h.mem e he
    · simp only [List.mem_singleton] at he; subst he; exact hx
  have hlen := nodup_sub_len (keys_nodup hnd) hmem
  rw [List.length_append, List.length_singleton] at hlen
  refine ⟨x, hx, rfl, hns, { h with old := fun k o hk => ?_, dom := fun k hk => ?_, it := ?_, nd := hnd, mem := hmem }, by omega⟩
  · rw [hA2 k fun e => by subst e; rw [h.fresh] at hk; cases hk]; exact h.old k o hk
  · by_cases e : k = i
    · subst e
      obtain ⟨es, clock, seen, h1, h2, h3, h4, h5, h6, h7⟩ := hI2
      rw [h6] at hk; cases hk
    · rw [hA2 k e] at hk; exact h.dom k hk
  · rw [List.map_append]; exact hI2

theorem MWalk.more (h : MWalk kv f A A1 As i m l sk) (hk : ∀ k o, A1.blk k = some o → A'.blk k = As.blk k) : MWalk kv f A A1 A' i m l sk :=
  { h with
    old := fun k o ho => by rw [hk k o (h.sub1 k o ho)]; exact h.old k o ho
    dom := fun k hn => by
      cases h1 : A1.blk k with
      | none => rfl
      | some o => rw [hk k o h1] at hn; rw [h.dom k hn] at h1; cases h1
    it := h.it.sub fun b o hb ho => by
      rcases hb with rfl | rfl
      · rw [hk _ _ h.iex.choose_spec]; exact ho
      · rw [hk _ _ h.mex.choose_spec]; exact ho }

theorem MWalk.sub (h : MWalk kv f A A1 As i m l sk) (hs : As.Sub A') : MWalk kv f A A1 A' i m l sk :=
  { h with
    old := h.old.trans hs
    dom := fun k hk => h.dom k (by
      cases h8 : As.blk k with
      | none => rfl
      | some o => rw [hs k o h8] at hk; cases hk)
    it := h.it.sub fun b o _ hb => hs b o hb }

/-- All was met. -/
theorem MWalk.done (h : MWalk kv f A A1 As i m l sk) (inj : ∀ a b, kv a = kv b → a = b) (hl : (l.map (·.1)).Nodup) (hall : ∀ e ∈ l.map fun e => (kv e.1, f e.2), e.1 ∈ sk.map fun e => kv e.1) : sk.Perm l := by
  refine (List.perm_ext_iff_of_nodup (keys_nodup h.nd) (keys_nodup hl)).2 fun x => ⟨h.mem x, fun hx => ?_⟩
  obtain ⟨y, hy, e⟩ := List.mem_map.1 (hall _ (List.mem_map.2 ⟨x, hx, rfl⟩))
  have e1 : y.1 = x.1 := inj _ _ e
  have hyl := h.mem y hy
  have : y = x := by
    obtain ⟨a, b, rfl⟩ := List.append_of_mem hx
    rw [List.map_append, List.map_cons] at hl
    obtain ⟨_, h2, h3⟩ := List.nodup_append.1 hl
    rw [List.nodup_cons] at h2
    rcases List.mem_append.1 hyl with h4 | h4
    · exact absurd e1 (h3 _ (List.mem_map.2 ⟨y, h4, rfl⟩) _ (by simp))
    · rcases List.mem_cons.1 h4 with h4 | h4
      · exact h4
      · exact absurd (List.mem_map.2 ⟨y, h4, e1⟩) h2.1
  exact this ▸ hy

theorem MWalk.le (h : MWalk kv f A A1 As i m l sk) : sk.length ≤ l.length := nodup_sub_len (keys_nodup h.nd) h.mem

/-- The walk may begin. -/
theorem walk_nodup (inj : ∀ a b, kv a = kv b → a = b) (hl : (l.map (·.1)).Nodup) : ((l.map fun e => (kv e.1, f e.2)).map (·.1)).Nodup := by
  rw [List.map_map]
  refine List.pairwise_map.2 ((List.pairwise_map.1 hl).imp fun hab e => hab (inj _ _ e))

end

end
end Go.Sx

namespace Go.Proofs.YtfpfjobknefedaaGreatDoor
open Go.Sx Go.RowKit
noncomputable section
open Classical

def SeatsOk (T : TreeD) : Prop := ∀ e ∈ T.seats, e.2.ses = e.1

def sitOf (l : List (Int × SitD)) (s : Int) : SitD := match kGet s l with
  | some x => if x.ses = s then x else ⟨s, 0, 0⟩
  | none => ⟨s, 0, 0⟩

theorem sitOf_ses (l : List (Int × SitD)) (s : Int) : (sitOf l s).ses = s := by
  unfold sitOf
  split
  · split
    · assumption
    · rfl
  · rfl

def treeSits (T : TreeD) : List SitD := (sortI (T.seats.map (·.1))).map (sitOf T.seats)

theorem kGet_of_mem {κ α : Type} [BEq κ] (hr : ∀ q : κ, (q == q) = true) (hq : ∀ p q : κ, (p == q) = true → q = p) {p : κ} {x : α} : ∀ {l : List (κ × α)}, (l.map (·.1)).Nodup → (p, x) ∈ l → kGet p l = some x
  | [], _, h => by cases h
  | (q, y) :: l, hn, h => by
    rw [List.map_cons, List.nodup_cons] at hn
    simp only [kGet]
    rcases List.mem_cons.1 h with h | h
    · injection h with h1 h2
      subst h1; subst h2
      rw [hr]; rfl
    · cases hb : p == q with
      | false => exact kGet_of_mem hr hq hn.2 h
      | true =>
        have e := hq _ _ hb
        subst e
        exact absurd (List.mem_map.2 ⟨_, h, rfl⟩) hn.1

theorem sitOf_mem {l : List (Int × SitD)} (hn : (l.map (·.1)).Nodup) (hs : ∀ e ∈ l, e.2.ses = e.1) {e : Int × SitD} (he : e ∈ l) : sitOf l e.1 = e.2 := by
  unfold sitOf
  rw [kGet_of_mem (fun q => by simp) int_key hn (show (e.1, e.2) ∈ l from he)]
  exact if_pos (hs e he)

theorem sortI_of_perm {l l' : List Int} (h : l.Perm l') : sortI l = sortI l' := by
  rw [sortI_eq, sortI_eq]
  exact mergeSort_of_perm_i h

structure SG where
  A : Arena
  sk : List (Int × SitD)
  v : Value

theorem flatMap_eq {α β : Type} {f g : α → List β} : ∀ {l : List α}, (∀ e ∈ l, f e = g e) → l.flatMap f = l.flatMap g
  | [], _ => rfl
  | x :: l, h => by rw [List.flatMap_cons, List.flatMap_cons, h x (by simp), flatMap_eq fun e he => h e (List.mem_cons_of_mem _ he)]

abbrev intV (k : Int) : Value := .int .i64 k

def sitsInv (A0 A1 : Arena) (i m : Nat) (l : List (Int × SitD)) : LInv :=
  { γ := SG, G := fun g => MWalk intV sitV A0 A1 g.A i m l g.sk ∧ GrowR A1 g.A 3 96 g.sk.length g.v (g.sk.flatMap fun e => sitC e.2),
    keepS := [13], keepB := [], sl := fun g => [(3, .v g.v)], bl := fun _ => [], ar := fun g => g.A, mu := fun g => l.length - g.sk.length }

def sittingsS : FSpec := ⟨TG, fun g vs A => vs = [.pointer (some ⟨g.t, 0, none⟩)] ∧ TreeAt A g.B g.O g.t g.T ∧ SeatsOk g.T ∧ g.T.seats.length ≤ 1000000,
  fun g _ A v A' => A.Sub A' ∧ Sl (A'.minus A) 3 (treeSits g.T).length v ((treeSits g.T).flatMap sitC)⟩

set_option maxRecDepth 100000 in
set_option maxHeartbeats 0 in
theorem sittings_ok : FOk Tryz.prog 32 sittingsS := by
  refine fok_v mixed fun ⟨T, B, O, t⟩ vs A hp => ?_
  obtain ⟨rfl, ⟨m, s, E, h⟩, hok, hlen⟩ : vs = [.pointer (some ⟨t, 0, none⟩)] ∧ TreeAt A B O t T ∧ SeatsOk T ∧ T.seats.length ≤ 1000000 := hp
  have hCt : CTSound Tryz.prog (lookC [specE 57 sortSitS] noC) := lookC_sound (noC_sound _) (fun x hx => by
    simp only [List.mem_singleton] at hx
    subst hx; exact specE_ok sortSit_ok)
  refine ⟨_, tabO Tryz.prog _ noL 60 [(32, 0)], 60, hCt, tabO_sound mixed hCt (noL_sound _) _ _, fun blk os out tape D hD => ?_⟩
  have htop0 : A.rd t 0 1 = some [.map (some m)] := h.top.rd (o := 0) (n := 1) (by show 0 + 1 ≤ 2; omega)
  have htop : A.rd t 1 1 = some [.map (some s)] := h.top.rd (o := 1) (n := 1) (by show 1 + 1 ≤ 2; omega)
  conv => lhs; whnf
  repeat (first | refine go_rd htop0 ?_ | refine go_rd htop ?_ | refine go_D hD rfl ?_
          conv => lhs; whnf)
  have hnd := walk_nodup (kv := intV) (f := sitV) (fun a b e => by injection e) h.skeys
  refine (hD _).2 ⟨_, h.smap, hnd, fun i A1 hi hA1 hI => ?_⟩
  have hM1 : MWalk intV sitV A A1 A1 i s T.seats [] := MWalk.start hi hA1 hI
  conv => lhs; whnf
  refine (hD _).2 ⟨sitsInv A A1 i s T.seats, ⟨(⟨A1, [], .slice none 0 0⟩ : SG), ⟨hM1, GrowR.nil _ _ _ _⟩, ⟨rfl, trivial⟩, trivial, rfl⟩, fun (sg : SG) hG => ⟨⟨trivial, trivial⟩, trivial, ?_⟩⟩
  obtain ⟨As, sk, v0⟩ := sg
  obtain ⟨hM, hGs⟩ : MWalk intV sitV A A1 As i s T.seats sk ∧ GrowR A1 As 3 96 sk.length v0 (sk.flatMap fun e : Int × SitD => sitC e.2) := hG
  have hle := hM.le
  conv => lhs; whnf
  refine (hD _).2 (.inl ⟨s, _, _, hM.it, fun e he hn A2 hA2 hI2 hent => ?_, fun hall => ?_⟩)
  · obtain ⟨⟨k, ⟨a, b, c⟩⟩, hx, rfl, hns, hM2, hlt⟩ := hM.next he hn hA2 hI2
    have hent : A2.ent i = some (.tuple #[.int .i64 k, .agg #[.int .i64 a, .int .i64 b, .int .i64 c]]) := hent
    have hG2 := hGs.keep (A' := A2) fun q hq => hA2 q fun e => by subst e; rw [hM.iex.choose_spec] at hq; cases hq
    conv => lhs; whnf
    split
    rotate_left
    · rename_i hv
      exact absurd (hent.symm.trans hv) (by simp)
    rename_i v hv
    obtain rfl := Option.some.inj (hent.symm.trans hv)
    conv => lhs; whnf
    refine (hD _).2 fun gb A7 hN => ?_
    have hN : A2.New A7 gb #[.int .i64 a, .int .i64 b, .int .i64 c] 96 := hN
    have hM7 := hM2.sub hN.sub
    have hG7 := hG2.sub hN.sub
    obtain ⟨base, cp, rfl, hbase, hP, hA⟩ := hG7.form
    have hP := hP 24 (by omega) (by omega)
    have hrow : A7.rd gb 0 (1 * 3) = some [.int .i64 a, .int .i64 b, .int .i64 c] := hN.rd (o := 0) (n := 1 * 3) (by show 0 + 1 * 3 ≤ 3; omega)
    rcases hbase with rfl | ⟨g0, rfl⟩ <;> (conv => lhs; whnf)
    all_goals
      refine (hD _).2 ⟨sk.flatMap fun e : Int × SitD => sitC e.2, [.int .i64 a, .int .i64 b, .int .i64 c], hP.rd, ?_, rfl, ?_, ?_, hP.cap, rfl, hP.none_, fun g' o' he' hle' _ => hP.room 3 rfl g' o' he' hle', fun v A6 hAp => ?_⟩
      · show (if 1 * 3 = 0 then some [] else A7.rd gb 0 (1 * 3)) = _
        rw [if_neg (by omega)]; exact hrow
      · intro v hv
        simp only [List.mem_cons, List.not_mem_nil, or_false] at hv
        rcases hv with rfl | rfl | rfl <;> rfl
      · show sk.length + 1 ≤ 9223372036854775807
        omega
      · obtain ⟨hG6, hk6⟩ := hA _ _ _ rfl hM7.dom hAp
        have hM6 := hM7.more hk6
        have hmu : T.seats.length - (sk ++ [(k, (⟨a, b, c⟩ : SitD))]).length < T.seats.length - sk.length := by rw [List.length_append, List.length_singleton]; omega
        have hg6 : (sitsInv A A1 i s T.seats).G (⟨A6, sk ++ [(k, (⟨a, b, c⟩ : SitD))], v⟩ : SG) := ⟨hM6, by
          show GrowR A1 A6 3 96 (sk ++ [(k, (⟨a, b, c⟩ : SitD))]).length v ((sk ++ [(k, (⟨a, b, c⟩ : SitD))]).flatMap fun e => sitC e.2)
          rw [List.length_append, List.flatMap_append]; exact hG6⟩
        conv => lhs; whnf
        exact (hD _).2 ⟨(⟨A6, sk ++ [(k, (⟨a, b, c⟩ : SitD))], v⟩ : SG), ⟨hg6, ⟨rfl, trivial⟩, trivial, rfl⟩, hmu, ⟨rfl, trivial⟩, trivial⟩
  · have hperm := hM.done (fun a b e => by injection e) h.skeys hall
    have hkeys : sortI (sk.map (·.1)) = sortI (T.seats.map (·.1)) := sortI_of_perm (hperm.map _)
    have hrows : ∀ l : List (Int × SitD), (∀ e ∈ l, e ∈ T.seats) → l.flatMap (fun e => sitC e.2) = (l.map (·.1)).flatMap fun k => sitC (sitOf T.seats k) := fun l hl => by
      rw [List.flatMap_map]
      refine flatMap_eq fun e he => ?_
      rw [sitOf_mem h.skeys hok (hl e he)]
    have hsk := hrows sk hM.mem
    have hlk : (sk.map (·.1)).length = sk.length := List.length_map _
    have hlT : (treeSits T).length = sk.length := by
      rw [treeSits, List.length_map, ← hkeys, sortI_length, hlk]
    have hend : ∀ x A5, A.Sub A5 → Sl (A5.minus A) 3 sk.length x ((sortI (sk.map (·.1))).flatMap fun k => sitC (sitOf T.seats k)) → sittingsS.post ⟨T, B, O, t⟩ [.pointer (some ⟨t, 0, none⟩)] A x A5 := fun x A5 h5 hS => by
      refine ⟨h5, ?_⟩
      show Sl _ 3 (treeSits T).length x ((treeSits T).flatMap sitC)
      rw [hlT, treeSits, List.flatMap_map, ← hkeys]
      exact hS
    obtain ⟨hl0, ⟨h0, rfl⟩ | ⟨g0, nc, c, rfl, hle0, hpos0, hg0, hb0, hs0, ht0⟩⟩ := hGs
    · have hk0 : sk.map (·.1) = [] := List.length_eq_zero_iff.1 (hlk.trans h0)
      rw [hk0] at hend
      conv => lhs; whnf
      refine (hD _).2 ⟨(0, sitOf T.seats, []), ⟨sitOf_ses _, .inl ⟨rfl, none, 0, rfl⟩⟩, fun v A5 hq => ?_⟩
      obtain rfl : A5 = As := hq.1 rfl
      have hend := hend (.slice none 0 0) A5 hM.old (by rw [h0]; show Sl _ 3 0 _ ((sortI []).flatMap _); rw [show sortI [] = [] from List.mergeSort_nil]; exact Sl.nil _ _)
      conv => lhs; whnf
      exact (hD _).2 hend
    · by_cases hk0 : sk = []
      · subst hk0
        conv => lhs; whnf
        refine (hD _).2 ⟨(0, sitOf T.seats, []), ⟨sitOf_ses _, .inl ⟨rfl, some ⟨g0, 0, none⟩, nc, rfl⟩⟩, fun v A5 hq => ?_⟩
        obtain rfl : A5 = As := hq.1 rfl
        have hend := hend (.slice (some ⟨g0, 0, none⟩) 0 nc) A5 hM.old (by show Sl _ 3 0 _ ((sortI []).flatMap _); rw [show sortI [] = [] from List.mergeSort_nil]; exact Sl.zero _ _ (fun h => (by cases h)) fun a ha _ => by injection ha with ha; subst ha; rfl)
        conv => lhs; whnf
        exact (hD _).2 hend
      · have hroom : As.Room g0 0 ((sk.map (·.1)).length * 3) := ⟨c, 96, (0, 0), hb0, by rw [hlk, hs0]; have := Nat.mul_le_mul_right 3 hle0; omega, .inl rfl⟩
        have hrd0 : As.rd g0 0 ((sk.map (·.1)).length * 3) = some ((sk.map (·.1)).flatMap fun k => sitC (sitOf T.seats k)) := by
          rw [rd_mk hb0 (by rw [hlk, hs0]; have := Nat.mul_le_mul_right 3 hle0; omega), List.drop_zero, hlk, ht0, hsk]
        have hne : sk.map (·.1) ≠ [] := fun e => hk0 (List.map_eq_nil_iff.1 e)
        have hpre : sortSitS.pre (g0, sitOf T.seats, sk.map (fun x : Int × SitD => x.1)) [.slice (some ⟨g0, 0, none⟩) sk.length nc, cmpV] As := by
          refine ⟨sitOf_ses _, .inr ⟨hne, ?_, hroom, hrd0, nc, ?_⟩⟩
          · show (sk.map (·.1)).length < _; omega
          · rw [← hlk]
        conv => lhs; whnf
        refine (hD _).2 ⟨(g0, sitOf T.seats, sk.map (fun x : Int × SitD => x.1)), hpre, fun v A5 hq => ?_⟩
        have hP5 : As.Put A5 g0 0 ((sortI (sk.map (·.1))).flatMap fun k => sitC (sitOf T.seats k)) := hq.2 hne
        have hAg : A.blk g0 = none := by
          cases hA : A.blk g0 with
          | none => rfl
          | some o => rw [hM.sub1 _ _ hA] at hg0; cases hg0
        have hA5 : A.Sub A5 := hP5.sub hM.old hAg
        have hsl : ((sortI (sk.map (·.1))).flatMap fun k => sitC (sitOf T.seats k)).length = sk.length * 3 := by
          have : ∀ l : List Int, (l.flatMap fun k => sitC (sitOf T.seats k)).length = l.length * 3 := fun l => by
            induction l with
            | nil => rfl
            | cons x l ih => rw [List.flatMap_cons, List.length_append, ih, List.length_cons, Nat.succ_mul]; show 3 + _ = _; omega
          rw [this, sortI_length, hlk]
        have hend := hend (.slice (some ⟨g0, 0, none⟩) sk.length nc) A5 hA5 (by
          refine Sl.row hle0 (rd_minus ?_ hAg)
          obtain ⟨c0, t0, fz0, c', k1, k2, k3⟩ := hP5.at_
          rw [hb0] at k1
          injection k1 with k1; injection k1 with k1 k1' k1''
          subst k1; subst k1'; subst k1''
          have h3 := Nat.mul_le_mul_right 3 hle0
          rw [rd_mk k2 (by
            rw [← Array.length_toList, k3]
            simp only [List.length_append, List.length_take, List.length_drop, hsl, Array.length_toList]
            omega), List.drop_zero, k3]
          simp [hsl])
        conv => lhs; whnf
        exact (hD _).2 hend


end
end Go.Proofs.YtfpfjobknefedaaGreatDoor

namespace Go.Proofs.YtfpfjobknefedaaGreatDoor
open Go.Sx Go.RowKit
noncomputable section
open Classical

def pathL (q : ByteArray) : List UInt8 := q.data.toList
def treePaths (T : TreeD) : List (List UInt8) := sortL (T.nodes.map fun e => pathL e.1)

theorem strV_pathL (q : ByteArray) : strV (pathL q) = .string q := by
  obtain ⟨⟨l⟩⟩ := q; rfl

abbrev strKy (p : ByteArray) : Value := .string p
abbrev nodPt (x : Nat × NodeD) : Value := ptrV x.1

structure PG where
  A : Arena
  sk : List (ByteArray × Nat × NodeD)
  v : Value

def pathsInv (A0 A1 : Arena) (i m : Nat) (l : List (ByteArray × Nat × NodeD)) : LInv :=
  { γ := PG, G := fun g => MWalk strKy nodPt A0 A1 g.A i m l g.sk ∧ GrowR A1 g.A 1 9 g.sk.length g.v (g.sk.map fun e => strV (pathL e.1)),
    keepS := [11], keepB := [], sl := fun g => [(3, .v g.v)], bl := fun _ => [], ar := fun g => g.A, mu := fun g => l.length - g.sk.length }

def pathsS : FSpec := ⟨TG, fun g vs A => vs = [.pointer (some ⟨g.t, 0, none⟩)] ∧ TreeAt A g.B g.O g.t g.T ∧ g.T.nodes.length ≤ 1000000,
  fun g _ A v A' => A.Sub A' ∧ Sl (A'.minus A) 1 (treePaths g.T).length v ((treePaths g.T).map strV)⟩

set_option maxRecDepth 100000 in
set_option maxHeartbeats 0 in
theorem paths_ok : FOk Tryz.prog 61 pathsS := by
  refine fok_v mixed fun ⟨T, B, O, t⟩ vs A hp => ?_
  obtain ⟨rfl, ⟨m, s, E, h⟩, hlen⟩ : vs = [.pointer (some ⟨t, 0, none⟩)] ∧ TreeAt A B O t T ∧ T.nodes.length ≤ 1000000 := hp
  have hlE : E.length ≤ 1000000 := by rw [h.nodes, kMap, List.length_map] at hlen; exact hlen
  have hCt : CTSound Tryz.prog (lookC [specE 44 sortS] noC) := lookC_sound (noC_sound _) (fun x hx => by
    simp only [List.mem_singleton] at hx
    subst hx; exact specE_ok sort_ok)
  refine ⟨_, tabO Tryz.prog _ noL 60 [(61, 0)], 60, hCt, tabO_sound mixed hCt (noL_sound _) _ _, fun blk os out tape D hD => ?_⟩
  have htop0 : A.rd t 0 1 = some [.map (some m)] := h.top.rd (o := 0) (n := 1) (by show 0 + 1 ≤ 2; omega)
  conv => lhs; whnf
  repeat (first | refine go_rd htop0 ?_ | refine go_D hD rfl ?_
          conv => lhs; whnf)
  have hLE : strL ptrV (kMap (·.1) E) = E.map fun e => (strKy e.1, nodPt e.2) := by simp [strL, kMap]
  have hnm := h.nmap
  rw [hLE] at hnm
  have hnd := walk_nodup (kv := strKy) (f := nodPt) (fun a b e => by injection e) h.keys
  refine (hD _).2 ⟨_, hnm, hnd, fun i A1 hi hA1 hI => ?_⟩
  have hM1 : MWalk strKy nodPt A A1 A1 i m E [] := MWalk.start hi hA1 hI
  conv => lhs; whnf
  refine (hD _).2 ⟨pathsInv A A1 i m E, ⟨(⟨A1, [], .slice none 0 0⟩ : PG), ⟨hM1, GrowR.nil _ _ _ _⟩, ⟨rfl, trivial⟩, trivial, rfl⟩, fun (sg : PG) hG => ⟨⟨trivial, trivial⟩, trivial, ?_⟩⟩
  obtain ⟨As, sk, v0⟩ := sg
  obtain ⟨hM, hGs⟩ : MWalk strKy nodPt A A1 As i m E sk ∧ GrowR A1 As 1 9 sk.length v0 (sk.map fun e : ByteArray × Nat × NodeD => strV (pathL e.1)) := hG
  have hle := hM.le
  conv => lhs; whnf
  refine (hD _).2 (.inl ⟨m, _, _, hM.it, fun e he hn A2 hA2 hI2 hent => ?_, fun hall => ?_⟩)
  · obtain ⟨⟨p, gn, n⟩, hx, rfl, hns, hM2, hlt⟩ := hM.next he hn hA2 hI2
    have hent : A2.ent i = some (.tuple #[.string p, .pointer (some ⟨gn, 0, none⟩)]) := hent
    have hG2 := hGs.keep (A' := A2) fun q hq => hA2 q fun e => by subst e; rw [hM.iex.choose_spec] at hq; cases hq
    conv => lhs; whnf
    split
    rotate_left
    · rename_i hv
      exact absurd (hent.symm.trans hv) (by simp)
    rename_i v hv
    obtain rfl := Option.some.inj (hent.symm.trans hv)
    conv => lhs; whnf
    refine (hD _).2 fun gb A7 hN => ?_
    have hN : A2.New A7 gb #[.string p] 9 := hN
    have hM7 := hM2.sub hN.sub
    have hG7 := hG2.sub hN.sub
    obtain ⟨base, cp, rfl, hbase, hP, hA⟩ := hG7.form
    have hP := hP 16 (by omega) (by omega)
    have hrow : A7.rd gb 0 (1 * 1) = some [.string p] := hN.rd (o := 0) (n := 1 * 1) (by show 0 + 1 * 1 ≤ 1; omega)
    rcases hbase with rfl | ⟨g0, rfl⟩ <;> (conv => lhs; whnf)
    all_goals
      refine (hD _).2 ⟨sk.map fun e : ByteArray × Nat × NodeD => strV (pathL e.1), [.string p], hP.rd, ?_, rfl, ?_, ?_, hP.cap, rfl, hP.none_, fun g' o' he' hle' _ => hP.room 1 rfl g' o' he' hle', fun v A6 hAp => ?_⟩
      · show (if 1 * 1 = 0 then some [] else A7.rd gb 0 (1 * 1)) = _
        rw [if_neg (by omega)]; exact hrow
      · intro v hv
        simp only [List.mem_cons, List.not_mem_nil, or_false] at hv
        subst hv; rfl
      · show sk.length + 1 ≤ 9223372036854775807
        omega
      · obtain ⟨hG6, hk6⟩ := hA _ _ _ rfl hM7.dom hAp
        have hM6 := hM7.more hk6
        have hmu : E.length - (sk ++ [(p, gn, n)]).length < E.length - sk.length := by rw [List.length_append, List.length_singleton]; omega
        have hg6 : (pathsInv A A1 i m E).G (⟨A6, sk ++ [(p, gn, n)], v⟩ : PG) := ⟨hM6, by
          show GrowR A1 A6 1 9 (sk ++ [(p, gn, n)]).length v ((sk ++ [(p, gn, n)]).map fun e => strV (pathL e.1))
          rw [List.length_append, List.map_append, List.map_singleton, strV_pathL]; exact hG6⟩
        conv => lhs; whnf
        exact (hD _).2 ⟨(⟨A6, sk ++ [(p, gn, n)], v⟩ : PG), ⟨hg6, ⟨rfl, trivial⟩, trivial, rfl⟩, hmu, ⟨rfl, trivial⟩, trivial⟩
  · have hperm := hM.done (fun a b e => by injection e) h.keys hall
    obtain ⟨ps, hps⟩ : ∃ ps : List (List UInt8), ps = sk.map fun e : ByteArray × Nat × NodeD => pathL e.1 := ⟨_, rfl⟩
    have hsort : sortL ps = treePaths T := by
      rw [hps, treePaths, h.nodes, kMap, List.map_map]
      exact mergeSort_of_perm (hperm.map _)
    have hpl : ps.length = sk.length := by rw [hps, List.length_map]
    have hpv : (sk.map fun e : ByteArray × Nat × NodeD => strV (pathL e.1)) = ps.map strV := by rw [hps, List.map_map]; rfl
    rw [hpv] at hGs
    have hend : ∀ x A5, A.Sub A5 → Sl (A5.minus A) 1 ps.length x ((sortL ps).map strV) → pathsS.post ⟨T, B, O, t⟩ [.pointer (some ⟨t, 0, none⟩)] A x A5 := fun x A5 h5 hS => by
      refine ⟨h5, ?_⟩
      show Sl _ 1 (treePaths T).length x ((treePaths T).map strV)
      rw [← hsort, sortL_length]
      exact hS
    have hold := hM.old
    have hsub1 := hM.sub1
    rw [← hpl] at hGs
    clear hpv hps
    obtain ⟨hl0, ⟨h0, rfl⟩ | ⟨g0, nc, c, rfl, hle0, hpos0, hg0, hb0, hs0, ht0⟩⟩ := hGs
    · obtain rfl : ps = [] := List.length_eq_zero_iff.1 h0
      conv => lhs; whnf
      refine (hD _).2 ⟨(0, []), .inl ⟨rfl, none, 0, rfl⟩, fun v A5 hq => ?_⟩
      obtain rfl : A5 = As := hq.1 rfl
      have hend := hend (.slice none 0 0) A5 hold (by show Sl _ 1 0 _ ((sortL []).map strV); rw [show sortL [] = [] from List.mergeSort_nil]; exact Sl.nil _ _)
      conv => lhs; whnf
      exact (hD _).2 hend
    · by_cases hk0 : ps = []
      · subst hk0
        conv => lhs; whnf
        refine (hD _).2 ⟨(0, []), .inl ⟨rfl, some ⟨g0, 0, none⟩, nc, rfl⟩, fun v A5 hq => ?_⟩
        obtain rfl : A5 = As := hq.1 rfl
        have hend := hend (.slice (some ⟨g0, 0, none⟩) 0 nc) A5 hold (by show Sl _ 1 0 _ ((sortL []).map strV); rw [show sortL [] = [] from List.mergeSort_nil]; exact Sl.zero _ _ (fun h => (by cases h)) fun a ha _ => by injection ha with ha; subst ha; rfl)
        conv => lhs; whnf
        exact (hD _).2 hend
      · have hroom : As.Room g0 0 ps.length := ⟨c, 9, (0, 0), hb0, by omega, .inl rfl⟩
        have hrd0 : As.rd g0 0 ps.length = some (ps.map strV) := by
          rw [rd_mk hb0 (by omega), List.drop_zero]
          rw [Nat.mul_one] at ht0; rw [ht0]
        have hlt : ps.length < 4611686018427387904 := by omega
        have hpre : sortS.pre (g0, ps) [.slice (some ⟨g0, 0, none⟩) ps.length nc] As := .inr ⟨hk0, hlt, hroom, hrd0, nc, rfl⟩
        conv => lhs; whnf
        refine (hD _).2 ⟨(g0, ps), hpre, fun v A5 hq => ?_⟩
        have hP5 : As.Put A5 g0 0 ((sortL ps).map strV) := hq.2 hk0
        have hAg : A.blk g0 = none := by
          cases hA : A.blk g0 with
          | none => rfl
          | some o => rw [hsub1 _ _ hA] at hg0; cases hg0
        have hA5 : A.Sub A5 := hP5.sub hold hAg
        have hend := hend (.slice (some ⟨g0, 0, none⟩) ps.length nc) A5 hA5 (by
          refine Sl.row hle0 (rd_minus ?_ hAg)
          obtain ⟨c0, t0, fz0, c', k1, k2, k3⟩ := hP5.at_
          rw [hb0] at k1
          injection k1 with k1; injection k1 with k1 k1' k1''
          subst k1; subst k1'; subst k1''
          have hsl := sortL_length ps
          rw [Nat.mul_one, rd_mk k2 (by
            rw [← Array.length_toList, k3]
            simp only [List.length_append, List.length_take, List.length_drop, List.length_map, hsl, Array.length_toList]
            omega), List.drop_zero, k3]
          simp [hsl])
        conv => lhs; whnf
        exact (hD _).2 hend

end
end Go.Proofs.YtfpfjobknefedaaGreatDoor

namespace Go.Proofs.YtfpfjobknefedaaGreatDoor
open Go.Sx Go.RowKit
noncomputable section
open Classical

/-! ### Maps as functions -/

instance : LawfulBEq ByteArray where
  eq_of_beq h := (bytes_key _ _ h).symm
  rfl := bytes_beq_self _

section
variable {κ α : Type} [BEq κ] [LawfulBEq κ]

theorem kGet_put [DecidableEq κ] (p q : κ) (x : α) : ∀ l : List (κ × α), kGet q (kPut p x l) = if q = p then some x else kGet q l
  | [] => by
    by_cases h : q = p
    · subst h; simp [kPut, kGet]
    · have hb : (q == p) = false := by simpa using h
      simp [kPut, kGet, h, hb]
  | (r, y) :: l => by
    simp only [kPut]
    by_cases hr : p = r
    · subst hr
      simp only [BEq.rfl, cond_true, kGet]
      by_cases h : q = p
      · subst h; simp
      · have hb : (q == p) = false := by simpa using h
        simp [h, hb]
    · have : (p == r) = false := by simpa using hr
      simp only [this, cond_false, kGet, kGet_put p q x l]
      by_cases h : q = p
      · subst h
        simp [this]
      · simp [h]

theorem kGet_mod [DecidableEq κ] (p q : κ) (f : α → α) : ∀ l : List (κ × α), kGet q (kMod p f l) = if q = p then (kGet q l).map f else kGet q l
  | [] => by simp [kMod, kGet]
  | (r, y) :: l => by
    simp only [kMod]
    by_cases hr : p = r
    · subst hr
      simp only [BEq.rfl, cond_true, kGet]
      by_cases h : q = p
      · subst h; simp
      · have hb : (q == p) = false := by simpa using h
        simp [h, hb]
    · have : (p == r) = false := by simpa using hr
      simp only [this, cond_false, kGet, kGet_mod p q f l]
      by_cases h : q = p
      · subst h
        simp [this]
      · simp [h]

theorem kGet_not {p : κ} : ∀ {l : List (κ × α)}, p ∉ l.map (·.1) → kGet p l = none
  | [], _ => rfl
  | (r, y) :: l, h => by
    simp only [List.map_cons, List.mem_cons, not_or] at h
    have : (p == r) = false := by simpa using h.1
    simp only [kGet, this, cond_false]
    exact kGet_not h.2

theorem kGet_del [DecidableEq κ] (p q : κ) : ∀ {l : List (κ × α)}, (l.map (·.1)).Nodup → kGet q (kDel p l) = if q = p then none else kGet q l
  | [], _ => by simp [kDel, kGet]
  | (r, y) :: l, hn => by
    rw [List.map_cons, List.nodup_cons] at hn
    simp only [kDel]
    by_cases hr : p = r
    · subst hr
      simp only [BEq.rfl, cond_true, kGet]
      by_cases h : q = p
      · subst h
        rw [if_pos rfl]; exact kGet_not hn.1
      · have hb : (q == p) = false := by simpa using h
        simp [h, hb]
    · have : (p == r) = false := by simpa using hr
      simp only [this, cond_false, kGet, kGet_del p q hn.2]
      by_cases h : q = p
      · subst h
        simp [this]
      · simp [h]

theorem kPut_nd (p : κ) (x : α) : ∀ {l : List (κ × α)}, (l.map (·.1)).Nodup → ((kPut p x l).map (·.1)).Nodup
  | [], _ => by simp [kPut]
  | (r, y) :: l, hn => by
    rw [List.map_cons, List.nodup_cons] at hn
    simp only [kPut]
    by_cases hr : p = r
    · subst hr
      simp only [BEq.rfl, cond_true, List.map_cons, List.nodup_cons]
      exact hn
    · have : (p == r) = false := by simpa using hr
      simp only [this, cond_false, List.map_cons, List.nodup_cons]
      refine ⟨fun h => ?_, kPut_nd p x hn.2⟩
      rcases kPut_keys p x l r h with h | h
      · exact hn.1 h
      · exact hr h.symm

theorem kDel_sub (p : κ) : ∀ (l : List (κ × α)), (kDel p l).Sublist l
  | [] => by simp [kDel]
  | (r, y) :: l => by
    simp only [kDel]
    by_cases hr : p = r
    · subst hr
      simp
    · have : (p == r) = false := by simpa using hr
      simp only [this, cond_false]
      exact (kDel_sub p l).cons_cons _

theorem kDel_nd (p : κ) {l : List (κ × α)} (h : (l.map (·.1)).Nodup) : ((kDel p l).map (·.1)).Nodup := h.sublist ((kDel_sub p l).map _)

theorem kGet_iff {p : κ} {l : List (κ × α)} : kGet p l ≠ none ↔ p ∈ l.map (·.1) := by
  constructor
  · intro h
    by_cases hm : p ∈ l.map (·.1)
    · exact hm
    · exact absurd (kGet_not hm) h
  · intro hm h
    exact kGet_none (by simp) h hm

end

/-! ### A node's changes -/

/-- Data, and marks, over a node. -/
def owN (a : Option (List UInt8 × Int × Int × Int)) (b : Option (Int × Int)) (n : NodeD) : NodeD :=
  ⟨match a with | some x => x.1 | none => n.data,
   { n.stat with
     mzxid := match a with | some x => x.2.1 | none => n.stat.mzxid
     mtime := match a with | some x => x.2.2.1 | none => n.stat.mtime
     ver := match a with | some x => x.2.2.2 | none => n.stat.ver
     cver := match b with | some x => x.1 | none => n.stat.cver
     pzxid := match b with | some x => x.2 | none => n.stat.pzxid }⟩

def Ow (f : Option NodeD → Option NodeD) : Prop := (∃ c, f = fun _ => c) ∨ ∃ a b, f = Option.map (owN a b)

theorem ow_id : Ow fun o => o := .inr ⟨none, none, by funext o; cases o <;> rfl⟩

theorem owN_comp (a a' : Option (List UInt8 × Int × Int × Int)) (b b' : Option (Int × Int)) (n : NodeD) : owN a' b' (owN a b n) = owN (match a' with | some x => some x | none => a) (match b' with | some x => some x | none => b) n := by
  cases a' <;> cases b' <;> rfl

theorem ow_comp {f g : Option NodeD → Option NodeD} (hf : Ow f) (hg : Ow g) : Ow fun o => g (f o) := by
  rcases hg with ⟨c, rfl⟩ | ⟨a', b', rfl⟩
  · exact .inl ⟨c, rfl⟩
  · rcases hf with ⟨c, rfl⟩ | ⟨a, b, rfl⟩
    · exact .inl ⟨c.map (owN a' b'), rfl⟩
    · exact .inr ⟨_, _, by funext o; rw [Option.map_map]; congr 1; funext n; exact owN_comp a a' b b' n⟩

theorem ow_idem {f : Option NodeD → Option NodeD} (hf : Ow f) (o : Option NodeD) : f (f o) = f o := by
  rcases hf with ⟨c, rfl⟩ | ⟨a, b, rfl⟩
  · rfl
  · cases o with
    | none => rfl
    | some n =>
      show some _ = some _
      rw [owN_comp]
      cases a <;> cases b <;> rfl

def markF (h : DeedH) (z : Int) (q : ByteArray) (o : Option NodeD) : Option NodeD := if q = parentP h.path then o.map (nodeMark z h.cver) else o

def chgF (h : DeedH) (z time : Int) (q : ByteArray) (o : Option NodeD) : Option NodeD :=
  if h.kind = 3 then (if q = h.path then o.map (nodeSet h z time) else o)
  else if h.kind = 1 then markF h z q (if q = h.path then some (nodeNew h z time) else o)
  else if h.kind = 2 then markF h z q (if q = h.path then none else o)
  else markF h z q o

theorem ow_mark (h : DeedH) (z : Int) (q : ByteArray) : Ow (markF h z q) := by
  by_cases e : q = parentP h.path
  · exact .inr ⟨none, some (h.cver, z), by funext o; unfold markF; rw [if_pos e]; rfl⟩
  · have : markF h z q = fun o => o := by funext o; unfold markF; rw [if_neg e]
    rw [this]; exact ow_id

theorem ow_chg (h : DeedH) (z time : Int) (q : ByteArray) : Ow (chgF h z time q) := by
  unfold chgF
  by_cases h3 : h.kind = 3
  · simp only [h3, if_true]
    by_cases e : q = h.path
    · exact .inr ⟨some (h.data, z, time, h.ver), none, by funext o; rw [if_pos e]; rfl⟩
    · simp only [e, if_false]; exact ow_id
  · simp only [h3, if_false]
    by_cases h1 : h.kind = 1
    · simp only [h1, if_true]
      by_cases e : q = h.path
      · simp only [e, if_true]
        exact .inl ⟨_, rfl⟩
      · simp only [e, if_false]; exact ow_mark h z q
    · simp only [h1, if_false]
      by_cases h2 : h.kind = 2
      · simp only [h2, if_true]
        by_cases e : q = h.path
        · simp only [e, if_true]
          exact .inl ⟨_, rfl⟩
        · simp only [e, if_false]; exact ow_mark h z q
      · simp only [h2, if_false]; exact ow_mark h z q

def ND (T : TreeD) : Prop := (T.nodes.map (·.1)).Nodup ∧ (T.seats.map (·.1)).Nodup

theorem get_mark (T : TreeD) (h : DeedH) (z : Int) (q : ByteArray) : kGet q (treeMark T h.path z h.cver).nodes = markF h z q (kGet q T.nodes) := by
  unfold treeMark markF
  exact kGet_mod (parentP h.path) q (nodeMark z h.cver) T.nodes

theorem get_change {T : TreeD} (hn : ND T) (h : DeedH) (z time : Int) (q : ByteArray) : kGet q (treeChange T h z time).nodes = chgF h z time q (kGet q T.nodes) := by
  unfold treeChange chgF
  by_cases h3 : h.kind = 3
  · rw [if_pos h3, if_pos h3]; exact kGet_mod h.path q (nodeSet h z time) T.nodes
  · rw [if_neg h3, if_neg h3]
    by_cases h1 : h.kind = 1
    · rw [if_pos h1, if_pos h1, get_mark, kGet_put]
    · rw [if_neg h1, if_neg h1]
      by_cases h2 : h.kind = 2
      · rw [if_pos h2, if_pos h2, get_mark, kGet_del _ _ hn.1]
      · rw [if_neg h2, if_neg h2, get_mark]

theorem nd_mark {T : TreeD} (hn : ND T) (p : ByteArray) (z cv : Int) : ND (treeMark T p z cv) := ⟨by
  show ((kMod _ _ T.nodes).map (·.1)).Nodup
  rw [kMod_keys]; exact hn.1, hn.2⟩

theorem change_seats (T : TreeD) (h : DeedH) (z time : Int) : (treeChange T h z time).seats = T.seats := by
  unfold treeChange treeMark
  split <;> (try split) <;> (try split) <;> rfl

theorem nd_change {T : TreeD} (hn : ND T) (h : DeedH) (z time : Int) : ND (treeChange T h z time) := by
  unfold treeChange
  split
  · exact ⟨by show ((kMod _ _ T.nodes).map (·.1)).Nodup; rw [kMod_keys]; exact hn.1, hn.2⟩
  · split
    · exact nd_mark (T := ⟨kPut h.path (nodeNew h z time) T.nodes, T.seats⟩) ⟨kPut_nd _ _ hn.1, hn.2⟩ _ _ _
    · split
      · exact nd_mark (T := ⟨kDel h.path T.nodes, T.seats⟩) ⟨kDel_nd _ hn.1, hn.2⟩ _ _ _
      · exact nd_mark hn _ _ _

def partsF (ps : List DeedD) (z time : Int) (q : ByteArray) (o : Option NodeD) : Option NodeD := ps.foldl (fun o p => chgF p.h z time q o) o

theorem ow_parts (z time : Int) (q : ByteArray) : ∀ ps : List DeedD, Ow (partsF ps z time q)
  | [] => ow_id
  | p :: ps => (ow_comp (ow_chg p.h z time q) (ow_parts z time q ps) : Ow fun o => partsF ps z time q (chgF p.h z time q o))

theorem parts_all (z time : Int) : ∀ (ps : List DeedD) {T : TreeD}, ND T → ND (treeParts T ps z time) ∧ (treeParts T ps z time).seats = T.seats ∧ ∀ q, kGet q (treeParts T ps z time).nodes = partsF ps z time q (kGet q T.nodes)
  | [], T, hn => ⟨hn, rfl, fun _ => rfl⟩
  | p :: ps, T, hn => by
    obtain ⟨h1, h2, h3⟩ := parts_all z time ps (nd_change hn p.h z time)
    refine ⟨h1, h2.trans (change_seats T p.h z time), fun q => ?_⟩
    show kGet q (treeParts (treeChange T p.h z time) ps z time).nodes = _
    rw [h3, get_change hn]; rfl

/-- What a deed does to the node of a path. -/
def doF (d : DeedD) (q : ByteArray) (o : Option NodeD) : Option NodeD :=
  if d.h.kind = 1 ∨ d.h.kind = 2 ∨ d.h.kind = 3 then chgF d.h d.h.zxid d.h.time q o
  else if d.h.kind = 5 ∨ d.h.kind = 8 then partsF d.parts d.h.zxid d.h.time q o
  else o

/-- .. and to the sitting of a session. -/
def touchF (d : DeedD) (s : Int) (o : Option SitD) : Option SitD := if s = d.h.ses then o.map fun x => ⟨x.ses, x.tmo, max x.turn d.h.turn⟩ else o
def sitF (d : DeedD) (s : Int) (o : Option SitD) : Option SitD :=
  touchF d s (if d.h.kind = 4 then (if s = d.h.zxid then some ⟨d.h.zxid, d.h.tmo, d.h.turn⟩ else o)
    else if d.h.kind = 5 then (if s = d.h.owner then none else o) else o)

theorem ow_do (d : DeedD) (q : ByteArray) : Ow (doF d q) := by
  unfold doF
  split
  · exact ow_chg _ _ _ _
  · split
    · exact ow_parts _ _ _ _
    · exact ow_id

theorem do_all {T : TreeD} (hn : ND T) (d : DeedD) : ND (treeDo T d) ∧ (∀ q, kGet q (treeDo T d).nodes = doF d q (kGet q T.nodes)) ∧
    ∀ s, kGet s (treeDo T d).seats = if d.h.kind = 4 then (if s = d.h.zxid then some ⟨d.h.zxid, d.h.tmo, d.h.turn⟩ else kGet s T.seats) else if d.h.kind = 5 then (if s = d.h.owner then none else kGet s T.seats) else kGet s T.seats := by
  unfold treeDo doF
  by_cases h1 : d.h.kind = 1 ∨ d.h.kind = 2 ∨ d.h.kind = 3
  · simp only [h1, if_true]
    refine ⟨nd_change hn _ _ _, fun q => get_change hn _ _ _ q, fun s => ?_⟩
    rw [change_seats, if_neg (by omega), if_neg (by omega)]
  · simp only [h1, if_false]
    by_cases h4 : d.h.kind = 4
    · simp only [h4, if_true]
      refine ⟨⟨hn.1, kPut_nd _ _ hn.2⟩, fun q => rfl, fun s => kGet_put _ _ _ _⟩
    · simp only [h4, if_false]
      by_cases h5 : d.h.kind = 5
      · simp only [h5, if_true, true_or]
        obtain ⟨k1, k2, k3⟩ := parts_all d.h.zxid d.h.time d.parts (T := ⟨T.nodes, kDel d.h.owner T.seats⟩) ⟨hn.1, kDel_nd _ hn.2⟩
        refine ⟨k1, k3, fun s => ?_⟩
        rw [k2]; exact kGet_del _ _ hn.2
      · simp only [h5, if_false, false_or]
        by_cases h8 : d.h.kind = 8
        · simp only [h8, if_true]
          obtain ⟨k1, k2, k3⟩ := parts_all d.h.zxid d.h.time d.parts hn
          exact ⟨k1, k3, fun s => by rw [k2]⟩
        · simp only [h8, if_false]
          exact ⟨hn, fun _ => trivial, fun _ => trivial⟩

theorem touch_all {T : TreeD} (hn : ND T) (d : DeedD) : ND (treeTouch T d.h.ses d.h.turn) ∧ (treeTouch T d.h.ses d.h.turn).nodes = T.nodes ∧ ∀ s, kGet s (treeTouch T d.h.ses d.h.turn).seats = touchF d s (kGet s T.seats) := by
  unfold treeTouch touchF
  cases hk : kGet d.h.ses T.seats with
  | none =>
    refine ⟨hn, rfl, fun s => ?_⟩
    by_cases e : s = d.h.ses
    · rw [if_pos e, e, hk]; rfl
    · rw [if_neg e]
  | some x =>
    refine ⟨⟨hn.1, kPut_nd _ _ hn.2⟩, rfl, fun s => ?_⟩
    rw [kGet_put]
    by_cases e : s = d.h.ses
    · rw [if_pos e, if_pos e, e, hk]; rfl
    · rw [if_neg e, if_neg e]

theorem apply_all {T : TreeD} (hn : ND T) (d : DeedD) : ND (treeApply T d) ∧ (∀ q, kGet q (treeApply T d).nodes = if RightD d then doF d q (kGet q T.nodes) else kGet q T.nodes) ∧
    ∀ s, kGet s (treeApply T d).seats = if RightD d then sitF d s (kGet s T.seats) else kGet s T.seats := by
  unfold treeApply
  by_cases h : RightD d
  · simp only [h, if_true]
    obtain ⟨k1, k2, k3⟩ := do_all hn d
    obtain ⟨j1, j2, j3⟩ := touch_all k1 d
    refine ⟨j1, fun q => by rw [j2, k2], fun s => ?_⟩
    rw [j3, k3]; rfl
  · simp only [h, if_false]
    exact ⟨hn, fun _ => trivial, fun _ => trivial⟩

theorem sit_idem (d : DeedD) (s : Int) (o : Option SitD) : sitF d s (sitF d s o) = sitF d s o := by
  unfold sitF
  by_cases h4 : d.h.kind = 4
  · simp only [h4, if_true]
    by_cases e : s = d.h.zxid
    · simp only [e, if_true]
    · simp only [e, if_false]
      unfold touchF
      by_cases e2 : s = d.h.ses
      · simp only [e2, if_true]
        cases o with
        | none => rfl
        | some x => simp
      · simp only [e2, if_false]
  · simp only [h4, if_false]
    by_cases h5 : d.h.kind = 5
    · simp only [h5, if_true]
      by_cases e : s = d.h.owner
      · simp only [e, if_true]
      · simp only [e, if_false]
        unfold touchF
        by_cases e2 : s = d.h.ses
        · simp only [e2, if_true]
          cases o with
          | none => rfl
          | some x => simp
        · simp only [e2, if_false]
    · simp only [h5, if_false]
      unfold touchF
      by_cases e2 : s = d.h.ses
      · simp only [e2, if_true]
        cases o with
        | none => rfl
        | some x => simp
      · simp only [e2, if_false]

/-! ### Trees that are alike -/

def TEq (T U : TreeD) : Prop := (∀ q, kGet q T.nodes = kGet q U.nodes) ∧ ∀ s, kGet s T.seats = kGet s U.seats

theorem TEq.refl (T : TreeD) : TEq T T := ⟨fun _ => rfl, fun _ => rfl⟩

theorem TEq.apply {T U : TreeD} (h : TEq T U) (hT : ND T) (hU : ND U) (d : DeedD) : TEq (treeApply T d) (treeApply U d) := by
  obtain ⟨_, k1, k2⟩ := apply_all hT d
  obtain ⟨_, j1, j2⟩ := apply_all hU d
  exact ⟨fun q => by rw [k1, j1, h.1], fun s => by rw [k2, j2, h.2]⟩

/-- A deed done twice is as done once. -/
theorem TEq.twice {T U : TreeD} (h : TEq T U) (hT : ND T) (hU : ND U) (d : DeedD) : TEq (treeApply T d) (treeApply (treeApply U d) d) := by
  obtain ⟨k0, k1, k2⟩ := apply_all hT d
  obtain ⟨j0, j1, j2⟩ := apply_all hU d
  obtain ⟨_, i1, i2⟩ := apply_all j0 d
  refine ⟨fun q => ?_, fun s => ?_⟩
  · rw [k1, i1, j1, h.1]
    by_cases hr : RightD d
    · simp only [hr, if_true]; rw [ow_idem (ow_do d q)]
    · simp only [hr, if_false]
  · rw [k2, i2, j2, h.2]
    by_cases hr : RightD d
    · simp only [hr, if_true]; rw [sit_idem]
    · simp only [hr, if_false]

end
end Go.Proofs.YtfpfjobknefedaaGreatDoor

namespace Go.Proofs.YtfpfjobknefedaaGreatDoor
open Go.Sx Go.RowKit
noncomputable section
open Classical

def statZ : StatD := ⟨0, 0, 0, 0, 0, 0, 0, 0, 0, 0⟩

/-- What a get tells. -/
def GotV (A A' : Arena) (T : TreeD) (p : ByteArray) (v : Value) : Prop := match kGet p T.nodes with
  | none => v = .tuple #[nodeV ⟨#[]⟩ (.slice none 0 0) statZ, .bool false]
  | some n => ∃ vd, v = .tuple #[nodeV p vd { n.stat with len := n.data.length, kids := (treeKids T p).length }, .bool true] ∧ SlB (A'.minus A) vd n.data

def getS : FSpec := ⟨TG × ByteArray, fun g vs A => vs = [.pointer (some ⟨g.1.t, 0, none⟩), .string g.2] ∧ TreeAt A g.1.B g.1.O g.1.t g.1.T ∧ g.1.T.nodes.length ≤ 1000000,
  fun g _ A v A' => A.Sub A' ∧ GotV A A' g.1.T g.2 v⟩

/-- A tree stays behind what only lays new blocks. -/
theorem TreeAt_sub {A B A' : Arena} {O : Nat → Prop} {t : Nat} {T : TreeD} (h : TreeAt A B O t T) (hs : A.Sub A') : TreeAt A' B O t T := by
  refine h.frame (fun k hk => ?_) ?_
  · obtain ⟨m, s, E, hR⟩ := h
    obtain ⟨o, ho⟩ := hR.live k hk
    rw [hs k o ho, ho]
  · obtain ⟨m, s, E, hR⟩ := h
    exact hR.sub.trans hs

set_option maxRecDepth 100000 in
set_option maxHeartbeats 0 in
theorem get_ok : FOk Tryz.prog 8 getS := by
  refine fok_v mixed fun ⟨⟨T, B, O, t⟩, p⟩ vs A hp => ?_
  obtain ⟨rfl, hT, hlen⟩ : vs = [.pointer (some ⟨t, 0, none⟩), .string p] ∧ TreeAt A B O t T ∧ T.nodes.length ≤ 1000000 := hp
  have hCt : CTSound Tryz.prog (lookC [specE 24 listS, specE 25 toldS] noC) := lookC_sound (noC_sound _) (fun x hx => by
    simp only [List.mem_cons, List.not_mem_nil, or_false] at hx
    rcases hx with rfl | rfl
    · exact specE_ok list_ok
    · exact specE_ok told_ok)
  refine ⟨_, noL, 60, hCt, noL_sound _, fun blk os out tape D hD => ?_⟩
  conv => lhs; whnf
  refine (hD _).2 ⟨(⟨T, B, O, t⟩, p), ⟨rfl, hT, hlen⟩, fun v A1 hq => ?_⟩
  obtain ⟨h1, x, rfl, hx⟩ : A.Sub A1 ∧ ∃ x, v = .tuple #[x, .bool (kGet p T.nodes).isSome] ∧ Sl (A1.minus A) 1 (if (kGet p T.nodes).isSome then treeKids T p else []).length x ((if (kGet p T.nodes).isSome then treeKids T p else []).map strV) := hq
  obtain ⟨a, k, rfl⟩ := hx.form
  cases hk : kGet p T.nodes with
  | none =>
    have hend : getS.post (⟨T, B, O, t⟩, p) [.pointer (some ⟨t, 0, none⟩), .string p] A (.tuple #[nodeV ⟨#[]⟩ (.slice none 0 0) statZ, .bool false]) A1 := ⟨h1, (by
      show GotV A A1 T p _
      rw [GotV, hk])⟩
    conv => lhs; whnf
    exact (hD _).2 hend
  | some n =>
    rw [hk] at hx
    conv => lhs; whnf
    refine (hD _).2 ⟨(⟨T, B, O, t⟩, p, n, (treeKids T p).length), ⟨rfl, TreeAt_sub hT h1, hk⟩, fun v A2 hq => ?_⟩
    obtain ⟨h2, vd, rfl, hS⟩ : A1.Sub A2 ∧ ∃ vd, v = nodeV p vd { n.stat with len := n.data.length, kids := (treeKids T p).length } ∧ SlB (A2.minus A1) vd n.data := hq
    have hend : getS.post (⟨T, B, O, t⟩, p) [.pointer (some ⟨t, 0, none⟩), .string p] A (.tuple #[nodeV p vd { n.stat with len := n.data.length, kids := (treeKids T p).length }, .bool true]) A2 := ⟨h1.trans h2, (by
      show GotV A A2 T p _
      rw [GotV, hk]
      exact ⟨vd, rfl, hS.sub (minus_later h1)⟩)⟩
    obtain ⟨b, k', rfl⟩ := hS.1.form
    conv => lhs; whnf
    exact (hD _).2 hend

end
end Go.Proofs.YtfpfjobknefedaaGreatDoor

namespace Go.Proofs.YtfpfjobknefedaaGreatDoor
open Go.Sx Go.RowKit
noncomputable section
open Classical

/-- Sittings as a row that came in. -/
def SlS (A : Arena) (v : Value) (l : List SitD) : Prop := Sl A 3 l.length v (l.flatMap sitC) ∧ l.length ≤ 140737488351232

theorem flat_at {α : Type} (enc : α → List Value) (k : Nat) (hk : ∀ x, (enc x).length = k) : ∀ (l : List α) (i : Nat) (hi : i < l.length), ((l.flatMap enc).drop (i * k)).take k = enc l[i]
  | [], i, hi => by simp at hi
  | x :: l, 0, _ => by
    rw [Nat.zero_mul, List.drop_zero, List.flatMap_cons, List.take_append_of_le_length (by rw [hk]; omega), List.take_of_length_le (by rw [hk]; omega)]; rfl
  | x :: l, i + 1, hi => by
    rw [List.flatMap_cons, Nat.succ_mul, Nat.add_comm, ← List.drop_drop, List.drop_left' (hk x)]
    exact flat_at enc k hk l i (by simpa using hi)

theorem flat_len {α : Type} (enc : α → List Value) (k : Nat) (hk : ∀ x, (enc x).length = k) (l : List α) : (l.flatMap enc).length = l.length * k := by
  induction l with
  | nil => simp
  | cons x l ih => rw [List.flatMap_cons, List.length_append, hk, ih, List.length_cons, Nat.succ_mul]; omega

theorem row_at {α : Type} {enc : α → List Value} {k : Nat} (hk : ∀ x, (enc x).length = k) {A : Arena} {g o n : Nat} {l : List α} (h : A.rd g o (n * k) = some (l.flatMap enc)) (i : Nat) (hi : i < l.length) (hn : n = l.length) : A.rd g (o + i * k) k = some (enc l[i]) := by
  have hle : i * k + k ≤ n * k := by rw [← Nat.succ_mul]; exact Nat.mul_le_mul_right _ (by omega)
  rw [rd_at h (i := i * k) (m := k) hle, flat_at enc k hk l i hi]

def seatOne (l : List (Int × SitD)) (s : SitD) : List (Int × SitD) := if s.ses < 1 then l else kPut s.ses s l
def seatsOf (l : List SitD) : List (Int × SitD) := l.foldl seatOne []

theorem seatsOf_snoc (l : List SitD) (s : SitD) : seatsOf (l ++ [s]) = seatOne (seatsOf l) s := by
  unfold seatsOf; rw [List.foldl_append]; rfl

theorem seatOne_nodup {l : List (Int × SitD)} (h : (l.map (·.1)).Nodup) (s : SitD) : ((seatOne l s).map (·.1)).Nodup := by
  unfold seatOne
  split
  · exact h
  · exact kPut_nodup h

/-- Nodes laid one by one over a new tree. -/
def copyNodes (sk : List (ByteArray × Nat × NodeD)) : List (ByteArray × NodeD) := sk.foldl (fun l e => kPut e.1 e.2.2 l) treeNew.nodes

theorem copyNodes_snoc (sk : List (ByteArray × Nat × NodeD)) (e : ByteArray × Nat × NodeD) : copyNodes (sk ++ [e]) = kPut e.1 e.2.2 (copyNodes sk) := by
  unfold copyNodes; rw [List.foldl_append]; rfl

end
end Go.Proofs.YtfpfjobknefedaaGreatDoor

namespace Go.Proofs.YtfpfjobknefedaaGreatDoor
open Go.Sx Go.RowKit
noncomputable section
open Classical

structure ToldD where
  path : ByteArray
  data : List UInt8
  stat : StatD

def bytesOf (l : List UInt8) : ByteArray := ⟨l.toArray⟩

theorem bytesOf_pathL (q : ByteArray) : bytesOf (pathL q) = q := by
  obtain ⟨⟨l⟩⟩ := q; rfl

def kidsN (T : TreeD) (p : ByteArray) : Nat := (T.nodes.map (·.1)).countP fun q => decide (parentP q = p)

def toldOf (T : TreeD) (p : ByteArray) : ToldD := match kGet p T.nodes with
  | some n => ⟨p, n.data, { n.stat with len := n.data.length, kids := kidsN T p }⟩
  | none => ⟨p, [], ⟨0, 0, 0, 0, 0, 0, 0, 0, 0, 0⟩⟩

def treeAll (T : TreeD) : List ToldD := (treePaths T).map fun l => toldOf T (bytesOf l)

def nodeC (x : ToldD × Value) : List Value := .string x.1.path :: x.2 :: x.1.stat.cells

/-- A row of nodes. -/
def NodesS (D : Arena) (v : Value) (ns : List ToldD) : Prop := ∃ l : List (ToldD × Value), l.map (·.1) = ns ∧ Sl D 12 ns.length v (l.flatMap nodeC) ∧ ∀ x ∈ l, SlB D x.2 x.1.data

abbrev natV (n : Nat) : Value := .int .i64 n

theorem wrap_inc {k : Nat} (h : k < 9223372036854775807) : IntKind.i64.wrap ((k : Int) + 1) = ((k + 1 : Nat) : Int) := by
  have h1 := inc_slot h
  injection h1 with h1
  injection h1 with h1
  injection h1

structure A1G where
  k : Nat
  A : Arena
  l : List (ByteArray × Nat)

def kidCount (ps : List (List UInt8)) (q : ByteArray) : Nat := ps.countP fun x => decide (parentP (bytesOf x) = q)

theorem kidCount_snoc (ps : List (List UInt8)) (k : Nat) (hk : k < ps.length) (q : ByteArray) : kidCount (ps.take (k + 1)) q = kidCount (ps.take k) q + if q = parentP (bytesOf ps[k]) then 1 else 0 := by
  unfold kidCount
  rw [List.take_succ_eq_append_getElem hk, List.countP_append]
  congr 1
  by_cases h : q = parentP (bytesOf ps[k])
  · rw [if_pos h, h]; simp
  · rw [if_neg h]
    have h' : ¬ parentP (bytesOf ps[k]) = q := fun e => h e.symm
    simp [h']

theorem kidCount_le (ps : List (List UInt8)) (q : ByteArray) : kidCount ps q ≤ ps.length := List.countP_le_length

theorem sortL_perm (l : List (List UInt8)) : (sortL l).Perm l := List.mergeSort_perm _ _

theorem paths_mem {T : TreeD} {x : List UInt8} (h : x ∈ treePaths T) : bytesOf x ∈ T.nodes.map (·.1) := by
  obtain ⟨e, he, h3⟩ := List.mem_map.1 ((sortL_perm _).mem_iff.1 h)
  exact List.mem_map.2 ⟨e, he, by rw [← h3, bytesOf_pathL]⟩

theorem count_paths (T : TreeD) (q : ByteArray) : kidCount (treePaths T) q = kidsN T q := by
  rw [kidCount, kidsN, treePaths, (sortL_perm _).countP_eq, List.countP_map, List.countP_map]
  refine List.countP_congr fun e _ => ?_
  simp only [Function.comp_apply, bytesOf_pathL]

theorem minus_mono {A K K' : Arena} (h : K.Sub K') : (K.minus A).Sub (K'.minus A) := fun k o hk => by
  obtain ⟨h1, h2⟩ := minus_blk hk
  show (match A.blk k with
    | none => K'.blk k
    | some _ => none) = some o
  rw [h1]; exact h _ _ h2

theorem grow_know {K K' A : Arena} {es : Nat} {e : TypeId} {n : Nat} {v : Value} {cs : List Value} (h : GrowR K A es e n v cs) (hk : ∀ k o, K.blk k = none → A.blk k = some o → K'.blk k = none) : GrowR K' A es e n v cs := by
  obtain ⟨h1, h2 | ⟨g, nc, c, h3, h4, h4', h5, h6, h7, h8⟩⟩ := h
  · exact ⟨h1, .inl h2⟩
  · exact ⟨h1, .inr ⟨g, nc, c, h3, h4, h4', hk g _ h5 h6, h6, h7, h8⟩⟩

/-- A row that was made is new memory. -/
theorem grow_sl {A0 K A : Arena} {es : Nat} {e : TypeId} {n : Nat} {v : Value} {cs : List Value} (h : GrowR K A es e n v cs) (h0 : A0.Sub K) : Sl (A.minus A0) es n v cs := by
  obtain ⟨h1, ⟨rfl, rfl⟩ | ⟨g, nc, c, rfl, h4, h4', h5, h6, h7, h8⟩⟩ := h
  · have hc : cs = [] := List.length_eq_zero_iff.1 (by rw [h1]; simp)
    subst hc
    exact Sl.nil _ _
  · have hg : A0.blk g = none := by
      cases hA : A0.blk g with
      | none => rfl
      | some o => rw [h0 _ _ hA] at h5; cases h5
    have hle : n * es ≤ nc * es := Nat.mul_le_mul_right _ h4
    refine Sl.row h4 (rd_minus ?_ hg)
    rw [rd_mk h6 (by omega), List.drop_zero, h8]

def allInv1 (A2 : Arena) (c : Nat) (ps : List (List UInt8)) : LInv :=
  { γ := A1G, G := fun g => g.k ≤ ps.length ∧ (∀ b, b ≠ c → g.A.blk b = A2.blk b) ∧ MapAt g.A c (strL natV g.l) ∧ ∀ q, (kGet q g.l).getD 0 = kidCount (ps.take g.k) q,
    keepS := [0, 3, 4, 14, 15], keepB := [], sl := fun g => [(16, .v (.int .i64 g.k))], bl := fun _ => [], ar := fun g => g.A, mu := fun g => ps.length - g.k }

structure A2G where
  k : Nat
  A : Arena
  K : Arena
  v : Value
  l : List (ToldD × Value)

def allInv2 (A AL : Arena) (T : TreeD) (ps : List (List UInt8)) : LInv :=
  { γ := A2G, G := fun g => g.k ≤ ps.length ∧ g.K.Sub g.A ∧ AL.Sub g.K ∧ GrowR g.K g.A 12 35 g.k g.v (g.l.flatMap nodeC) ∧ g.l.map (·.1) = (ps.take g.k).map (fun x => toldOf T (bytesOf x)) ∧ ∀ x ∈ g.l, SlB (g.K.minus A) x.2 x.1.data,
    keepS := [0, 3, 4, 26, 27], keepB := [], sl := fun g => [(28, .v (.int .i64 g.k)), (7, .v g.v)], bl := fun _ => [], ar := fun g => g.A, mu := fun g => ps.length - g.k }

def allS : FSpec := ⟨TG, fun g vs A => vs = [.pointer (some ⟨g.t, 0, none⟩)] ∧ TreeAt A g.B g.O g.t g.T ∧ g.T.nodes.length ≤ 1000000,
  fun g _ A v A' => A.Sub A' ∧ NodesS (A'.minus A) v (treeAll g.T)⟩

set_option maxRecDepth 100000 in
set_option maxHeartbeats 0 in
theorem all_ok : FOk Tryz.prog 38 allS := by
  refine fok_v mixed fun ⟨T, B, O, t⟩ vs A hp => ?_
  obtain ⟨rfl, hT, hlen⟩ : vs = [.pointer (some ⟨t, 0, none⟩)] ∧ TreeAt A B O t T ∧ T.nodes.length ≤ 1000000 := hp
  have hCt : CTSound Tryz.prog (lookC [specE 61 pathsS, specE 33 parentS, specE 25 toldS] noC) := lookC_sound (noC_sound _) (fun x hx => by
    simp only [List.mem_cons, List.not_mem_nil, or_false] at hx
    rcases hx with rfl | rfl | rfl
    · exact specE_ok paths_ok
    · exact specE_ok parent_ok
    · exact specE_ok told_ok)
  refine ⟨_, tabO Tryz.prog _ noL 60 [(38, 0), (38, 2)], 60, hCt, tabO_sound mixed hCt (noL_sound _) _ _, fun blk os out tape D hD => ?_⟩
  conv => lhs; whnf
  refine (hD _).2 fun c A1 hc hA1 hM1 => ?_
  have hc : A.blk c = none := hc
  have hA1 : ∀ k, k ≠ c → A1.blk k = A.blk k := hA1
  have hM1 : MapAt A1 c [] := hM1
  have s1 : A.Sub A1 := fun k o hk => by rw [hA1 k fun e => by subst e; rw [hc] at hk; cases hk]; exact hk
  conv => lhs; whnf
  refine (hD _).2 ⟨⟨T, B, O, t⟩, ⟨rfl, TreeAt_sub hT s1, hlen⟩, fun v A2 hq => ?_⟩
  obtain ⟨s2, hS⟩ : A1.Sub A2 ∧ Sl (A2.minus A1) 1 (treePaths T).length v ((treePaths T).map strV) := hq
  obtain ⟨ps, hps⟩ : ∃ ps, ps = treePaths T := ⟨_, rfl⟩
  rw [← hps] at hS
  have hpl : ps.length ≤ 1000000 := by rw [hps, treePaths, sortL_length, List.length_map]; exact hlen
  obtain ⟨ao, cp, rfl, hcp, _, ha1, ha2, ha3⟩ := hS
  conv => lhs; whnf
  refine (hD _).2 ⟨allInv1 A2 c ps, ⟨(⟨0, A2, []⟩ : A1G), ⟨Nat.zero_le _, fun _ _ => rfl, hM1.sub fun o ho => s2 _ _ ho, fun q => rfl⟩, ⟨rfl, trivial⟩, trivial, rfl⟩, fun (sg : A1G) hG => ⟨⟨trivial, trivial⟩, trivial, ?_⟩⟩
  obtain ⟨k, As, l⟩ := sg
  obtain ⟨hk, hkeep, hM, hcnt⟩ : k ≤ ps.length ∧ (∀ b, b ≠ c → As.blk b = A2.blk b) ∧ MapAt As c (strL natV l) ∧ ∀ q, (kGet q l).getD 0 = kidCount (ps.take k) q := hG
  obtain ⟨oc, hoc⟩ : ∃ o, A1.blk c = some o := by
    obtain ⟨es, cl, h1, _⟩ := hM1
    exact ⟨_, h1⟩
  have hPs : (A2.minus A1).Sub As := fun b o hb => by
    rw [hkeep b fun e => by subst e; rw [minus_none _ hoc] at hb; cases hb]
    exact (minus_blk hb).2
  have hAs : A.Sub As := fun b o hb => by
    rw [hkeep b fun e => by subst e; rw [hc] at hb; cases hb]
    exact s2 _ _ (s1 _ _ hb)
  conv => lhs; whnf
  refine split_dec (fun hlt => ?_) (fun hlt => ?_) <;> (conv => lhs; whnf)
  · have hkl : k < ps.length := by
      have hlt : (k : Int) < (ps.length : Int) := hlt
      omega
    obtain ⟨g, o, rfl, hra⟩ := Sl.at_ hcp ha1 ha2 ha3 (by omega)
    have hrow := rd_sub hPs (text_at hra k hkl rfl)
    obtain ⟨q, hq⟩ : ∃ q, q = bytesOf ps[k] := ⟨_, rfl⟩
    have hrow : As.rd g (o + k * 1) 1 = some [.string q] := by rw [hrow, hq]; rfl
    conv => lhs; whnf
    refine split_in (fun _ _ => ?_) (fun h => by omega)
    conv => lhs; whnf
    refine go_rd hrow ?_
    conv => lhs; whnf
    refine (hD _).2 ⟨q, rfl, fun v A9 hq9 => ?_⟩
    obtain ⟨h9, rfl⟩ : As = A9 ∧ v = .string (parentP q) := ⟨hq9.1.symm, hq9.2⟩
    subst h9
    conv => lhs; whnf
    refine go_lk (look_str hM (parentP q)) ?_
    have hnb : (kGet (parentP q) l).getD 0 ≤ 1000000 := by
      rw [hcnt]
      have h1 := kidCount_le (ps.take k) (parentP q)
      rw [List.length_take] at h1
      omega
    have hnew : ∀ A3, (∀ b, b ≠ c → A3.blk b = As.blk b) → MapAt A3 c (strL natV (kPut (parentP q) ((kGet (parentP q) l).getD 0 + 1) l)) → (allInv1 A2 c ps).G (⟨k + 1, A3, kPut (parentP q) ((kGet (parentP q) l).getD 0 + 1) l⟩ : A1G) := fun A3 ho hm => by
      refine ⟨by show k + 1 ≤ ps.length; omega, fun b hb => (ho b hb).trans (hkeep b hb), hm, fun q' => ?_⟩
      show (kGet q' (kPut (parentP q) ((kGet (parentP q) l).getD 0 + 1) l)).getD 0 = kidCount (ps.take (k + 1)) q'
      rw [kidCount_snoc ps k hkl, ← hq, kGet_put]
      by_cases e : q' = parentP q
      · rw [if_pos e, if_pos e, e, ← hcnt]; rfl
      · rw [if_neg e, if_neg e, hcnt]; rfl
    cases hkg : kGet (parentP q) l with
    | none =>
      rw [hkg] at hnew
      conv => lhs; whnf
      refine (hD _).2 ⟨_, hM, strL_alike natV (parentP q) _, fun A3 hm3 ho3 => ?_⟩
      have hm3 : MapAt A3 c (putL (.string (parentP q)) (natV (0 + 1)) (strL natV l)) := hm3
      rw [strL_put] at hm3
      conv => lhs; whnf
      exact (hD _).2 ⟨(⟨k + 1, A3, kPut (parentP q) (0 + 1) l⟩ : A1G), ⟨hnew A3 ho3 hm3, ⟨inc_slot (k := k) (by omega), trivial⟩, trivial, rfl⟩, by show ps.length - (k + 1) < ps.length - k; omega, ⟨rfl, rfl, rfl, rfl, rfl, trivial⟩, trivial⟩
    | some n =>
      rw [hkg] at hnew hnb
      have hnb : n ≤ 1000000 := hnb
      conv => lhs; whnf
      refine (hD _).2 ⟨_, hM, strL_alike natV (parentP q) _, fun A3 hm3 ho3 => ?_⟩
      have hm3 : MapAt A3 c (putL (.string (parentP q)) (.int .i64 (IntKind.i64.wrap ((n : Int) + 1))) (strL natV l)) := hm3
      rw [wrap_inc (by omega), show Value.int .i64 ((n + 1 : Nat) : Int) = natV (n + 1) from rfl, strL_put] at hm3
      conv => lhs; whnf
      exact (hD _).2 ⟨(⟨k + 1, A3, kPut (parentP q) (n + 1) l⟩ : A1G), ⟨hnew A3 ho3 hm3, ⟨inc_slot (k := k) (by omega), trivial⟩, trivial, rfl⟩, by show ps.length - (k + 1) < ps.length - k; omega, ⟨rfl, rfl, rfl, rfl, rfl, trivial⟩, trivial⟩
  · have e : k = ps.length := by
      have hlt : ¬ (k : Int) < (ps.length : Int) := hlt
      omega
    subst e
    rw [List.take_length] at hcnt
    have hTA := TreeAt_sub hT hAs
    refine (hD _).2 ⟨allInv2 A As T ps, ⟨(⟨0, As, As, .slice none 0 0, []⟩ : A2G), ⟨Nat.zero_le _, Arena.Sub.refl _, Arena.Sub.refl _, GrowR.nil _ _ _ _, rfl, fun _ hx => (by cases hx)⟩, ⟨rfl, rfl, trivial⟩, trivial, rfl⟩, fun (sg : A2G) hG => ⟨⟨trivial, trivial, trivial⟩, trivial, ?_⟩⟩
    obtain ⟨k, Ak, K, v0, rs⟩ := sg
    obtain ⟨hk, hKA, hLK, hGr, hrs, hdat⟩ : k ≤ ps.length ∧ K.Sub Ak ∧ As.Sub K ∧ GrowR K Ak 12 35 k v0 (rs.flatMap nodeC) ∧ rs.map (·.1) = (ps.take k).map (fun x => toldOf T (bytesOf x)) ∧ ∀ x ∈ rs, SlB (K.minus A) x.2 x.1.data := hG
    conv => lhs; whnf
    refine split_dec (fun hlt => ?_) (fun hlt => ?_) <;> (conv => lhs; whnf)
    · have hkl : k < ps.length := by
        have hlt : (k : Int) < (ps.length : Int) := hlt
        omega
      obtain ⟨g, o, rfl, hra⟩ := Sl.at_ hcp ha1 ha2 ha3 (by omega)
      have hLA := hLK.trans hKA
      have hrow := rd_sub (hPs.trans hLA) (text_at hra k hkl rfl)
      obtain ⟨q, hq⟩ : ∃ q, q = bytesOf ps[k] := ⟨_, rfl⟩
      have hrow : Ak.rd g (o + k * 1) 1 = some [.string q] := by rw [hrow, hq]; rfl
      have hqm : q ∈ T.nodes.map (·.1) := by
        rw [hq]; exact paths_mem (hps ▸ List.getElem_mem hkl)
      obtain ⟨n, hn⟩ : ∃ n, kGet q T.nodes = some n := by
        cases h : kGet q T.nodes with
        | some n => exact ⟨n, rfl⟩
        | none => exact absurd h (kGet_iff.2 hqm)
      conv => lhs; whnf
      refine split_in (fun _ _ => ?_) (fun h => by omega)
      conv => lhs; whnf
      refine go_rd hrow ?_
      conv => lhs; whnf
      refine go_lk (look_str (hM.sub fun o ho => hLA _ _ ho) q) ?_
      obtain ⟨cn, hcn⟩ : ∃ cn, cn = (kGet q l).getD 0 := ⟨_, rfl⟩
      have hkn : cn = kidsN T q := by rw [hcn, hcnt, hps, count_paths]
      have htold : toldOf T q = ⟨q, n.data, { n.stat with len := n.data.length, kids := cn }⟩ := by
        rw [toldOf, hn, hkn]
      rcases hkg : kGet q l with _ | n1
      all_goals
        rw [hkg] at hcn
        conv => lhs; whnf
        refine (hD _).2 ⟨(⟨T, B, O, t⟩, q, n, cn), ⟨by rw [hcn]; rfl, TreeAt_sub hT (hAs.trans hLA), hn⟩, fun v A4 hq4 => ?_⟩
        obtain ⟨s4, vd, rfl, hS4⟩ : Ak.Sub A4 ∧ ∃ vd, v = nodeV q vd { n.stat with len := n.data.length, kids := cn } ∧ SlB (A4.minus Ak) vd n.data := hq4
        obtain ⟨ad, kd, rfl⟩ := hS4.1.form
        conv => lhs; whnf
        refine (hD _).2 fun gb A5 hN => ?_
        obtain ⟨x, hx⟩ : ∃ x : ToldD × Value, x = (toldOf T q, .slice ad n.data.length kd) := ⟨_, rfl⟩
        have hNx : A4.New A5 gb (nodeC x).toArray 35 := by rw [hx, htold]; exact hN
        have hxl : (nodeC x).length = 12 := rfl
        have hKA4 := hKA.trans s4
        obtain ⟨K', hK'⟩ : ∃ K' : Arena, K' = K.plus (A4.minus Ak) := ⟨_, rfl⟩
        have hKK : K.Sub K' := by rw [hK']; exact plus_l _ _
        have hNK : (A4.minus Ak).Sub K' := by
          rw [hK']
          refine plus_r fun j o hj => ?_
          cases hKj : K.blk j with
          | none => rfl
          | some o' => rw [minus_none _ (hKA _ _ hKj)] at hj; cases hj
        have hK4 : K'.Sub A4 := fun j o hj => by
          rw [hK'] at hj
          rcases plus_cases hj with hj | ⟨_, hj⟩
          · exact hKA4 _ _ hj
          · exact (minus_blk hj).2
        have hG4 : GrowR K' Ak 12 35 k v0 (rs.flatMap nodeC) := grow_know hGr fun j o h1 h2 => by
          rw [hK', plus_blk, h1]; exact minus_none _ h2
        have hG5 := (hG4.sub s4).sub hN.sub
        have hK5 := hK4.trans hN.sub
        have hd5 : ∀ j, A5.blk j = none → K'.blk j = none := fun j hj => by
          cases h1 : K'.blk j with
          | none => rfl
          | some o => rw [hK5 _ _ h1] at hj; cases hj
        obtain ⟨base, c9, rfl, hbase, hP, hA⟩ := hG5.form
        have hP := hP 120 (by omega) (by omega)
        have hrow : A5.rd gb 0 (1 * 12) = some (nodeC x) := hNx.rd (o := 0) (n := 1 * 12) (by rw [List.size_toArray, hxl]; omega)
        rcases hbase with rfl | ⟨g0, rfl⟩ <;> (conv => lhs; whnf)
        all_goals
          refine (hD _).2 ⟨rs.flatMap nodeC, nodeC x, hP.rd, ?_, rfl, ?_, ?_, hP.cap, rfl, hP.none_, fun g' o' he' hle' _ => hP.room 12 rfl g' o' he' hle', fun v A6 hAp => ?_⟩
          · show (if 1 * 12 = 0 then some [] else A5.rd gb 0 (1 * 12)) = _
            rw [if_neg (by omega)]; exact hrow
          · intro v hv
            rw [hx] at hv
            simp only [nodeC, StatD.cells, List.mem_cons, List.not_mem_nil, or_false] at hv
            rcases hv with rfl | rfl | rfl | rfl | rfl | rfl | rfl | rfl | rfl | rfl | rfl | rfl <;> rfl
          · show k + 1 ≤ 9223372036854775807
            omega
          · obtain ⟨hG6, hk6⟩ := hA _ _ _ rfl hd5 hAp
            have hK6 : K'.Sub A6 := fun j o hj => by rw [hk6 j o hj]; exact hK5 _ _ hj
            have hg6 : (allInv2 A As T ps).G (⟨k + 1, A6, K', v, rs ++ [x]⟩ : A2G) := by
              refine ⟨by show k + 1 ≤ ps.length; omega, hK6, hLK.trans hKK, ?_, ?_, fun y hy => ?_⟩
              · show GrowR K' A6 12 35 (k + 1) v ((rs ++ [x]).flatMap nodeC)
                rw [List.flatMap_append, List.flatMap_singleton]; exact hG6
              · show (rs ++ [x]).map (·.1) = (ps.take (k + 1)).map fun y => toldOf T (bytesOf y)
                rw [List.take_succ_eq_append_getElem hkl, List.map_append, List.map_append, hrs, List.map_singleton, List.map_singleton, ← hq, hx]
              · rcases List.mem_append.1 hy with hy | hy
                · exact (hdat y hy).sub (minus_mono hKK)
                · simp only [List.mem_singleton] at hy
                  subst hy
                  rw [hx, htold]
                  refine hS4.sub fun j o hj => ?_
                  have hAj : A.blk j = none := by
                    cases hAj : A.blk j with
                    | none => rfl
                    | some o' => rw [minus_none _ (hAs.trans hLA _ _ hAj)] at hj; cases hj
                  show (match A.blk j with
                    | none => K'.blk j
                    | some _ => none) = some o
                  rw [hAj]; exact hNK _ _ hj
            conv => lhs; whnf
            exact (hD _).2 ⟨(⟨k + 1, A6, K', v, rs ++ [x]⟩ : A2G), ⟨hg6, ⟨inc_slot (k := k) (by omega), rfl, trivial⟩, trivial, rfl⟩, by show ps.length - (k + 1) < ps.length - k; omega, ⟨rfl, rfl, rfl, rfl, rfl, trivial⟩, trivial⟩
    · have e : k = ps.length := by
        have hlt : ¬ (k : Int) < (ps.length : Int) := hlt
        omega
      subst e
      rw [List.take_length] at hrs
      have hrs : rs.map (·.1) = treeAll T := by rw [hrs, hps]; rfl
      have hl : (treeAll T).length = ps.length := by rw [treeAll, List.length_map, hps]
      have hend : allS.post ⟨T, B, O, t⟩ [.pointer (some ⟨t, 0, none⟩)] A v0 Ak := by
        refine ⟨hAs.trans (hLK.trans hKA), rs, hrs, ?_, fun x hx => (hdat x hx).sub (minus_mono hKA)⟩
        rw [hl]
        exact grow_sl hGr (hAs.trans hLK)
      exact (hD _).2 hend

end
end Go.Proofs.YtfpfjobknefedaaGreatDoor

namespace Go.Proofs.YtfpfjobknefedaaGreatDoor
open Go.Sx Go.RowKit
noncomputable section
open Classical

def NodesR (A : Arena) (v : Value) (l : List (ToldD × Value)) : Prop := Sl A 12 l.length v (l.flatMap nodeC) ∧ ∀ x ∈ l, SlB A x.2 x.1.data

theorem treeSits_len (T : TreeD) : (treeSits T).length = T.seats.length := by rw [treeSits, List.length_map, sortI_length, List.length_map]
theorem treeAll_len (T : TreeD) : (treeAll T).length = T.nodes.length := by rw [treeAll, List.length_map, treePaths, sortL_length, List.length_map]

theorem nodesR_of {A B : Arena} {v : Value} {ns : List ToldD} (h : NodesS A v ns) (hs : A.Sub B) : ∃ l : List (ToldD × Value), l.map (·.1) = ns ∧ NodesR B v l := by
  obtain ⟨l, h1, h2, h3⟩ := h
  have hl : l.length = ns.length := by rw [← h1, List.length_map]
  exact ⟨l, h1, by rw [hl]; exact h2.sub hs, fun x hx => (h3 x hx).sub hs⟩

/-- Do two trees tell the same? -/
def TSame (T U : TreeD) : Prop := treeAll T = treeAll U ∧ treeSits T = treeSits U

def TFits (T : TreeD) : Prop := SeatsOk T ∧ T.nodes.length ≤ 1000000 ∧ T.seats.length ≤ 1000000

end
end Go.Proofs.YtfpfjobknefedaaGreatDoor

namespace Go.Proofs.YtfpfjobknefedaaGreatDoor
open Go.Sx Go.RowKit
noncomputable section
open Classical

section
variable {κ α : Type} [BEq κ] [LawfulBEq κ]

theorem kGet_some {q : κ} {x : α} {l : List (κ × α)} (hn : (l.map (·.1)).Nodup) : kGet q l = some x ↔ (q, x) ∈ l :=
  ⟨fun h => kGet_mem (fun _ h => (eq_of_beq h).symm) h, fun h => kGet_of_mem (fun _ => BEq.rfl) (fun _ _ h => (eq_of_beq h).symm) hn h⟩

theorem kGet_perm {l l' : List (κ × α)} (h : l.Perm l') (hn : (l.map (·.1)).Nodup) (q : κ) : kGet q l = kGet q l' := by
  have hn' : (l'.map (·.1)).Nodup := (h.map (·.1)).nodup_iff.1 hn
  cases hk : kGet q l with
  | some x => exact ((kGet_some hn').2 (h.mem_iff.1 ((kGet_some hn).1 hk))).symm
  | none =>
    refine (kGet_not fun hm => ?_).symm
    exact kGet_none BEq.rfl hk ((h.map (·.1)).mem_iff.2 hm)

theorem kGet_fold [DecidableEq κ] (q : κ) : ∀ (l m : List (κ × α)), (l.map (·.1)).Nodup → kGet q (l.foldl (fun m e => kPut e.1 e.2 m) m) = match kGet q l with | some x => some x | none => kGet q m
  | [], m, _ => rfl
  | (r, y) :: l, m, hn => by
    rw [List.map_cons, List.nodup_cons] at hn
    rw [List.foldl_cons, kGet_fold q l _ hn.2, kGet_put]
    by_cases e : q = r
    · subst e
      simp only [kGet, BEq.rfl, cond_true, if_true]
      rw [kGet_not hn.1]
    · have hb : (q == r) = false := by simpa using e
      simp only [kGet, hb, cond_false, if_neg e]

theorem keys_perm {l l' : List (κ × α)} (h : ∀ q, kGet q l = kGet q l') (hn : (l.map (·.1)).Nodup) (hn' : (l'.map (·.1)).Nodup) : (l.map (·.1)).Perm (l'.map (·.1)) :=
  (List.perm_ext_iff_of_nodup hn hn').2 fun q => by rw [← kGet_iff, ← kGet_iff, h q]

end

/-! ### Alike: the same is told -/

theorem paths_same {T U : TreeD} (h : TEq T U) (hT : ND T) (hU : ND U) : treePaths T = treePaths U := by
  have hp := (keys_perm h.1 hT.1 hU.1).map pathL
  rw [List.map_map, List.map_map] at hp
  exact mergeSort_of_perm hp

theorem told_same {T U : TreeD} (h : TEq T U) (hT : ND T) (hU : ND U) (p : ByteArray) : toldOf T p = toldOf U p := by
  have hk : kidsN T p = kidsN U p := (keys_perm h.1 hT.1 hU.1).countP_eq _
  unfold toldOf
  rw [h.1 p, hk]

theorem TEq.same {T U : TreeD} (h : TEq T U) (hT : ND T) (hU : ND U) : TSame T U := by
  constructor
  · rw [treeAll, treeAll, paths_same h hT hU]
    exact List.map_congr_left fun x _ => told_same h hT hU _
  · have hs : sitOf T.seats = sitOf U.seats := by
      funext s
      unfold sitOf
      rw [h.2 s]
    rw [treeSits, treeSits, hs, sortI_of_perm (keys_perm h.2 hT.2 hU.2)]

theorem TreeAt.nd {A B : Arena} {O : Nat → Prop} {t : Nat} {T : TreeD} (h : TreeAt A B O t T) : ND T := by
  obtain ⟨m, s, E, h⟩ := h
  exact ⟨by rw [h.nodes, kMap_keys]; exact h.keys, h.skeys⟩

/-! ### What deeds keep -/

structure TOk (T : TreeD) : Prop where
  nd : ND T
  ses : ∀ s x, kGet s T.seats = some x → x.ses = s ∧ 1 ≤ s
  root : kGet rootS T.nodes ≠ none

theorem TOk.seatsOk {T : TreeD} (h : TOk T) : SeatsOk T := fun e he => (h.ses e.1 e.2 ((kGet_some h.nd.2).2 he)).1

theorem tok_new : TOk treeNew := ⟨⟨by simp [treeNew], by simp [treeNew]⟩, fun s x h => by simp [treeNew, kGet] at h, by simp [treeNew, kGet]⟩

theorem chg_root {h : DeedH} (hf : h.kind = 1 ∨ h.kind = 2 → h.path.data.toList ≠ [47]) (z time : Int) {o : Option NodeD} (ho : o ≠ none) : chgF h z time rootS o ≠ none := by
  have hm : ∀ {o : Option NodeD}, o ≠ none → markF h z rootS o ≠ none := fun {o} ho => by
    unfold markF
    split
    · cases o with
      | none => exact absurd rfl ho
      | some x => simp
    · exact ho
  unfold chgF
  split
  · split
    · cases o with
      | none => exact absurd rfl ho
      | some x => simp
    · exact ho
  · split
    · refine hm ?_
      split
      · simp
      · exact ho
    · split
      · rename_i h2
        refine hm ?_
        rw [if_neg fun e => hf (.inr h2) (by rw [← e]; rfl)]
        exact ho
      · exact hm ho

theorem fits_root {h : DeedH} {np : Nat} (hf : FitsD h np) : h.kind = 1 ∨ h.kind = 2 → h.path.data.toList ≠ [47] := by
  obtain ⟨_, _, _, _, _, _, _, _, _, _, _, _, _, _, _, h9, _⟩ := hf
  exact h9

theorem parts_root (z time : Int) : ∀ (ps : List DeedD), (∀ p ∈ ps, FitsD p.h p.parts.length) → ∀ {o : Option NodeD}, o ≠ none → partsF ps z time rootS o ≠ none
  | [], _, o, ho => ho
  | p :: ps, hp, o, ho => parts_root z time ps (fun q hq => hp q (List.mem_cons_of_mem _ hq)) (chg_root (fits_root (hp p (by simp))) z time ho)

theorem TOk.apply {T : TreeD} (h : TOk T) (d : DeedD) : TOk (treeApply T d) := by
  obtain ⟨k0, k1, k2⟩ := apply_all h.nd d
  refine ⟨k0, fun s x hx => ?_, ?_⟩
  · rw [k2] at hx
    by_cases hr : RightD d
    · rw [if_pos hr] at hx
      have hz : 1 ≤ d.h.zxid := hr.1
      have key : ∀ o : Option SitD, (∀ y, o = some y → y.ses = s ∧ 1 ≤ s) → touchF d s o = some x → x.ses = s ∧ 1 ≤ s := fun o ho hx => by
        unfold touchF at hx
        split at hx
        · cases o with
          | none => cases hx
          | some y =>
            injection hx with hx
            subst hx
            exact ho y rfl
        · exact ho x hx
      refine key _ (fun y hy => ?_) hx
      split at hy
      · split at hy
        · rename_i e
          injection hy with hy
          subst hy
          rw [e]; exact ⟨rfl, hz⟩
        · exact h.ses s y hy
      · split at hy
        · split at hy
          · cases hy
          · exact h.ses s y hy
        · exact h.ses s y hy
    · rw [if_neg hr] at hx
      exact h.ses s x hx
  · rw [k1]
    by_cases hr : RightD d
    · rw [if_pos hr]
      unfold doF
      split
      · exact chg_root (fits_root hr.2.2.2.2.2.2.1) _ _ h.root
      · split
        · rename_i h58
          refine parts_root _ _ _ (fun p hp => ?_) h.root
          rcases h58 with h5 | h8
          · exact ((hr.2.2.2.2.2.2.2.1 h5).2.2 p hp).2.2.2.2.2.1
          · exact ((hr.2.2.2.2.2.2.2.2.2 h8).2.2 p hp).2.2.2.2.2.1
        · exact h.root
    · rw [if_neg hr]; exact h.root

theorem kDel_len {κ α : Type} [BEq κ] [LawfulBEq κ] (p : κ) (l : List (κ × α)) : (kDel p l).length ≤ l.length := (kDel_sub p l).length_le

theorem parts_seats (z time : Int) : ∀ (ps : List DeedD) (T : TreeD), (treeParts T ps z time).seats = T.seats
  | [], _ => rfl
  | p :: ps, T => (parts_seats z time ps _).trans (change_seats T p.h z time)

theorem apply_slen (T : TreeD) (d : DeedD) : (treeApply T d).seats.length ≤ T.seats.length + 2 := by
  have h1 : (treeDo T d).seats.length ≤ T.seats.length + 1 := by
    unfold treeDo
    split
    · rw [change_seats]; omega
    · split
      · exact kPut_len _ _ _
      · split
        · rw [parts_seats]
          have := kDel_len d.h.owner T.seats
          show (kDel d.h.owner T.seats).length ≤ _
          omega
        · split
          · rw [parts_seats]; omega
          · omega
  unfold treeApply
  split
  · unfold treeTouch
    split
    · have := kPut_len d.h.ses ⟨‹SitD›.ses, ‹SitD›.tmo, max ‹SitD›.turn d.h.turn⟩ (treeDo T d).seats
      show (kPut _ _ (treeDo T d).seats).length ≤ _
      omega
    · omega
  · omega

/-! ### Copies -/

theorem copy_eq {T : TreeD} (h : TOk T) {E sk : List (ByteArray × Nat × NodeD)} (hE : T.nodes = kMap (·.2) E) (hp : sk.Perm E) : TEq T ⟨copyNodes sk, seatsOf (treeSits T)⟩ := by
  constructor
  · intro q
    have h1 : copyNodes sk = (kMap (·.2) sk).foldl (fun m e => kPut e.1 e.2 m) treeNew.nodes := by
      unfold copyNodes kMap
      rw [List.foldl_map]
    have hpm : T.nodes.Perm (kMap (·.2) sk) := by
      rw [hE]
      exact (hp.map _).symm
    have hn : ((kMap (·.2) sk).map (·.1)).Nodup := (hpm.map (·.1)).nodup_iff.1 h.nd.1
    show kGet q T.nodes = kGet q (copyNodes sk)
    rw [h1, kGet_fold q _ _ hn, ← kGet_perm hpm h.nd.1 q]
    cases hk : kGet q T.nodes with
    | some x => rfl
    | none =>
      by_cases e : q = rootS
      · subst e; exact absurd hk h.root
      · have hb : (q == rootS) = false := by simpa using e
        simp [treeNew, kGet, hb]
  · intro s
    have hpos : ∀ x ∈ treeSits T, 1 ≤ x.ses ∧ kGet x.ses T.seats = some x := fun x hx => by
      obtain ⟨k, hk, rfl⟩ := List.mem_map.1 hx
      have hk := (sortI_perm _).mem_iff.1 hk
      obtain ⟨e, he, rfl⟩ := List.mem_map.1 hk
      have hg := (kGet_some h.nd.2).2 (show (e.1, e.2) ∈ T.seats from he)
      have hs := h.ses _ _ hg
      have hso : sitOf T.seats e.1 = e.2 := sitOf_mem h.nd.2 h.seatsOk he
      rw [hso, hs.1]
      exact ⟨hs.2, hg⟩
    have h1 : ∀ (l : List SitD) (m : List (Int × SitD)), (∀ x ∈ l, 1 ≤ x.ses) → l.foldl seatOne m = (l.map fun x => (x.ses, x)).foldl (fun m e => kPut e.1 e.2 m) m := fun l => by
      induction l with
      | nil => exact fun m _ => rfl
      | cons x l ih =>
        intro m hl
        rw [List.foldl_cons, List.map_cons, List.foldl_cons, ih _ fun y hy => hl y (List.mem_cons_of_mem _ hy)]
        have := hl x (by simp)
        rw [seatOne, if_neg (by omega)]
    have hkeys : ((treeSits T).map fun x => (x.ses, x)).map (·.1) = sortI (T.seats.map (·.1)) := by
      rw [List.map_map, treeSits, List.map_map]
      refine (List.map_congr_left fun k _ => ?_).trans (List.map_id _)
      exact sitOf_ses _ _
    have hn : (((treeSits T).map fun x => (x.ses, x)).map (·.1)).Nodup := by
      rw [hkeys]
      exact (sortI_perm _).nodup_iff.2 h.nd.2
    show kGet s T.seats = kGet s (seatsOf (treeSits T))
    unfold seatsOf
    rw [h1 _ _ fun x hx => (hpos x hx).1, kGet_fold s _ _ hn]
    cases hk : kGet s T.seats with
    | some x =>
      have hx : (s, x) ∈ (treeSits T).map fun x => (x.ses, x) := by
        have hm := (kGet_some h.nd.2).1 hk
        refine List.mem_map.2 ⟨x, List.mem_map.2 ⟨s, (sortI_perm _).mem_iff.2 (List.mem_map.2 ⟨_, hm, rfl⟩), sitOf_mem h.nd.2 h.seatsOk hm⟩, ?_⟩
        rw [(h.ses s x hk).1]
      rw [(kGet_some hn).2 hx]
    | none =>
      rw [kGet_not (l := (treeSits T).map fun x => (x.ses, x)) fun hm => ?_]
      · rfl
      · rw [hkeys] at hm
        exact kGet_none (by simp) hk ((sortI_perm _).mem_iff.1 hm)

end
end Go.Proofs.YtfpfjobknefedaaGreatDoor

namespace Go.Proofs.YtfpfjobknefedaaGreatDoor
open Go.Sx Go.RowKit
noncomputable section
open Classical

/-! ### The order of paths -/

theorem ltL_iff : ∀ (l m : List UInt8), ltL l m = true ↔ l < m
  | [], [] => by simp [ltL]
  | _ :: _, [] => by simp [ltL]
  | [], _ :: _ => by simp [ltL]
  | a :: l, b :: m => by
    rw [List.cons_lt_cons_iff, ← ltL_iff l m]
    simp only [ltL]
    by_cases h : a < b
    · have h' : a.toNat < b.toNat := UInt8.lt_iff_toNat_lt.1 h
      have hb : Nat.blt a.toNat b.toNat = true := Nat.ble_eq.mpr h'
      simp [hb, h]
    · have h' : ¬ a.toNat < b.toNat := fun x => h (UInt8.lt_iff_toNat_lt.2 x)
      have hb : Nat.blt a.toNat b.toNat = false := by
        cases hx : Nat.blt a.toNat b.toNat with
        | false => rfl
        | true => exact absurd (Nat.le_of_ble_eq_true hx) h'
      by_cases e : a = b
      · subst e
        simp [hb, h]
      · have he : Nat.beq a.toNat b.toNat = false := by
          cases hx : Nat.beq a.toNat b.toNat with
          | false => rfl
          | true => exact absurd (UInt8.toNat_inj.1 (Nat.eq_of_beq_eq_true hx)) e
        simp [hb, he, h, e]

theorem ltL_tri : ∀ {l m : List UInt8}, ltL l m = false → ltL m l = false → l = m
  | [], [], _, _ => rfl
  | _ :: _, [], _, h => by simp [ltL] at h
  | [], _ :: _, h, _ => by simp [ltL] at h
  | a :: l, b :: m, h1, h2 => by
    simp only [ltL] at h1 h2
    cases hab : Nat.blt a.toNat b.toNat with
    | true => rw [hab] at h1; cases h1
    | false =>
      cases hba : Nat.blt b.toNat a.toNat with
      | true => rw [hba] at h2; cases h2
      | false =>
        have h3 : ¬ a.toNat < b.toNat := fun h => by
          have : Nat.blt a.toNat b.toNat = true := Nat.ble_eq.mpr h
          rw [hab] at this; cases this
        have h4 : ¬ b.toNat < a.toNat := fun h => by
          have : Nat.blt b.toNat a.toNat = true := Nat.ble_eq.mpr h
          rw [hba] at this; cases this
        have e : a.toNat = b.toNat := by omega
        have hb1 : Nat.beq a.toNat b.toNat = true := by rw [e]; exact Nat.beq_refl _
        have hb2 : Nat.beq b.toNat a.toNat = true := by rw [e]; exact Nat.beq_refl _
        rw [hab, hb1] at h1
        rw [hba, hb2] at h2
        rw [UInt8.toNat_inj.1 e, ltL_tri h1 h2]

theorem pathL_inj {p q : ByteArray} (h : pathL p = pathL q) : p = q := bytes_ext h

theorem paths_nodup {T : TreeD} (h : ND T) : (treePaths T).Nodup := by
  refine (sortL_perm _).nodup_iff.2 ?_
  have h1 := h.1
  exact List.pairwise_map.2 ((List.pairwise_map.1 h1).imp fun hab e => hab (pathL_inj e))

theorem paths_sorted {T : TreeD} (h : ND T) : (treePaths T).Pairwise fun a b => ltL a b = true := by
  have hs : (treePaths T).Pairwise fun a b => a ≤ b := by
    have tr : ∀ a b c : List UInt8, decide (a ≤ b) = true → decide (b ≤ c) = true → decide (a ≤ c) = true := fun a b c h1 h2 => by
      simp only [decide_eq_true_eq] at *; exact List.le_trans h1 h2
    have to : ∀ a b : List UInt8, (decide (a ≤ b) || decide (b ≤ a)) = true := fun a b => by
      simp only [Bool.or_eq_true, decide_eq_true_eq]; exact List.le_total a b
    exact (List.pairwise_mergeSort tr to _).imp fun h => of_decide_eq_true h
  refine (hs.and (paths_nodup h)).imp fun {a b} hab => ?_
  cases h : ltL a b with
  | true => rfl
  | false =>
    refine absurd (ltL_tri h ?_) hab.2
    cases h2 : ltL b a with
    | false => rfl
    | true => exact absurd ((ltL_iff b a).1 h2) (List.not_lt.2 hab.1)

/-! ### Children -/

theorem kids_len (T : TreeD) (p : ByteArray) : (treeKids T p).length = kidsN T p := by
  rw [treeKids, sortL_length, kidsOf, List.length_map, kidsN, List.countP_eq_length_filter]

theorem count_cons {p : ByteArray} {ps : List ByteArray} (hp : p ∉ ps) : ∀ keys : List ByteArray, (keys.countP fun q => decide (parentP q = p)) + (keys.countP fun q => decide (parentP q ∈ ps)) = keys.countP fun q => decide (parentP q ∈ p :: ps)
  | [] => rfl
  | q :: keys => by
    have ih := count_cons hp keys
    rw [List.countP_cons, List.countP_cons, List.countP_cons, ← ih]
    by_cases h1 : parentP q = p
    · have h3 : p ∈ p :: ps := by simp
      simp only [h1, h3, hp, decide_true, decide_false, Bool.false_eq_true, if_true, if_false]
      omega
    · by_cases h2 : parentP q ∈ ps
      · have h3 : parentP q ∈ p :: ps := List.mem_cons_of_mem _ h2
        simp only [h1, h2, h3, decide_true, decide_false, Bool.false_eq_true, if_true, if_false]
        omega
      · have h3 : ¬ parentP q ∈ p :: ps := fun h => by
          rcases List.mem_cons.1 h with h | h
          · exact h1 h
          · exact h2 h
        simp only [h1, h2, h3, decide_false, Bool.false_eq_true, if_false]
        omega

theorem sum_kids (keys : List ByteArray) : ∀ ps : List ByteArray, ps.Nodup → (ps.map fun p => keys.countP fun q => decide (parentP q = p)).sum = keys.countP fun q => decide (parentP q ∈ ps)
  | [], _ => by simp
  | p :: ps, hn => by
    rw [List.nodup_cons] at hn
    rw [List.map_cons, List.sum_cons, sum_kids keys ps hn.2, count_cons hn.1]

theorem parent_root : parentP rootS = ⟨#[]⟩ := by
  unfold parentP cutP
  rw [if_neg fun h => h.2 rfl]

/-- All nodes but the root have one parent at most. -/
theorem kids_sum {T : TreeD} (h : TOk T) (hk : KeysOk T) : ((treePaths T).map fun x => kidsN T (bytesOf x)).sum + 1 ≤ T.nodes.length := by
  have h1 : ((treePaths T).map fun x => kidsN T (bytesOf x)) = (((treePaths T).map bytesOf).map fun p => (T.nodes.map (·.1)).countP fun q => decide (parentP q = p)) := by
    rw [List.map_map]; rfl
  have hn : ((treePaths T).map bytesOf).Nodup := by
    refine List.pairwise_map.2 ((paths_nodup h.nd).imp fun {a b} hab e => hab ?_)
    have := congrArg pathL e
    simpa [pathL, bytesOf] using this
  rw [h1, sum_kids _ _ hn]
  have hr : rootS ∈ T.nodes.map (·.1) := kGet_iff.1 h.root
  obtain ⟨a, b, e⟩ := List.append_of_mem hr
  have hl : T.nodes.length = a.length + (b.length + 1) := by
    have := congrArg List.length e
    simpa using this
  have hnr : ¬ parentP rootS ∈ (treePaths T).map bytesOf := fun hm => by
    rw [parent_root] at hm
    obtain ⟨x, hx, e⟩ := List.mem_map.1 hm
    have hm := paths_mem hx
    obtain ⟨y, hy, e2⟩ := List.mem_map.1 hm
    have := hk y hy
    rw [e2, e] at this
    cases this
  rw [e, List.countP_append, List.countP_cons, if_neg (by simpa using hnr), hl]
  have h2 := List.countP_le_length (p := fun q => decide (parentP q ∈ (treePaths T).map bytesOf)) (l := a)
  have h3 := List.countP_le_length (p := fun q => decide (parentP q ∈ (treePaths T).map bytesOf)) (l := b)
  omega

end
end Go.Proofs.YtfpfjobknefedaaGreatDoor

namespace Go.Proofs.YtfpfjobknefedaaGreatDoor
open Go.Sx Go.RowKit
noncomputable section
open Classical

/-! ### What nodes hold -/

def StatOk (s : StatD) : Prop := 0 ≤ s.czxid ∧ 0 ≤ s.mzxid ∧ 0 ≤ s.pzxid ∧ 0 ≤ s.ctime ∧ 0 ≤ s.mtime ∧ 0 ≤ s.ver ∧ 0 ≤ s.cver ∧ 0 ≤ s.owner ∧ 0 ≤ s.len ∧ 0 ≤ s.kids
def NdOk (n : NodeD) : Prop := n.data.length ≤ 1000 ∧ StatOk n.stat
def NodesOk (T : TreeD) : Prop := ∀ q n, kGet q T.nodes = some n → NdOk n

theorem chg_nd {h : DeedH} {np : Nat} (hf : FitsD h np) {z time : Int} (hz : 0 ≤ z) (ht : 0 ≤ time) {q : ByteArray} {o : Option NodeD} (ho : ∀ n, o = some n → NdOk n) : ∀ n, chgF h z time q o = some n → NdOk n := by
  obtain ⟨_, _, _, _, _, _, _, _, _, _, _, h1, h2, h3, h4, _⟩ := hf
  have hm : ∀ {o : Option NodeD}, (∀ n, o = some n → NdOk n) → ∀ n, markF h z q o = some n → NdOk n := fun {o} ho n hn => by
    unfold markF at hn
    split at hn
    · cases o with
      | none => cases hn
      | some x =>
        injection hn with hn
        obtain ⟨k1, k2, k3, k4, k5, k6, k7, k8, k9, k10, k11⟩ := ho x rfl
        subst hn
        exact ⟨k1, k2, k3, hz, k5, k6, k7, h4, k9, k10, k11⟩
    · exact ho n hn
  intro n hn
  unfold chgF at hn
  split at hn
  · split at hn
    · cases o with
      | none => cases hn
      | some x =>
        injection hn with hn
        obtain ⟨k1, k2, k3, k4, k5, k6, k7, k8, k9, k10, k11⟩ := ho x rfl
        subst hn
        exact ⟨h1, k2, hz, k4, k5, ht, h3, k8, k9, k10, k11⟩
    · exact ho n hn
  · split at hn
    · refine hm (fun m hm => ?_) n hn
      split at hm
      · injection hm with hm
        subst hm
        exact ⟨h1, hz, hz, hz, ht, ht, Int.le_refl _, Int.le_refl _, h2, Int.le_refl _, Int.le_refl _⟩
      · exact ho m hm
    · split at hn
      · refine hm (fun m hm => ?_) n hn
        split at hm
        · cases hm
        · exact ho m hm
      · exact hm ho n hn

theorem parts_nd {z time : Int} (hz : 0 ≤ z) (ht : 0 ≤ time) {q : ByteArray} : ∀ (ps : List DeedD), (∀ p ∈ ps, FitsD p.h p.parts.length) → ∀ {o : Option NodeD}, (∀ n, o = some n → NdOk n) → ∀ n, partsF ps z time q o = some n → NdOk n
  | [], _, _, ho => ho
  | p :: ps, hp, _, ho => parts_nd hz ht ps (fun q hq => hp q (List.mem_cons_of_mem _ hq)) (chg_nd (hp p (by simp)) hz ht ho)

theorem NodesOk.apply {T : TreeD} (h : NodesOk T) (hn : ND T) (d : DeedD) : NodesOk (treeApply T d) := fun q n hq => by
  obtain ⟨_, k1, _⟩ := apply_all hn d
  rw [k1] at hq
  by_cases hr : RightD d
  · rw [if_pos hr] at hq
    have hz : 0 ≤ d.h.zxid := by have := hr.1; omega
    have ht : 0 ≤ d.h.time := hr.2.2.2.2.2.1
    unfold doF at hq
    split at hq
    · exact chg_nd hr.2.2.2.2.2.2.1 hz ht (h q) n hq
    · split at hq
      · rename_i h58
        refine parts_nd hz ht d.parts (fun p hp => ?_) (h q) n hq
        rcases h58 with h5 | h8
        · exact ((hr.2.2.2.2.2.2.2.1 h5).2.2 p hp).2.2.2.2.2.1
        · exact ((hr.2.2.2.2.2.2.2.2.2 h8).2.2 p hp).2.2.2.2.2.1
      · exact h q n hq
  · rw [if_neg hr] at hq
    exact h q n hq

theorem nodesOk_new : NodesOk treeNew := fun q n hq => by
  simp only [treeNew, kGet] at hq
  cases hb : q == rootS with
  | false => rw [hb] at hq; cases hq
  | true =>
    rw [hb] at hq
    injection hq with hq
    subst hq
    exact ⟨by simp, by simp [StatOk]⟩

/-! ### Alike but for what is reckoned -/

def erN (n : NodeD) : NodeD := ⟨n.data, { n.stat with len := 0, kids := 0 }⟩

def TSim (T U : TreeD) : Prop := (∀ q, (kGet q T.nodes).map erN = (kGet q U.nodes).map erN) ∧ ∀ s, kGet s T.seats = kGet s U.seats

theorem TEq.sim {T U : TreeD} (h : TEq T U) : TSim T U := ⟨fun q => by rw [h.1], h.2⟩

theorem keys_sim {T U : TreeD} (h : TSim T U) (hT : ND T) (hU : ND U) : (T.nodes.map (·.1)).Perm (U.nodes.map (·.1)) :=
  (List.perm_ext_iff_of_nodup hT.1 hU.1).2 fun q => by
    rw [← kGet_iff, ← kGet_iff]
    have := h.1 q
    cases h1 : kGet q T.nodes <;> cases h2 : kGet q U.nodes <;> rw [h1, h2] at this <;> simp at this <;> simp

theorem TSim.same {T U : TreeD} (h : TSim T U) (hT : ND T) (hU : ND U) : TSame T U := by
  have hp := keys_sim h hT hU
  constructor
  · have e : treePaths T = treePaths U := by
      have hp := hp.map pathL
      rw [List.map_map, List.map_map] at hp
      exact mergeSort_of_perm hp
    rw [treeAll, treeAll, e]
    refine List.map_congr_left fun x _ => ?_
    have hk : kidsN T (bytesOf x) = kidsN U (bytesOf x) := hp.countP_eq _
    have := h.1 (bytesOf x)
    unfold toldOf
    rw [hk]
    cases h1 : kGet (bytesOf x) T.nodes with
    | none =>
      cases h2 : kGet (bytesOf x) U.nodes with
      | none => rfl
      | some m => rw [h1, h2] at this; cases this
    | some n =>
      cases h2 : kGet (bytesOf x) U.nodes with
      | none => rw [h1, h2] at this; cases this
      | some m =>
        rw [h1, h2] at this
        injection this with this
        obtain ⟨nd, ⟨n1, n2, n3, n4, n5, n6, n7, n8, n9, n10⟩⟩ := n
        obtain ⟨md, ⟨m1, m2, m3, m4, m5, m6, m7, m8, m9, m10⟩⟩ := m
        simp only [erN, NodeD.mk.injEq, StatD.mk.injEq] at this
        obtain ⟨rfl, rfl, rfl, rfl, rfl, rfl, rfl, rfl, rfl, -⟩ := this
        rfl
  · have hs : sitOf T.seats = sitOf U.seats := by
      funext s
      unfold sitOf
      rw [h.2 s]
    have hks := keys_perm h.2 hT.2 hU.2
    rw [treeSits, treeSits, hs, sortI_of_perm hks]

/-! ### Nodes that are loaded -/

def loadN (l : List ToldD) : List (ByteArray × NodeD) := l.foldl (fun m x => kPut x.path ⟨x.data, x.stat⟩ m) []

theorem loadN_snoc (l : List ToldD) (x : ToldD) : loadN (l ++ [x]) = kPut x.path ⟨x.data, x.stat⟩ (loadN l) := by
  unfold loadN; rw [List.foldl_append]; rfl

theorem loadN_get {l : List ToldD} (hn : (l.map (·.path)).Nodup) (q : ByteArray) : kGet q (loadN l) = kGet q (l.map fun x => (x.path, (⟨x.data, x.stat⟩ : NodeD))) := by
  have h1 : loadN l = (l.map fun x => (x.path, (⟨x.data, x.stat⟩ : NodeD))).foldl (fun m e => kPut e.1 e.2 m) [] := by
    unfold loadN; rw [List.foldl_map]
  rw [h1, kGet_fold q _ _ (by rw [List.map_map]; exact hn)]
  cases kGet q (l.map fun x => (x.path, (⟨x.data, x.stat⟩ : NodeD))) <;> rfl

theorem told_path (T : TreeD) (p : ByteArray) : (toldOf T p).path = p := by
  unfold toldOf; split <;> rfl

theorem all_paths (T : TreeD) : (treeAll T).map (·.path) = (treePaths T).map bytesOf := by
  rw [treeAll, List.map_map]
  exact List.map_congr_left fun x _ => told_path T _

theorem all_nodup {T : TreeD} (h : ND T) : ((treeAll T).map (·.path)).Nodup := by
  rw [all_paths]
  refine List.pairwise_map.2 ((paths_nodup h).imp fun {a b} hab e => hab ?_)
  have := congrArg pathL e
  simpa [pathL, bytesOf] using this

theorem load_sim {T : TreeD} (h : ND T) (q : ByteArray) : (kGet q (loadN (treeAll T))).map erN = (kGet q T.nodes).map erN := by
  rw [loadN_get (all_nodup h)]
  have hn : (((treeAll T).map fun x => (x.path, (⟨x.data, x.stat⟩ : NodeD))).map (·.1)).Nodup := by
    rw [List.map_map]; exact all_nodup h
  cases hk : kGet q T.nodes with
  | some n =>
    have hm : pathL q ∈ treePaths T := (sortL_perm _).mem_iff.2 (List.mem_map.2 ⟨(q, n), (kGet_some h.1).1 hk, rfl⟩)
    have ht : toldOf T q = ⟨q, n.data, { n.stat with len := n.data.length, kids := kidsN T q }⟩ := by unfold toldOf; rw [hk]
    have hx : (q, (⟨n.data, { n.stat with len := n.data.length, kids := kidsN T q }⟩ : NodeD)) ∈ (treeAll T).map fun x => (x.path, (⟨x.data, x.stat⟩ : NodeD)) := by
      refine List.mem_map.2 ⟨toldOf T q, List.mem_map.2 ⟨pathL q, hm, by rw [bytesOf_pathL]⟩, ?_⟩
      rw [ht]
    rw [(kGet_some hn).2 hx]
    rfl
  | none =>
    rw [kGet_not fun hm => ?_]
    rw [List.map_map] at hm
    have hm : q ∈ (treeAll T).map (·.path) := hm
    rw [all_paths] at hm
    obtain ⟨x, hx, rfl⟩ := List.mem_map.1 hm
    exact kGet_iff.2 (paths_mem hx) hk

/-! ### Rows of deeds -/

theorem er_chg (h : DeedH) (z time : Int) (q : ByteArray) (o : Option NodeD) : (chgF h z time q o).map erN = chgF h z time q (o.map erN) := by
  have hm : ∀ o : Option NodeD, (markF h z q o).map erN = markF h z q (o.map erN) := fun o => by
    unfold markF
    split
    · cases o <;> rfl
    · rfl
  unfold chgF
  split
  · split
    · cases o <;> rfl
    · rfl
  · split
    · rw [hm]
      split <;> rfl
    · split
      · rw [hm]
        split <;> rfl
      · exact hm o

theorem er_parts (z time : Int) (q : ByteArray) : ∀ (ps : List DeedD) (o : Option NodeD), (partsF ps z time q o).map erN = partsF ps z time q (o.map erN)
  | [], _ => rfl
  | p :: ps, o => by
    show (partsF ps z time q (chgF p.h z time q o)).map erN = partsF ps z time q (chgF p.h z time q (o.map erN))
    rw [er_parts z time q ps, er_chg]

theorem er_do (d : DeedD) (q : ByteArray) (o : Option NodeD) : (doF d q o).map erN = doF d q (o.map erN) := by
  unfold doF
  split
  · exact er_chg _ _ _ _ _
  · split
    · exact er_parts _ _ _ _ _
    · rfl

theorem TSim.apply {T U : TreeD} (h : TSim T U) (hT : ND T) (hU : ND U) (d : DeedD) : TSim (treeApply T d) (treeApply U d) := by
  obtain ⟨_, k1, k2⟩ := apply_all hT d
  obtain ⟨_, j1, j2⟩ := apply_all hU d
  refine ⟨fun q => ?_, fun s => by rw [k2, j2, h.2]⟩
  rw [k1, j1]
  split
  · rw [er_do, er_do, h.1]
  · exact h.1 q

/-- What a row of deeds does to the node of a path. -/
def rowF (ds : List DeedD) (q : ByteArray) (o : Option NodeD) : Option NodeD := ds.foldl (fun o d => if RightD d then doF d q o else o) o
def rowS (ds : List DeedD) (s : Int) (o : Option SitD) : Option SitD := ds.foldl (fun o d => if RightD d then sitF d s o else o) o
def treeRow (T : TreeD) (ds : List DeedD) : TreeD := ds.foldl treeApply T

theorem ow_row (q : ByteArray) : ∀ ds : List DeedD, Ow (rowF ds q)
  | [] => ow_id
  | d :: ds => by
    show Ow fun o => rowF ds q (if RightD d then doF d q o else o)
    by_cases h : RightD d
    · simp only [h, if_true]; exact ow_comp (ow_do d q) (ow_row q ds)
    · simp only [h, if_false]; exact ow_row q ds

theorem row_all : ∀ (ds : List DeedD) {T : TreeD}, ND T → ND (treeRow T ds) ∧ (∀ q, kGet q (treeRow T ds).nodes = rowF ds q (kGet q T.nodes)) ∧ ∀ s, kGet s (treeRow T ds).seats = rowS ds s (kGet s T.seats)
  | [], _, h => ⟨h, fun _ => rfl, fun _ => rfl⟩
  | d :: ds, T, h => by
    obtain ⟨k0, k1, k2⟩ := apply_all h d
    obtain ⟨j0, j1, j2⟩ := row_all ds k0
    exact ⟨j0, fun q => (j1 q).trans (by rw [k1]; rfl), fun s => (j2 s).trans (by rw [k2]; rfl)⟩

theorem row_append (T : TreeD) (ds es : List DeedD) : treeRow T (ds ++ es) = treeRow (treeRow T ds) es := by
  unfold treeRow; rw [List.foldl_append]

theorem TSim.row {T U : TreeD} (h : TSim T U) : ∀ (ds : List DeedD), ND T → ND U → TSim (treeRow T ds) (treeRow U ds) := fun ds => by
  induction ds generalizing T U with
  | nil => exact fun _ _ => h
  | cons d ds ih => exact fun hT hU => ih (h.apply hT hU d) (apply_all hT d).1 (apply_all hU d).1

/-- A sitting's changes. -/
def SOw (f : Option SitD → Option SitD) : Prop := (∃ c, f = fun _ => c) ∨ ∃ t : Option Int, f = Option.map fun x => ⟨x.ses, x.tmo, match t with | some t => max x.turn t | none => x.turn⟩

theorem sow_id : SOw fun o => o := .inr ⟨none, by funext o; cases o <;> rfl⟩

theorem sow_comp {f g : Option SitD → Option SitD} (hf : SOw f) (hg : SOw g) : SOw fun o => g (f o) := by
  rcases hg with ⟨c, rfl⟩ | ⟨t', rfl⟩
  · exact .inl ⟨c, rfl⟩
  · rcases hf with ⟨c, rfl⟩ | ⟨t, rfl⟩
    · exact .inl ⟨c.map _, rfl⟩
    · refine .inr ⟨match t, t' with | some a, some b => some (max a b) | some a, none => some a | none, y => y, ?_⟩
      funext o
      cases o with
      | none => rfl
      | some x =>
        cases t <;> cases t' <;> simp only [Option.map_some] <;> try rfl
        congr 2
        omega

theorem sow_idem {f : Option SitD → Option SitD} (hf : SOw f) (o : Option SitD) : f (f o) = f o := by
  rcases hf with ⟨c, rfl⟩ | ⟨t, rfl⟩
  · rfl
  · cases o with
    | none => rfl
    | some x =>
      cases t with
      | none => rfl
      | some t =>
        simp only [Option.map_some]
        congr 2
        omega

theorem sow_touch (d : DeedD) (s : Int) : SOw (touchF d s) := by
  unfold touchF
  by_cases e : s = d.h.ses
  · simp only [e, if_true]; exact .inr ⟨some d.h.turn, rfl⟩
  · simp only [e, if_false]; exact sow_id

theorem sow_sit (d : DeedD) (s : Int) : SOw (sitF d s) := by
  unfold sitF
  by_cases h4 : d.h.kind = 4
  · simp only [h4, if_true]
    by_cases e : s = d.h.zxid
    · simp only [e, if_true]; exact .inl ⟨_, rfl⟩
    · simp only [e, if_false]; exact sow_touch d s
  · simp only [h4, if_false]
    by_cases h5 : d.h.kind = 5
    · simp only [h5, if_true]
      by_cases e : s = d.h.owner
      · simp only [e, if_true]; exact .inl ⟨_, rfl⟩
      · simp only [e, if_false]; exact sow_touch d s
    · simp only [h5, if_false]; exact sow_touch d s

theorem sow_row (s : Int) : ∀ ds : List DeedD, SOw (rowS ds s)
  | [] => sow_id
  | d :: ds => by
    show SOw fun o => rowS ds s (if RightD d then sitF d s o else o)
    by_cases h : RightD d
    · simp only [h, if_true]; exact sow_comp (sow_sit d s) (sow_row s ds)
    · simp only [h, if_false]; exact sow_row s ds

end
end Go.Proofs.YtfpfjobknefedaaGreatDoor
