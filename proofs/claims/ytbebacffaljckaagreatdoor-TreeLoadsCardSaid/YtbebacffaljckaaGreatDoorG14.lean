/-
  What deeds leave in a tree: its paths are right, it grows by so much.
  Contracts: slices.Sort at strings, by the kit's law of it over any program.
  Contracts: strings.HasPrefix.
  Rows that a loop makes by append.
  Contracts: the names of a node's children.
  Contracts: a new tree; a node as it is told; a node got.
  Contracts: slices.SortFunc at sittings by their sessions, by the kit's law of it over any program.
  Walks over maps of the arena: what was met, what is left.
  Contracts: a tree's sittings, sorted by session.
  Contracts: a tree's paths, sorted.
  What deeds do to a tree, node by node and sitting by sitting: each by itself, and once is as twice.
  Contracts: a node got; the answer to a reading.
  Plain: sittings as a row, and as a tree has them.
-/
import Derived.Test.YtbebacffaljckaaGreatDoorG13
import Derived.Shelf.Sort.Plain
import Derived.Shelf.Slices.In.SortNone
import Derived.Test.YtbebacffaljckaaGreatDoorG06
import Derived.Test.YtbebacffaljckaaGreatDoorG07
import Derived.Sort.KeysCollected
import Derived.Shelf.SlSortCmp.NoneTotal
import Derived.Lib.SlKeysI
namespace Go.Proofs.YtbebacffaljckaaGreatDoor
open Go.Sx Go.RowKit
noncomputable section
open Classical

def KeysOk (T : TreeD) : Prop := ∀ e ∈ T.nodes, pathOk e.1.data.toList = true

theorem kMod_keys {κ α : Type} [BEq κ] (p : κ) (f : α → α) : ∀ l : List (κ × α), (kMod p f l).map (·.1) = l.map (·.1)
  | [] => rfl
  | (q, x) :: l => by
    simp only [kMod]
    cases p == q
    · simp [kMod_keys p f l]
    · rfl

theorem kPut_keys {κ α : Type} [BEq κ] (p : κ) (x : α) : ∀ (l : List (κ × α)) (q : κ), q ∈ (kPut p x l).map (·.1) → q ∈ l.map (·.1) ∨ q = p
  | [], q, h => by simpa [kPut] using h
  | (r, y) :: l, q, h => by
    simp only [kPut] at h
    cases hb : p == r <;> rw [hb] at h <;> simp only [cond_true, cond_false, List.map_cons, List.mem_cons] at h ⊢
    · rcases h with h | h
      · exact .inl (.inl h)
      · rcases kPut_keys p x l q h with h | h
        · exact .inl (.inr h)
        · exact .inr h
    · rcases h with h | h
      · exact .inr h
      · exact .inl (.inr h)

theorem kPut_len {κ α : Type} [BEq κ] (p : κ) (x : α) : ∀ l : List (κ × α), (kPut p x l).length ≤ l.length + 1
  | [] => by simp [kPut]
  | (r, y) :: l => by
    simp only [kPut]
    cases p == r
    · have := kPut_len p x l
      simp; omega
    · simp

theorem keysOk_iff {T : TreeD} : KeysOk T ↔ ∀ q ∈ T.nodes.map (·.1), pathOk q.data.toList = true := by
  simp [KeysOk]

theorem mark_keys {T : TreeD} (h : KeysOk T) (p : ByteArray) (z cv : Int) : KeysOk (treeMark T p z cv) := by
  rw [keysOk_iff] at h ⊢
  rw [treeMark]
  show ∀ q ∈ (kMod _ _ T.nodes).map (·.1), _
  rw [kMod_keys]; exact h

theorem change_keys {T : TreeD} (h : KeysOk T) {d : DeedH} (hd : d.kind = 1 → pathOk d.path.data.toList = true) (z time : Int) : KeysOk (treeChange T d z time) := by
  rw [treeChange]
  split
  · rw [keysOk_iff] at h ⊢
    show ∀ q ∈ (kMod _ _ T.nodes).map (·.1), _
    rw [kMod_keys]; exact h
  · split
    · rename_i h1
      refine mark_keys ?_ _ _ _
      rw [keysOk_iff] at h ⊢
      intro q hq
      rcases kPut_keys _ _ _ _ hq with h2 | rfl
      · exact h q h2
      · exact hd h1
    · split
      · refine mark_keys ?_ _ _ _
        intro e he
        exact h e ((kDel_sub _ _).subset he)
      · exact mark_keys h _ _ _

theorem mark_len (T : TreeD) (p : ByteArray) (z cv : Int) : (treeMark T p z cv).nodes.length = T.nodes.length := by
  rw [treeMark]
  have := congrArg List.length (kMod_keys (parentP p) (nodeMark z cv) T.nodes)
  simpa using this

theorem change_len (T : TreeD) (d : DeedH) (z time : Int) : (treeChange T d z time).nodes.length ≤ T.nodes.length + 1 := by
  rw [treeChange]
  split
  · have := congrArg List.length (kMod_keys d.path (nodeSet d z time) T.nodes)
    simp only [List.length_map] at this
    show (kMod _ _ T.nodes).length ≤ _
    omega
  · split
    · rw [mark_len]; exact kPut_len _ _ _
    · split
      · rw [mark_len]
        have := (kDel_sub d.path T.nodes).length_le
        show (kDel _ T.nodes).length ≤ _
        omega
      · rw [mark_len]; omega

theorem parts_keys (z time : Int) : ∀ (ps : List DeedD) (T : TreeD), KeysOk T → (∀ p ∈ ps, p.h.kind = 1 → pathOk p.h.path.data.toList = true) → KeysOk (treeParts T ps z time)
  | [], _, h, _ => h
  | p :: ps, _, h, hp => parts_keys z time ps _ (change_keys h (hp p (by simp)) z time) fun q hq => hp q (List.mem_cons_of_mem _ hq)

theorem parts_len (z time : Int) : ∀ (ps : List DeedD) (T : TreeD), (treeParts T ps z time).nodes.length ≤ T.nodes.length + ps.length
  | [], _ => Nat.le_refl _
  | p :: ps, T => by
    have h1 := parts_len z time ps (treeChange T p.h z time)
    have h2 := change_len T p.h z time
    show (treeParts (treeChange T p.h z time) ps z time).nodes.length ≤ _
    simp only [List.length_cons]; omega

theorem fits_path {h : DeedH} {np : Nat} (hf : FitsD h np) (h1 : h.kind = 1) : pathOk h.path.data.toList = true := by
  refine hf.2.2.2.2.2.2.2.2.2.2.1 ?_
  rw [h1]; rfl

theorem touch_nodes (T : TreeD) (ses turn : Int) : (treeTouch T ses turn).nodes = T.nodes := by
  rw [treeTouch]; split <;> rfl

theorem apply_keys {T : TreeD} (h : KeysOk T) (d : DeedD) : KeysOk (treeApply T d) := by
  rw [treeApply]
  split
  · rename_i hr
    have hk : KeysOk (treeDo T d) := by
      rw [treeDo]
      split
      · exact change_keys h (fits_path hr.2.2.2.2.2.2.1) _ _
      · split
        · exact h
        · split
          · rename_i h5
            exact parts_keys _ _ _ _ h fun p hp => fits_path ((hr.2.2.2.2.2.2.2.1 h5).2.2 p hp).2.2.2.2.2.1
          · split
            · rename_i h8
              exact parts_keys _ _ _ _ h fun p hp => fits_path ((hr.2.2.2.2.2.2.2.2.2 h8).2.2 p hp).2.2.2.2.2.1
            · exact h
    intro e he
    rw [touch_nodes] at he
    exact hk e he
  · exact h

theorem apply_len (T : TreeD) (d : DeedD) : (treeApply T d).nodes.length ≤ T.nodes.length + 1 + d.parts.length := by
  rw [treeApply]
  split
  · rw [touch_nodes, treeDo]
    split
    · have := change_len T d.h d.h.zxid d.h.time; omega
    · split
      · show T.nodes.length ≤ _; omega
      · split
        · have := parts_len d.h.zxid d.h.time d.parts ⟨T.nodes, kDel d.h.owner T.seats⟩
          dsimp only at this; omega
        · split
          · have := parts_len d.h.zxid d.h.time d.parts T; omega
          · omega
  · omega

end
end Go.Proofs.YtbebacffaljckaaGreatDoor

namespace Go.Proofs.YtbebacffaljckaaGreatDoor
open Go.Sx Go.RowKit Go.Sort Go.Shelf
noncomputable section

def sortRen : Go.Shelf.Ren := ⟨fun | 190 => 40 | 125 => 67 | 258 => 66 | 128 => 86 | 129 => 87 | 302 => 77 | 303 => 78 | 304 => 79 | 305 => 80 | 306 => 81 | 307 => 82 | 308 => 83 | 309 => 84 | 310 => 85 | 333 => 101 | 329 => 102 | 330 => 103 | 334 => 104 | 335 => 105 | 336 => 106 | 344 => 113 | n => n, fun | 31 => 52 | 9 => 9 | 3 => 3 | 46 => 104 | 0 => 0 | 51 => 124 | 53 => 126 | 4 => 4 | 183 => 117 | 182 => 116 | 131 => 121 | 5 => 5 | 218 => 134 | 222 => 138 | 228 => 145 | 229 => 146 | n => n, fun | n => n⟩
theorem sortLays : Lays.n190 Tryz.prog sortRen where
  mixed := by kernel_rfl
  f125 := Tryz.func67.trans (congrArg some (by kernel_rfl))
  f128 := Tryz.func86.trans (congrArg some (by kernel_rfl))
  f129 := Tryz.func87.trans (congrArg some (by kernel_rfl))
  f190 := Tryz.func40.trans (congrArg some (by kernel_rfl))
  f258 := Tryz.func66.trans (congrArg some (by kernel_rfl))
  f302 := Tryz.func77.trans (congrArg some (by kernel_rfl))
  f303 := Tryz.func78.trans (congrArg some (by kernel_rfl))
  f304 := Tryz.func79.trans (congrArg some (by kernel_rfl))
  f305 := Tryz.func80.trans (congrArg some (by kernel_rfl))
  f306 := Tryz.func81.trans (congrArg some (by kernel_rfl))
  f307 := Tryz.func82.trans (congrArg some (by kernel_rfl))
  f308 := Tryz.func83.trans (congrArg some (by kernel_rfl))
  f309 := Tryz.func84.trans (congrArg some (by kernel_rfl))
  f310 := Tryz.func85.trans (congrArg some (by kernel_rfl))
  f329 := Tryz.func102.trans (congrArg some (by kernel_rfl))
  f330 := Tryz.func103.trans (congrArg some (by kernel_rfl))
  f333 := Tryz.func101.trans (congrArg some (by kernel_rfl))
  f334 := Tryz.func104.trans (congrArg some (by kernel_rfl))
  f335 := Tryz.func105.trans (congrArg some (by kernel_rfl))
  f336 := Tryz.func106.trans (congrArg some (by kernel_rfl))
  f344 := Tryz.func113.trans (congrArg some (by kernel_rfl))
  t0 := Tryz.underlying0
  a0 := Tryz.isAgg0
  z0 := Tryz.sizeOf0
  v0 := Tryz.zeroValue0
  t3 := Tryz.underlying3
  a3 := Tryz.isAgg3
  z3 := Tryz.sizeOf3
  v3 := Tryz.zeroValue3
  t4 := Tryz.underlying4
  a4 := Tryz.isAgg4
  z4 := Tryz.sizeOf4
  v4 := Tryz.zeroValue4
  t5 := Tryz.underlying5
  a5 := Tryz.isAgg5
  z5 := Tryz.sizeOf5
  v5 := Tryz.zeroValue5
  t9 := Tryz.underlying9
  a9 := Tryz.isAgg9
  z9 := Tryz.sizeOf9
  v9 := Tryz.zeroValue9
  t31 := Tryz.underlying52
  a31 := Tryz.isAgg52
  z31 := Tryz.sizeOf52
  v31 := Tryz.zeroValue52
  t46 := Tryz.underlying104
  a46 := Tryz.isAgg104
  z46 := Tryz.sizeOf104
  v46 := Tryz.zeroValue104
  t51 := Tryz.underlying124
  a51 := Tryz.isAgg124
  z51 := Tryz.sizeOf124
  v51 := Tryz.zeroValue124
  t53 := Tryz.underlying126
  a53 := Tryz.isAgg126
  z53 := Tryz.sizeOf126
  v53 := Tryz.zeroValue126
  t131 := Tryz.underlying121
  a131 := Tryz.isAgg121
  z131 := Tryz.sizeOf121
  v131 := Tryz.zeroValue121
  t182 := Tryz.underlying116
  a182 := Tryz.isAgg116
  z182 := Tryz.sizeOf116
  v182 := Tryz.zeroValue116
  t183 := Tryz.underlying117
  a183 := Tryz.isAgg117
  z183 := Tryz.sizeOf117
  v183 := Tryz.zeroValue117
  t218 := Tryz.underlying134
  a218 := Tryz.isAgg134
  z218 := Tryz.sizeOf134
  v218 := Tryz.zeroValue134
  t222 := Tryz.underlying138
  a222 := Tryz.isAgg138
  z222 := Tryz.sizeOf138
  v222 := Tryz.zeroValue138
  t228 := Tryz.underlying145
  a228 := Tryz.isAgg145
  z228 := Tryz.sizeOf145
  v228 := Tryz.zeroValue145
  t229 := Tryz.underlying146
  a229 := Tryz.isAgg146
  z229 := Tryz.sizeOf146
  v229 := Tryz.zeroValue146

def sortL (ss : List (List UInt8)) : List (List UInt8) := ss.mergeSort fun x y => decide (x ≤ y)
def strV (l : List UInt8) : Value := .string ⟨l.toArray⟩

theorem sortL_length (ss : List (List UInt8)) : (sortL ss).length = ss.length := List.length_mergeSort _

theorem put_toList (d : List (List UInt8)) (c : Array Value) (h : d.length ≤ c.size) : (putCells encStr 0 d.toArray c).toList = c.toList.take 0 ++ d.map strV ++ c.toList.drop (0 + (d.map strV).length) := by
  refine List.ext_getElem? fun k => ?_
  simp only [putCells, Array.toList_mapIdx, List.getElem?_mapIdx, List.take_zero, List.nil_append, List.length_map, Nat.zero_add, Nat.zero_le, true_and, List.size_toArray, Nat.sub_zero]
  by_cases hk : k < d.length
  · rw [List.getElem?_append_left (by simpa using hk), List.getElem?_map, List.getElem?_eq_getElem hk]
    have hkc : k < c.toList.length := Nat.lt_of_lt_of_le hk h
    have h1 : c.toList[k]? = some c.toList[k] := List.getElem?_eq_getElem hkc
    rw [h1]
    simp [hk, strV]
  · rw [List.getElem?_append_right (by simpa using Nat.le_of_not_lt hk), List.length_map, List.getElem?_drop, Nat.add_sub_cancel' (Nat.le_of_not_lt hk)]
    cases c.toList[k]? <;> simp [hk]

/-- A row of strings is sorted where it lies. -/
def sortS : FSpec := ⟨Nat × List (List UInt8), fun g vs A => (g.2 = [] ∧ ∃ p cap, vs = [.slice p 0 cap]) ∨ (g.2 ≠ [] ∧ g.2.length < 4611686018427387904 ∧ A.Room g.1 0 g.2.length ∧ A.rd g.1 0 g.2.length = some (g.2.map strV) ∧ ∃ cap, vs = [.slice (some ⟨g.1, 0, none⟩) g.2.length cap]),
  fun g _ A _ A' => (g.2 = [] → A' = A) ∧ (g.2 ≠ [] → A.Put A' g.1 0 ((sortL g.2).map strV))⟩

theorem goes_of_calls {P : Program} {f : FuncId} {args : Array Value} {w : World} {Φ : Value → World → Prop} {fn : Func} (hf : P.funcs[f]? = some fn) (h1 : (fn.name == "runtime.NumGoroutine") = false ∧ fn.body.isNone = false)
    (h : Calls P f args w fun e w' => ∃ v, e = .returned v ∧ Φ v w') : CallGoes P f args w Φ fun _ _ => False := by
  refine .inl ⟨fn, hf, h1, fun cs => ?_⟩
  obtain ⟨e, w', fr, k1, k2⟩ := h cs
  exact ⟨e, w', fr, .inl k1, k2⟩

theorem sort_ok : FOk Tryz.prog 40 sortS := by
  intro g vs A w hA hp
  refine goes_of_calls sortLays.f190 ⟨by kernel_rfl, by kernel_rfl⟩ ?_
  rcases hp with ⟨h0, p, cap, rfl⟩ | ⟨h0, hlt, ⟨c, t, fz, hb, hle, hfz⟩, hr, cap, rfl⟩
  · intro cs
    obtain ⟨e, w', fr, ⟨k1, k2⟩, k3⟩ := Any.slices_Sort_string_none sortLays p cap w cs
    subst k2
    exact ⟨e, w', fr, ⟨_, k1, A, ⟨fun _ => rfl, fun h => absurd h0 h⟩, rfl, rfl, rfl, fun _ _ _ => rfl, hA, fun k o ho => .inl ⟨o, ho⟩⟩, k3⟩
  · have hw := hA _ _ hb
    have hsz : g.1 < w.heap.size := by
      have := Array.getElem?_eq_some_iff.1 hw
      exact this.1
    have hH : Holds encStr w g.1 0 g.2.toArray := fun j hj => by
      have hj : j < g.2.length := by simpa using hj
      constructor
      · have hr' : (c.toList.drop 0).take g.2.length = g.2.map strV := by
          rw [A.rdeq] at hr
          unfold rdOf at hr
          rw [hb] at hr
          simp only at hr
          rw [if_pos (by omega)] at hr
          injection hr
        have h3 : ((c.toList.drop 0).take g.2.length)[j]? = (g.2.map strV)[j]? := by rw [hr']
        rw [List.drop_zero, List.getElem?_take, if_pos hj, List.getElem?_map, List.getElem?_eq_getElem hj] at h3
        unfold World.cell?
        rw [hw]
        simp only [Option.isSome_none, Bool.false_eq_true, if_false, Nat.zero_add]
        rw [← Array.getElem?_toList, h3]
        simp [strV, hj]
      · unfold World.frozen?
        rw [hw]
        have h9 := hfz.not (0 + j) (by omega)
        obtain ⟨lo, hi⟩ := fz
        dsimp only at h9 ⊢
        rw [← Bool.decide_and]
        exact decide_eq_false h9
    intro cs
    obtain ⟨e, w', fr, ⟨k1, n, os, k2⟩, k3⟩ := Any.slices_Sort_string sortLays g.1 0 cap g.2 w hH hsz hlt cs
    have hd : (sortL g.2).length ≤ c.size := by rw [sortL_length]; omega
    refine ⟨e, w', fr, ⟨_, k1, Arena.of (fun k => if k = g.1 then some (.cells (putCells encStr 0 (sortL g.2).toArray c) t fz) else A.blk k), ⟨fun h => absurd h h0, fun _ => ⟨⟨c, t, fz, _, hb, if_pos rfl, put_toList _ c hd⟩, fun k hk => if_neg hk⟩⟩, ?_⟩, k3⟩
    have k2 : w' = grow (putRow encStr (Sort.ahead w n) g.1 0 (sortL g.2).toArray) os := k2
    subst k2
    have at_ : ∀ k, k < w.heap.size → (grow (putRow encStr (Sort.ahead w n) g.1 0 (sortL g.2).toArray) os).heap[k]? = if k = g.1 then some (.cells (putCells encStr 0 (sortL g.2).toArray c) t fz) else w.heap[k]? := fun k hk => by
      show (((w.heap.modify g.1 (onCells (putCells encStr 0 (sortL g.2).toArray))) ++ os)[k]?) = _
      rw [Array.getElem?_append_left (by simpa using hk), Array.getElem?_modify]
      by_cases e : k = g.1
      · subst e; rw [if_pos rfl, if_pos rfl, hw]; rfl
      · rw [if_neg (fun h => e h.symm), if_neg e]
    have lt_ : ∀ k o, A.blk k = some o → k < w.heap.size := fun k o hk => (Array.getElem?_eq_some_iff.1 (hA k o hk)).1
    refine ⟨rfl, rfl, rfl, fun k hk hks => ?_, fun k o hk => ?_, fun k o hk => ?_⟩
    · rw [at_ k hks, if_neg fun e => (by rw [e, hb] at hk; cases hk)]
    · have hk : (if k = g.1 then some (Obj.cells (putCells encStr 0 (sortL g.2).toArray c) t fz) else A.blk k) = some o := hk
      by_cases e : k = g.1
      · rw [if_pos e] at hk
        rw [at_ k (e ▸ hsz), if_pos e, hk]
      · rw [if_neg e] at hk
        rw [at_ k (lt_ k o hk), if_neg e]; exact hA k o hk
    · have hk : (if k = g.1 then some (Obj.cells (putCells encStr 0 (sortL g.2).toArray c) t fz) else A.blk k) = some o := hk
      by_cases e : k = g.1
      · exact .inl ⟨_, e ▸ hb⟩
      · rw [if_neg e] at hk; exact .inl ⟨o, hk⟩

end
end Go.Proofs.YtbebacffaljckaaGreatDoor

namespace Go.Proofs.YtbebacffaljckaaGreatDoor
open Go.Sx Go.RowKit
noncomputable section
open Classical

def hasPrefixS : FSpec := ⟨ByteArray × ByteArray, fun g vs _ => vs = [.string g.1, .string g.2], fun g _ A v A' => A' = A ∧ v = .bool (decide (g.2.data.toList <+: g.1.data.toList))⟩

set_option maxRecDepth 100000 in
set_option maxHeartbeats 0 in
theorem hasPrefix_ok : FOk Tryz.prog 37 hasPrefixS := by
  refine fok_v mixed fun g vs A hp => ?_
  simp only [hasPrefixS] at hp
  obtain ⟨s, p⟩ := g
  obtain rfl : vs = _ := hp
  refine ⟨noC, noL, 60, noC_sound _, noL_sound _, fun blk os out tape D hD => ?_⟩
  conv => lhs; whnf
  refine split_dec (fun h1 => ?_) (fun h1 => ?_) <;> (conv => lhs; whnf) <;> dsimp only at h1
  · refine go_b (by simp only [Bool.and_eq_true, Bool.or_eq_true, decide_eq_true_eq]; omega) ?_
    conv => lhs; whnf
    refine (hD _).2 ⟨rfl, ?_⟩
    show Value.bool (beqL (List.take ((p.data.toList.length : Int).toNat - (0 : Int).toNat) (List.drop (0 : Int).toNat s.data.toList)) p.data.toList) = _
    congr 1
    rw [show (p.data.toList.length : Int).toNat - (0 : Int).toNat = p.data.toList.length by omega, show (0 : Int).toNat = 0 from rfl, List.drop_zero]
    cases hb : beqL (s.data.toList.take p.data.toList.length) p.data.toList with
    | true => exact (decide_eq_true (by rw [← beqL_iff.1 hb]; exact List.take_prefix _ _)).symm
    | false => exact (decide_eq_false fun h => beqL_ff.1 hb (List.prefix_iff_eq_take.1 h).symm).symm
  · refine (hD _).2 ⟨rfl, ?_⟩
    rw [decide_eq_false fun h => h1 (by have := h.length_le; dsimp only at this; omega)]
end
end Go.Proofs.YtbebacffaljckaaGreatDoor

namespace Go.Sx
noncomputable section

/-- A row that is made by appending: none yet, or one in a block that A1 does not know. -/
def GrowR (A1 A : Arena) (es : Nat) (e : TypeId) (n : Nat) (v : Value) (cs : List Value) : Prop :=
  cs.length = n * es ∧ ((n = 0 ∧ v = .slice none 0 0) ∨
    ∃ g nc c, v = .slice (some ⟨g, 0, none⟩) n nc ∧ n ≤ nc ∧ 0 < nc ∧ A1.blk g = none ∧ A.blk g = some (.cells c e (0, 0)) ∧ c.size = nc * es ∧ c.toList.take (n * es) = cs)

theorem GrowR.nil (A1 A : Arena) (es : Nat) (e : TypeId) : GrowR A1 A es e 0 (.slice none 0 0) [] := ⟨by simp, .inl ⟨rfl, rfl⟩⟩

theorem GrowR.keep {A1 A A' : Arena} {es : Nat} {e : TypeId} {n : Nat} {v : Value} {cs : List Value} (h : GrowR A1 A es e n v cs) (hk : ∀ k, A1.blk k = none → A'.blk k = A.blk k) : GrowR A1 A' es e n v cs := by
  obtain ⟨h1, h2 | ⟨g, nc, c, h3, h4, h4', h5, h6, h7, h8⟩⟩ := h
  · exact ⟨h1, .inl h2⟩
  · exact ⟨h1, .inr ⟨g, nc, c, h3, h4, h4', h5, by rw [hk g h5]; exact h6, h7, h8⟩⟩

theorem GrowR.sub {A1 A A' : Arena} {es : Nat} {e : TypeId} {n : Nat} {v : Value} {cs : List Value} (h : GrowR A1 A es e n v cs) (hk : A.Sub A') : GrowR A1 A' es e n v cs := by
  obtain ⟨h1, h2 | ⟨g, nc, c, h3, h4, h4', h5, h6, h7, h8⟩⟩ := h
  · exact ⟨h1, .inl h2⟩
  · exact ⟨h1, .inr ⟨g, nc, c, h3, h4, h4', h5, hk g _ h6, h7, h8⟩⟩

/-- What an append to it asks. -/
structure GrowP (A : Arena) (base : Option (Nat × Nat)) (n c es bytes : Nat) (cs : List Value) : Prop where
  rd : baseRd A base (n * es) = some cs
  cap : c < n + 1 → Builtin.nextslicecap (n + 1) c * bytes ≤ 281474976710656
  none_ : base = none → n = 0 ∧ c = 0
  room : ∀ (m : Nat), m = es → ∀ g o, base = some (g, o) → n + 1 ≤ c → A.Room g (o + n * es) m

theorem GrowR.form {A1 A : Arena} {es : Nat} {e : TypeId} {n : Nat} {v : Value} {cs : List Value} (h : GrowR A1 A es e n v cs) :
    ∃ base c, v = .slice (addrA base) n c ∧ (base = none ∨ ∃ g, base = some (g, 0)) ∧ (∀ bytes, bytes ≤ 65536 → n ≤ 1000000000 → GrowP A base n c es bytes cs) ∧
    ∀ ys v' A', ys.length = es → (∀ k, A.blk k = none → A1.blk k = none) → Appended A base n c es e cs ys 1 v' A' → GrowR A1 A' es e (n + 1) v' (cs ++ ys) ∧ ∀ k o, A1.blk k = some o → A'.blk k = A.blk k := by
  obtain ⟨hl, ⟨rfl, rfl⟩ | ⟨g, nc, c, rfl, hn, hpos, hg, hb, hsz, ht⟩⟩ := h
  · have hcs : cs = [] := List.length_eq_zero_iff.1 (by rw [hl]; simp)
    subst hcs
    refine ⟨none, 0, rfl, .inl rfl, fun bytes hby hn => ⟨by simp [baseRd], fun h => ?_, fun _ => ⟨rfl, rfl⟩, fun _ _ _ _ h => (by cases h)⟩, fun ys v' A' hy hd ha => ?_⟩
    · have := nextcap_le h
      calc _ ≤ (2 * (0 + 1) + 768) * 65536 := Nat.mul_le_mul this hby
        _ ≤ _ := by omega
    · rcases ha with ⟨h0, _⟩ | ⟨_, g, nc, c, zs, rfl, hnc, hc, hz, hN⟩
      · omega
      · refine ⟨⟨by simp [hy], .inr ⟨g, nc, c, rfl, hnc, by omega, hd g hN.none_, hN.at_, ?_, ?_⟩⟩, fun k o hk => hN.other k fun e => (by subst e; rw [hd _ hN.none_] at hk; cases hk)⟩
        · rw [← Array.length_toList, hc]
          simp only [List.nil_append, List.length_append, hy, hz, Nat.zero_add]
          have : nc = (nc - 1) + 1 := by omega
          rw [show nc * es = ((nc - 1) + 1) * es by rw [← this], Nat.succ_mul]; omega
        · rw [hc]; simp [hy]
  · have hle : n * es ≤ nc * es := Nat.mul_le_mul_right _ hn
    refine ⟨some (g, 0), nc, rfl, .inr ⟨g, rfl⟩, fun bytes hby hnb => ⟨?_, fun h => ?_, fun h => (by cases h), fun m hm g' o' h hlt => ?_⟩, fun ys v' A' hy hd ha => ?_⟩
    · show (if n * es = 0 then some [] else A.rd g 0 (n * es)) = some cs
      by_cases h0 : n * es = 0
      · rw [if_pos h0]
        rw [h0] at hl; rw [List.length_eq_zero_iff.1 hl]
      · rw [if_neg h0, rd_mk hb (by omega)]; simp [ht]
    · have := nextcap_le h
      calc _ ≤ (2 * (n + 1) + 768) * 65536 := Nat.mul_le_mul this hby
        _ ≤ _ := by omega
    · injection h with h; injection h with h1 h2; subst h1; subst h2; subst hm
      refine ⟨c, e, (0, 0), hb, ?_, .inl rfl⟩
      have := Nat.mul_le_mul_right m hlt
      rw [Nat.succ_mul] at this; omega
    · rcases ha with ⟨h0, rfl, h3⟩ | ⟨h0, g', nc', c', zs, rfl, hnc, hc, hz, hN⟩
      · obtain ⟨c', k1, k2, k3⟩ : ∃ c', A'.blk g = some (.cells c' e (0, 0)) ∧ (∀ k, k ≠ g → A'.blk k = A.blk k) ∧ c'.toList = c.toList.take (n * es) ++ ys ++ c.toList.drop (n * es + ys.length) := by
          rcases h3 with ⟨rfl, rfl⟩ | ⟨g', o', h, hP⟩
          · exact ⟨c, hb, fun _ _ => rfl, by simp⟩
          · injection h with h; injection h with h1 h2; subst h1; subst h2
            obtain ⟨c0, t0, fz0, c', k1, k2, k3⟩ := hP.at_
            rw [hb] at k1
            injection k1 with k1; injection k1 with k1 k1' k1''
            subst k1; subst k1'; subst k1''
            exact ⟨c', k2, hP.other, by rw [k3]; simp⟩
        have hlen : n * es + es ≤ nc * es := by rw [← Nat.succ_mul]; exact Nat.mul_le_mul_right _ h0
        refine ⟨⟨by simp [hl, hy, Nat.succ_mul], .inr ⟨g, nc, c', rfl, h0, hpos, hg, k1, ?_, ?_⟩⟩, fun k o hk => k2 k fun e => (by subst e; rw [hg] at hk; cases hk)⟩
        · rw [← Array.length_toList, k3]
          simp only [List.length_append, List.length_take, List.length_drop, Array.length_toList, hsz, hy]
          omega
        · rw [k3, ht]
          rw [List.take_append_of_le_length (by simp [hl, hy, Nat.succ_mul])]
          rw [List.take_of_length_le (by simp [hl, hy, Nat.succ_mul])]
      · refine ⟨⟨by simp [hl, hy, Nat.succ_mul], .inr ⟨g', nc', c', rfl, hnc, by omega, hd g' hN.none_, hN.at_, ?_, ?_⟩⟩, fun k o hk => hN.other k fun e => (by subst e; rw [hd _ hN.none_] at hk; cases hk)⟩
        · rw [← Array.length_toList, hc]
          simp only [List.length_append, hl, hy, hz]
          obtain ⟨d, rfl⟩ : ∃ d, nc' = (n + 1) + d := ⟨nc' - (n + 1), by omega⟩
          rw [Nat.add_sub_cancel_left, Nat.add_mul, Nat.add_mul]; omega
        · rw [hc]
          rw [List.take_append_of_le_length (by simp [hl, hy, Nat.succ_mul])]
          rw [List.take_of_length_le (by simp [hl, hy, Nat.succ_mul])]

end
end Go.Sx

namespace Go.Proofs.YtbebacffaljckaaGreatDoor
open Go.Sx Go.RowKit
noncomputable section
open Classical

/-- The names of the nodes right under a path, in no order. -/
def kidsOf (l : List ByteArray) (p : ByteArray) : List (List UInt8) := (l.filter fun q => decide (parentP q = p)).map fun q => (cutP q.data.toList).2

/-- The same, in order. -/
def treeKids (T : TreeD) (p : ByteArray) : List (List UInt8) := sortL (kidsOf (T.nodes.map (·.1)) p)

theorem kids_perm {l l' : List ByteArray} (h : l.Perm l') (p : ByteArray) : sortL (kidsOf l p) = sortL (kidsOf l' p) := mergeSort_of_perm ((h.filter _).map _)

theorem strL_keys {α : Type} (f : α → Value) (l : List (ByteArray × α)) : (strL f l).map (·.1) = (l.map (·.1)).map Value.string := by simp [strL, Function.comp_def]

/-- The nodes' map may be walked. -/
theorem walk_keys {A B : Arena} {O : Nat → Prop} {t : Nat} {T : TreeD} {m s : Nat} {E : List (ByteArray × Nat × NodeD)} (h : TreeR A B O t T m s E) : ((strL ptrV (kMap (·.1) E)).map (·.1)).Nodup := by
  rw [strL_keys, kMap_keys]
  exact List.pairwise_map.2 (h.keys.imp fun hab e => hab (by injection e))

theorem bytes_ext {a b : ByteArray} (h : a.data.toList = b.data.toList) : a = b := by
  obtain ⟨⟨a⟩⟩ := a; obtain ⟨⟨b⟩⟩ := b
  obtain rfl : a = b := h; rfl

theorem parent_prefix (q : ByteArray) : (parentP q).data.toList <+: q.data.toList := by
  show (cutP q.data.toList).1 <+: _
  unfold cutP
  split
  · exact List.take_prefix _ _
  · exact List.nil_prefix

theorem kids_snoc (l : List ByteArray) (q p : ByteArray) : kidsOf (l ++ [q]) p = kidsOf l p ++ if parentP q = p then [(cutP q.data.toList).2] else [] := by
  unfold kidsOf
  rw [List.filter_append, List.map_append]
  by_cases h : parentP q = p <;> simp [h]

theorem kids_le (l : List ByteArray) (p : ByteArray) : (kidsOf l p).length ≤ l.length := by
  rw [kidsOf, List.length_map]; exact List.length_filter_le _ _

/-- A walk over rows of one sort: all met, none twice. -/
theorem walk_perm {l : List ByteArray} {sk : List ByteArray} (h1 : sk.Nodup) (h2 : ∀ q ∈ sk, q ∈ l) (h3 : l.Nodup) (h4 : ∀ q ∈ l, q ∈ sk) : sk.Perm l :=
  (List.perm_ext_iff_of_nodup h1 h3).2 fun q => ⟨h2 q, h4 q⟩

theorem nodup_sub_le {α : Type} : ∀ {l k : List α}, l.Nodup → (∀ x ∈ l, x ∈ k) → l.length ≤ k.length
  | [], _, _, _ => Nat.zero_le _
  | x :: xs, k, hn, hs => by
    rw [List.nodup_cons] at hn
    obtain ⟨a, b, rfl⟩ := List.append_of_mem (hs x (by simp))
    have := nodup_sub_le (k := a ++ b) hn.2 fun y hy => (by
      have := hs y (List.mem_cons_of_mem _ hy)
      simp only [List.mem_append, List.mem_cons] at this ⊢
      rcases this with h | rfl | h
      · exact .inl h
      · exact absurd hy hn.1
      · exact .inr h)
    simp only [List.length_append, List.length_cons] at this ⊢
    omega

structure LG where
  A : Arena
  sk : List ByteArray
  v : Value

def listInv (A0 A1 : Arena) (i m : Nat) (l : List (Value × Value)) (keys : List ByteArray) (p : ByteArray) : LInv :=
  { γ := LG, G := fun g => A0.Sub g.A ∧ (∀ k, g.A.blk k = none → A1.blk k = none) ∧ IterAt g.A i m l (g.sk.map Value.string) ∧ GrowR A1 g.A 1 9 (kidsOf g.sk p).length g.v ((kidsOf g.sk p).map strV) ∧ g.sk.Nodup ∧ ∀ q ∈ g.sk, q ∈ keys,
    keepS := [1, 24], keepB := [], sl := fun g => [(6, .v g.v)], bl := fun _ => [], ar := fun g => g.A, mu := fun g => keys.length - g.sk.length }

def listS : FSpec := ⟨TG × ByteArray, fun g vs A => vs = [.pointer (some ⟨g.1.t, 0, none⟩), .string g.2] ∧ TreeAt A g.1.B g.1.O g.1.t g.1.T ∧ g.1.T.nodes.length ≤ 1000000,
  fun g _ A v A' => A.Sub A' ∧ ∃ x, v = .tuple #[x, .bool (kGet g.2 g.1.T.nodes).isSome] ∧ Sl (A'.minus A) 1 (if (kGet g.2 g.1.T.nodes).isSome then treeKids g.1.T g.2 else []).length x ((if (kGet g.2 g.1.T.nodes).isSome then treeKids g.1.T g.2 else []).map strV)⟩

set_option maxRecDepth 100000 in
set_option maxHeartbeats 0 in
theorem list_ok : FOk Tryz.prog 17 listS := by
  refine fok_v mixed fun ⟨⟨T, B, O, t⟩, p⟩ vs A hp => ?_
  obtain ⟨rfl, ⟨m, s, E, h⟩, hlen⟩ : vs = [.pointer (some ⟨t, 0, none⟩), .string p] ∧ TreeAt A B O t T ∧ T.nodes.length ≤ 1000000 := hp
  have hCt : CTSound Tryz.prog (lookC [specE 38 parentS, specE 39 baseS, specE 37 hasPrefixS, specE 40 sortS] noC) := lookC_sound (noC_sound _) (fun x hx => by
    simp only [List.mem_cons, List.not_mem_nil, or_false] at hx
    rcases hx with rfl | rfl | rfl | rfl
    · exact specE_ok parent_ok
    · exact specE_ok base_ok
    · exact specE_ok hasPrefix_ok
    · exact specE_ok sort_ok)
  refine ⟨_, tabO Tryz.prog _ noL 60 [(17, 0)], 60, hCt, tabO_sound mixed hCt (noL_sound _) _ _, fun blk os out tape D hD => ?_⟩
  have htop : A.rd t 0 1 = some [.map (some m)] := h.top.rd (o := 0) (n := 1) (by show 0 + 1 ≤ 2; omega)
  conv => lhs; whnf
  refine go_rd htop ?_
  conv => lhs; whnf
  repeat (first | refine go_rd htop ?_ | refine go_D hD rfl ?_
          conv => lhs; whnf)
  refine go_lk (h.look p) ?_
  cases hk : kGet p E with
  | none =>
    have hlk : A.look m (.string p) = some none := by rw [h.look, hk]; rfl
    have hT : kGet p T.nodes = none := by rw [h.get, hk]; rfl
    conv => lhs; whnf
    repeat (first | refine go_rd htop ?_ | refine go_lk hlk ?_ | refine go_D hD rfl ?_
            conv => lhs; whnf)
    have hend : listS.post (⟨T, B, O, t⟩, p) [.pointer (some ⟨t, 0, none⟩), .string p] A (.tuple #[.slice none 0 0, .bool false]) A := by
      refine ⟨Arena.Sub.refl _, .slice none 0 0, by rw [hT]; rfl, ?_⟩
      rw [hT]
      exact Sl.nil _ _
    exact (hD _).2 hend
  | some x =>
    obtain ⟨g, n⟩ := x
    have hlk : A.look m (.string p) = some (some (.pointer (some ⟨g, 0, none⟩))) := by rw [h.look, hk]; rfl
    have hT : kGet p T.nodes = some n := by rw [h.get, hk]; rfl
    conv => lhs; whnf
    repeat (first | refine go_rd htop ?_ | refine go_lk hlk ?_ | refine go_D hD rfl ?_
            conv => lhs; whnf)
    refine (hD _).2 ⟨_, h.nmap, walk_keys h, fun i A1 hi hA1 hI => ?_⟩
    have hA1 : ∀ k, k ≠ i → A1.blk k = A.blk k := hA1
    have hi : A.blk i = none := hi
    have hsub1 : A.Sub A1 := fun k o hk => by rw [hA1 k fun e => by subst e; rw [hi] at hk; cases hk]; exact hk
    have hdom1 : ∀ k, A1.blk k = none → A.blk k = none := fun k hk => by
      cases hA : A.blk k with
      | none => rfl
      | some o => rw [hsub1 k o hA] at hk; cases hk
    have hkl : (E.map (·.1)).length ≤ 1000000 := by rw [List.length_map]; rw [h.nodes, kMap, List.length_map] at hlen; exact hlen
    have hi1 : ∃ o, A1.blk i = some o := by
      obtain ⟨es, clock, seen, h1, h2, h3, h4, h5, h6, h7⟩ := hI
      exact ⟨_, h6⟩
    have hm1 : ∃ o, A1.blk m = some o := by
      obtain ⟨es, clock, seen, h1, h2, h3, h4, h5, h6, h7⟩ := hI
      exact ⟨_, h1⟩
    obtain ⟨L, hL⟩ : ∃ L : List (Value × Value), L = strL ptrV (kMap (fun x : Nat × NodeD => x.1) E) := ⟨_, rfl⟩
    obtain ⟨Ks, hK⟩ : ∃ Ks : List ByteArray, Ks = E.map (fun x : ByteArray × Nat × NodeD => x.1) := ⟨_, rfl⟩
    have hKT : T.nodes.map (·.1) = Ks := by rw [h.nodes, kMap_keys, hK]
    have hIL : IterAt A1 i m L [] := by rw [hL]; exact hI
    have hLm : ∀ e ∈ L, ∃ q g, e = (Value.string q, ptrV g) ∧ q ∈ Ks := fun e he => by
      rw [hL] at he
      obtain ⟨x, hx, rfl⟩ := List.mem_map.1 he
      obtain ⟨y, hy, rfl⟩ := List.mem_map.1 hx
      exact ⟨_, _, rfl, by rw [hK]; exact List.mem_map.2 ⟨y, hy, rfl⟩⟩
    have hLk : ∀ q ∈ Ks, ∃ e ∈ L, e.1 = Value.string q := fun q hq => by
      rw [hK] at hq
      obtain ⟨y, hy, rfl⟩ := List.mem_map.1 hq
      rw [hL]
      exact ⟨_, List.mem_map.2 ⟨_, List.mem_map.2 ⟨y, hy, rfl⟩, rfl⟩, rfl⟩
    have hKn : Ks.Nodup := by rw [hK]; exact h.keys
    have hkl : Ks.length ≤ 1000000 := by rw [hK]; exact hkl
    conv => lhs; whnf
    refine (hD _).2 ⟨listInv A A1 i m L Ks p, ⟨(⟨A1, [], .slice none 0 0⟩ : LG), ⟨hsub1, fun _ hk => hk, hIL, GrowR.nil _ _ _ _, List.nodup_nil, fun _ hq => (by cases hq)⟩, ⟨rfl, trivial⟩, trivial, rfl⟩, fun (sg : LG) hG => ⟨⟨trivial, trivial⟩, trivial, ?_⟩⟩
    obtain ⟨As, sk, v0⟩ := sg
    obtain ⟨hAs, hds, hIs, hGs, hnd, hin⟩ : A.Sub As ∧ (∀ k, As.blk k = none → A1.blk k = none) ∧ IterAt As i m L (sk.map Value.string) ∧ GrowR A1 As 1 9 (kidsOf sk p).length v0 ((kidsOf sk p).map strV) ∧ sk.Nodup ∧ ∀ q ∈ sk, q ∈ Ks := hG
    conv => lhs; whnf
    refine (hD _).2 ⟨m, _, _, hIs, fun e he hn A2 hA2 hI2 hent => ?_, fun hall => ?_⟩
    · obtain ⟨q, gq, rfl, hq⟩ := hLm e he
      have hn : q ∉ sk := fun hh => hn (List.mem_map.2 ⟨q, hh, rfl⟩)
      have hA2 : ∀ b, b ≠ i → A2.blk b = As.blk b := hA2
      have hent : A2.ent i = some (.tuple #[.string q, .pointer (some ⟨gq, 0, none⟩)]) := hent
      conv => lhs; whnf
      split
      rotate_left
      · rename_i hv
        exact absurd (hent.symm.trans hv) (by simp)
      rename_i v hv
      obtain rfl := Option.some.inj (hent.symm.trans hv)
      conv => lhs; whnf
      refine (hD _).2 ⟨(q, p), rfl, fun v A' hq' => ?_⟩
      obtain ⟨rfl, rfl⟩ : A' = A2 ∧ v = .bool (decide (p.data.toList <+: q.data.toList)) := hq'
      have hAsA : A.Sub A' := fun k o hk => by rw [hA2 k fun e => by subst e; rw [hi] at hk; cases hk]; exact hAs k o hk
      have hI3 : IterAt A' i m L ((sk ++ [q]).map Value.string) := by rw [List.map_append]; exact hI2
      have hdsA : ∀ k, A'.blk k = none → A1.blk k = none := fun k hk => by
        by_cases e : k = i
        · subst e
          obtain ⟨es, clock, seen, h1, h2, h3, h4, h5, h6, h7⟩ := hI2
          rw [h6] at hk; cases hk
        · rw [hA2 k e] at hk; exact hds k hk
      have hGk := hGs.keep (A' := A') fun k hk => hA2 k fun e => by subst e; rw [hi1.choose_spec] at hk; cases hk
      have hnd' : (sk ++ [q]).Nodup := List.nodup_append.2 ⟨hnd, by simp, fun a ha b hb => by
        simp only [List.mem_singleton] at hb
        subst hb; exact fun e => hn (e ▸ ha)⟩
      have hin' : ∀ x ∈ sk ++ [q], x ∈ Ks := fun x hx => by
        rcases List.mem_append.1 hx with hx | hx
        · exact hin x hx
        · simp only [List.mem_singleton] at hx; subst hx; exact hq
      have hcnt := nodup_sub_le hnd' hin'
      rw [List.length_append, List.length_singleton] at hcnt
      have hmu : Ks.length - (sk ++ [q]).length < Ks.length - sk.length := by rw [List.length_append, List.length_singleton]; omega
      have hskip : parentP q ≠ p → (listInv A A1 i m L Ks p).G (⟨A', sk ++ [q], v0⟩ : LG) := fun hne => ⟨hAsA, hdsA, hI3, by
        show GrowR A1 A' 1 9 (kidsOf (sk ++ [q]) p).length v0 ((kidsOf (sk ++ [q]) p).map strV)
        rw [kids_snoc, if_neg hne, List.append_nil]; exact hGk, hnd', hin'⟩
      conv => lhs; whnf
      refine split_dec (fun hpre => ?_) (fun hpre => ?_) <;> (conv => lhs; whnf)
      rotate_left
      · exact (hD _).2 ⟨(⟨A', sk ++ [q], v0⟩ : LG), ⟨hskip fun e => hpre (e ▸ parent_prefix q), ⟨rfl, trivial⟩, trivial, rfl⟩, hmu, ⟨rfl, rfl, trivial⟩, trivial⟩
      refine (hD _).2 ⟨q, rfl, fun v A9 hq9 => ?_⟩
      obtain ⟨rfl, rfl⟩ : A9 = A' ∧ v = .string (parentP q) := hq9
      conv => lhs; whnf
      refine split_b (fun hb => ?_) (fun hb => ?_) <;> (conv => lhs; whnf)
      rotate_left
      · exact (hD _).2 ⟨(⟨A9, sk ++ [q], v0⟩ : LG), ⟨hskip fun e => beqL_ff.1 hb (by rw [e]), ⟨rfl, trivial⟩, trivial, rfl⟩, hmu, ⟨rfl, rfl, trivial⟩, trivial⟩
      have hpq : parentP q = p := bytes_ext (beqL_iff.1 hb)
      refine (hD _).2 ⟨q, rfl, fun v A8 hq8 => ?_⟩
      obtain ⟨rfl, rfl⟩ : A8 = A9 ∧ v = .string (baseP q) := hq8
      conv => lhs; whnf
      refine (hD _).2 fun gb A7 hN => ?_
      have hN : A8.New A7 gb #[.string (baseP q)] 9 := hN
      have hA7 : A.Sub A7 := hAsA.trans hN.sub
      have hds7 : ∀ k, A7.blk k = none → A8.blk k = none := fun k hk => by
        cases h8 : A8.blk k with
        | none => rfl
        | some o => rw [hN.sub k o h8] at hk; cases hk
      have hG7 := hGk.sub hN.sub
      have hI7 : IterAt A7 i m L ((sk ++ [q]).map Value.string) := hI3.sub fun b o _ hb => hN.sub b o hb
      obtain ⟨base, c, rfl, hbase, hP, hA⟩ := hG7.form
      have hP := hP 16 (by omega) (by have := kids_le sk p; omega)
      have hrow : A7.rd gb 0 (1 * 1) = some [.string (baseP q)] := hN.rd (o := 0) (n := 1 * 1) (by show 0 + 1 * 1 ≤ 1; omega)
      have hds6 : ∀ k, A7.blk k = none → A1.blk k = none := fun k hk => hdsA k (hds7 k hk)
      rcases hbase with rfl | ⟨g0, rfl⟩ <;> (conv => lhs; whnf)
      all_goals
        refine (hD _).2 ⟨(kidsOf sk p).map strV, [.string (baseP q)], hP.rd, ?_, rfl, ?_, ?_, hP.cap, rfl, hP.none_, fun g' o' he' hle' _ => hP.room 1 rfl g' o' he' hle', fun v A6 hAp => ?_⟩
        · show (if 1 = 0 then some [] else A7.rd gb 0 (1 * 1)) = _
          rw [if_neg (by omega)]; exact hrow
        · intro v hv
          simp only [List.mem_singleton] at hv
          subst hv; rfl
        · have := kids_le sk p
          show (kidsOf sk p).length + 1 ≤ 9223372036854775807
          omega
        · obtain ⟨hG6, hk6⟩ := hA _ _ _ rfl hds6 hAp
          have hA6 : A.Sub A6 := fun k o hk => by rw [hk6 k o (hsub1 k o hk)]; exact hA7 k o hk
          have hd6 : ∀ k, A6.blk k = none → A1.blk k = none := fun k hk => by
            cases h1 : A1.blk k with
            | none => rfl
            | some o => rw [hk6 k o h1] at hk; rw [hds6 k hk] at h1; cases h1
          have hI6 : IterAt A6 i m L ((sk ++ [q]).map Value.string) := hI7.sub fun b o hb ho => by
            rcases hb with rfl | rfl
            · rw [hk6 _ _ hi1.choose_spec]; exact ho
            · rw [hk6 _ _ hm1.choose_spec]; exact ho
          have hg6 : (listInv A A1 i m L Ks p).G (⟨A6, sk ++ [q], v⟩ : LG) := ⟨hA6, hd6, hI6, by
            show GrowR A1 A6 1 9 (kidsOf (sk ++ [q]) p).length v ((kidsOf (sk ++ [q]) p).map strV)
            rw [kids_snoc, if_pos hpq, List.length_append, List.map_append]; exact hG6, hnd', hin'⟩
          conv => lhs; whnf
          exact (hD _).2 ⟨(⟨A6, sk ++ [q], v⟩ : LG), ⟨hg6, ⟨rfl, trivial⟩, trivial, rfl⟩, hmu, ⟨rfl, rfl, trivial⟩, trivial⟩
    · have hall' : ∀ q ∈ Ks, q ∈ sk := fun q hq => by
        obtain ⟨e, he, h1⟩ := hLk q hq
        have := hall e he
        rw [h1] at this
        obtain ⟨q', hq', h2⟩ := List.mem_map.1 this
        injection h2 with h2
        exact h2 ▸ hq'
      have hkids : sortL (kidsOf sk p) = treeKids T p := by
        rw [treeKids, hKT]; exact kids_perm (walk_perm hnd hin hKn hall') p
      have hsz : (kidsOf sk p).length ≤ 1000000 := Nat.le_trans (kids_le sk p) (Nat.le_trans (nodup_sub_le hnd hin) hkl)
      have hfin : ∀ x A5, A.Sub A5 → Sl (A5.minus A) 1 (kidsOf sk p).length x ((sortL (kidsOf sk p)).map strV) → listS.post (⟨T, B, O, t⟩, p) [.pointer (some ⟨t, 0, none⟩), .string p] A (.tuple #[x, .bool true]) A5 := fun x A5 h5 hS => by
        refine ⟨h5, x, by rw [hT]; rfl, ?_⟩
        rw [hT]
        show Sl (A5.minus A) 1 (treeKids T p).length x ((treeKids T p).map strV)
        rw [← hkids, sortL_length]; exact hS
      obtain ⟨hl0, ⟨h0, rfl⟩ | ⟨g0, nc, c, rfl, hle0, hpos0, hg0, hb0, hs0, ht0⟩⟩ := hGs
      · have hk0 : kidsOf sk p = [] := List.length_eq_zero_iff.1 h0
        conv => lhs; whnf
        refine (hD _).2 ⟨(0, kidsOf sk p), .inl ⟨hk0, none, 0, rfl⟩, fun v A5 hq => ?_⟩
        obtain rfl : A5 = As := hq.1 hk0
        have hend := hfin (.slice none 0 0) A5 hAs (by rw [hk0]; show Sl _ 1 0 _ ((sortL []).map strV); rw [show sortL [] = [] from List.mergeSort_nil]; exact Sl.nil _ _)
        conv => lhs; whnf
        exact (hD _).2 hend
      · by_cases hk0 : kidsOf sk p = []
        · conv => lhs; whnf
          refine (hD _).2 ⟨(0, kidsOf sk p), .inl ⟨hk0, some ⟨g0, 0, none⟩, nc, by rw [hk0]; rfl⟩, fun v A5 hq => ?_⟩
          obtain rfl : A5 = As := hq.1 hk0
          have hend := hfin (.slice (some ⟨g0, 0, none⟩) (kidsOf sk p).length nc) A5 hAs (by rw [hk0]; show Sl _ 1 0 _ ((sortL []).map strV); rw [show sortL [] = [] from List.mergeSort_nil]; exact Sl.zero _ _ (fun h => (by cases h)) fun a ha _ => by injection ha with ha; subst ha; rfl)
          conv => lhs; whnf
          exact (hD _).2 hend
        · have hroom : As.Room g0 0 (kidsOf sk p).length := ⟨c, 9, (0, 0), hb0, by omega, .inl rfl⟩
          have hrd0 : As.rd g0 0 (kidsOf sk p).length = some ((kidsOf sk p).map strV) := by
            rw [rd_mk hb0 (by omega), List.drop_zero]
            rw [Nat.mul_one] at ht0; rw [ht0]
          conv => lhs; whnf
          refine (hD _).2 ⟨(g0, kidsOf sk p), .inr ⟨hk0, by show (kidsOf sk p).length < _; omega, hroom, hrd0, nc, rfl⟩, fun v A5 hq => ?_⟩
          have hP5 : As.Put A5 g0 0 ((sortL (kidsOf sk p)).map strV) := hq.2 hk0
          have hAg : A.blk g0 = none := hdom1 g0 hg0
          have hA5 : A.Sub A5 := hP5.sub hAs hAg
          have hend := hfin (.slice (some ⟨g0, 0, none⟩) (kidsOf sk p).length nc) A5 hA5 (by
            refine Sl.row hle0 (rd_minus ?_ hAg)
            obtain ⟨c0, t0, fz0, c', k1, k2, k3⟩ := hP5.at_
            rw [hb0] at k1
            injection k1 with k1; injection k1 with k1 k1' k1''
            subst k1; subst k1'; subst k1''
            have hsl := sortL_length (kidsOf sk p)
            rw [Nat.mul_one, rd_mk k2 (by
              rw [← Array.length_toList, k3]
              simp only [List.length_append, List.length_take, List.length_drop, List.length_map, hsl, Array.length_toList]
              omega), List.drop_zero, k3]
            simp [hsl])
          conv => lhs; whnf
          exact (hD _).2 hend

end
end Go.Proofs.YtbebacffaljckaaGreatDoor

namespace Go.Proofs.YtbebacffaljckaaGreatDoor
open Go.Sx Go.RowKit
noncomputable section
open Classical

def rootS : ByteArray := ⟨#[47]⟩
def treeNew : TreeD := ⟨[(rootS, ⟨[], ⟨0, 0, 0, 0, 0, 0, 0, 0, 0, 0⟩⟩)], []⟩

def alTree : TypeId → Bool := fun t => Nat.beq t 62 || Nat.beq t 66

def newS : FSpec := ⟨Unit, fun _ vs _ => vs = [],
  fun _ _ A v A' => ∃ t O, v = .pointer (some ⟨t, 0, none⟩) ∧ TreeAt A' Arena.void O t treeNew ∧ A.Sub A' ∧ ∀ k, O k → A.blk k = none⟩

set_option maxRecDepth 100000 in
set_option maxHeartbeats 0 in
theorem new_ok : FOk Tryz.prog 5 newS := by
  refine fok_a mixed alTree fun _ vs A hp => ?_
  obtain rfl : vs = [] := hp
  refine ⟨noC, noL, 60, noC_sound _, noL_sound _, fun blk os out tape D hD => ?_⟩
  conv => lhs; whnf
  refine (hD _).2 fun m A1 hm hA1 hM1 => ?_
  conv => lhs; whnf
  refine (hD _).2 fun g A2 hN2 => ?_
  have hN2 : A1.New A2 g #[.slice none 0 0, .int .i64 0, .int .i64 0, .int .i64 0, .int .i64 0, .int .i64 0, .int .i64 0, .int .i64 0, .int .i64 0, .int .i64 0, .int .i64 0] 62 := hN2
  have hM2 : MapAt A2 m [] := hM1.sub fun o ho => hN2.sub m o ho
  conv => lhs; whnf
  refine (hD _).2 ⟨[], hM2, fun e he => (by cases he), fun A3 hM3 hA3 => ?_⟩
  have hM3 : MapAt A3 m [(.string rootS, ptrV g)] := hM3
  have hA3 : ∀ k, k ≠ m → A3.blk k = A2.blk k := hA3
  conv => lhs; whnf
  refine (hD _).2 fun s A4 hs hA4 hM4 => ?_
  have hs : A3.blk s = none := hs
  have hA4 : ∀ k, k ≠ s → A4.blk k = A3.blk k := hA4
  conv => lhs; whnf
  refine (hD _).2 fun t A5 hN5 => ?_
  have hN5 : A4.New A5 t #[.map (some m), .map (some s)] 66 := hN5
  conv => lhs; whnf
  have hm : A.blk m = none := hm
  have hA1 : ∀ k, k ≠ m → A1.blk k = A.blk k := hA1
  have map_ : ∀ {X : Arena} {k : Nat} {l : List (Value × Value)}, MapAt X k l → X.blk k ≠ none := fun {X k l} h hn => by
    obtain ⟨es, cl, h9, _⟩ := h
    rw [h9] at hn; cases hn
  have gm : g ≠ m := fun e => by subst e; exact map_ hM1 hN2.none_
  have sm : s ≠ m := fun e => by subst e; exact map_ hM3 hs
  have sg : s ≠ g := fun e => by subst e; rw [hA3 _ gm, hN2.at_] at hs; cases hs
  have hm4 : MapAt A4 m [(.string rootS, ptrV g)] := hM3.sub fun o ho => by rw [hA4 _ fun e => sm e.symm]; exact ho
  have hg4 : A4.blk g = some (.cells #[.slice none 0 0, .int .i64 0, .int .i64 0, .int .i64 0, .int .i64 0, .int .i64 0, .int .i64 0, .int .i64 0, .int .i64 0, .int .i64 0, .int .i64 0] 62 (0, 0)) := by
    rw [hA4 _ fun e => sg e.symm, hA3 _ gm]; exact hN2.at_
  have tm : t ≠ m := fun e => by subst e; exact map_ hm4 hN5.none_
  have ts : t ≠ s := fun e => by subst e; exact map_ hM4 hN5.none_
  have tg : t ≠ g := fun e => by subst e; have := hN5.none_; rw [hg4] at this; cases this
  have hm5 : MapAt A5 m [(.string rootS, ptrV g)] := hm4.sub fun o ho => hN5.sub _ _ ho
  have hs5 : MapAt A5 s [] := hM4.sub fun o ho => hN5.sub _ _ ho
  have hg5 := hN5.sub _ _ hg4
  have hold : ∀ k, k ≠ m → k ≠ g → k ≠ s → k ≠ t → A5.blk k = A.blk k := fun k h1 h2 h3 h4 => by rw [hN5.other k h4, hA4 k h3, hA3 k h1, hN2.other k h2, hA1 k h1]
  have ag : A.blk g = none := by rw [← hA1 g gm]; exact hN2.none_
  have as_ : A.blk s = none := by rw [← hA1 s sm, ← hN2.other s sg, ← hA3 s sm]; exact hs
  have at_ : A.blk t = none := by rw [← hA1 t tm, ← hN2.other t tg, ← hA3 t tm, ← hA4 t ts]; exact hN5.none_
  have hR : TreeR A5 Arena.void (fun k => k = t ∨ k = m ∨ k = s ∨ k = g) t treeNew m s [(rootS, g, ⟨[], ⟨0, 0, 0, 0, 0, 0, 0, 0, 0, 0⟩⟩)] :=
    { nodes := rfl
      top := CellsAt.new hN5
      nmap := hm5
      smap := hs5
      cells := fun e he => by
        simp only [List.mem_singleton] at he
        subst he
        exact ⟨.slice none 0 0, ⟨_, _, _, hg5, .inl rfl, rfl⟩, Sl.nil _ _, by simp⟩
      keys := by simp
      ptrs := by simp
      skeys := by simp [treeNew]
      sub := fun k o hk => (by cases hk)
      own := ⟨.inl rfl, .inr (.inl rfl), .inr (.inr (.inl rfl)), fun e he => by
        simp only [List.mem_singleton] at he
        subst he; exact .inr (.inr (.inr rfl))⟩
      off := fun _ _ => rfl
      live := fun k hk => by
        rcases hk with rfl | rfl | rfl | rfl
        · exact ⟨_, hN5.at_⟩
        · obtain ⟨es, cl, h9, _⟩ := hm5; exact ⟨_, h9⟩
        · obtain ⟨es, cl, h9, _⟩ := hs5; exact ⟨_, h9⟩
        · exact ⟨_, hg5⟩
      ne := ⟨fun e => sm e.symm, fun e he => by
        simp only [List.mem_singleton] at he
        subst he; exact fun e => tg e.symm⟩ }
  have hend : newS.post () [] A (.pointer (some ⟨t, 0, none⟩)) A5 := by
    refine ⟨t, _, rfl, ⟨m, s, _, hR⟩, fun k o hk => ?_, fun k hk => ?_⟩
    · rw [hold k (fun e => by rw [e, hm] at hk; cases hk) (fun e => by rw [e, ag] at hk; cases hk) (fun e => by rw [e, as_] at hk; cases hk) (fun e => by rw [e, at_] at hk; cases hk)]; exact hk
    · rcases hk with rfl | rfl | rfl | rfl
      · exact at_
      · exact hm
      · exact as_
      · exact ag
  exact (hD _).2 hend

def nodeV (p : ByteArray) (vd : Value) (s : StatD) : Value :=
  .agg #[.string p, vd, .int .i64 s.czxid, .int .i64 s.mzxid, .int .i64 s.pzxid, .int .i64 s.ctime, .int .i64 s.mtime, .int .i64 s.ver, .int .i64 s.cver, .int .i64 s.owner, .int .i64 s.len, .int .i64 s.kids]

def toldS : FSpec := ⟨TG × ByteArray × NodeD × Nat, fun g vs A => vs = [.pointer (some ⟨g.1.t, 0, none⟩), .string g.2.1, .int .i64 g.2.2.2] ∧ TreeAt A g.1.B g.1.O g.1.t g.1.T ∧ kGet g.2.1 g.1.T.nodes = some g.2.2.1,
  fun g _ A v A' => A.Sub A' ∧ ∃ vd, v = nodeV g.2.1 vd { g.2.2.1.stat with len := g.2.2.1.data.length, kids := g.2.2.2 } ∧ SlB (A'.minus A) vd g.2.2.1.data⟩

set_option maxRecDepth 100000 in
set_option maxHeartbeats 0 in
theorem told_ok : FOk Tryz.prog 36 toldS := by
  refine fok_v mixed fun ⟨⟨T, B, O, t⟩, p, n, c⟩ vs A hp => ?_
  obtain ⟨rfl, ⟨m, s, E, h⟩, hk⟩ : vs = [.pointer (some ⟨t, 0, none⟩), .string p, .int .i64 c] ∧ TreeAt A B O t T ∧ kGet p T.nodes = some n := hp
  have hCt : CTSound Tryz.prog (lookC [specE 30 cloneBytesS] noC) := lookC_sound (noC_sound _) (fun x hx => by
    simp only [List.mem_singleton] at hx
    subst hx; exact specE_ok cloneBytes_ok)
  refine ⟨_, noL, 60, hCt, noL_sound _, fun blk os out tape D hD => ?_⟩
  have htop : A.rd t 0 1 = some [.map (some m)] := h.top.rd (o := 0) (n := 1) (by show 0 + 1 ≤ 2; omega)
  obtain ⟨⟨g, n'⟩, hkE, rfl⟩ : ∃ x, kGet p E = some x ∧ x.2 = n := by
    rw [h.get] at hk
    cases hE : kGet p E with
    | none => rw [hE] at hk; cases hk
    | some x => rw [hE] at hk; exact ⟨x, rfl, by injection hk⟩
  have hmem := kGet_mem (bytes_key _) hkE
  obtain ⟨w, hc, hs⟩ := h.cells _ hmem
  have hlk : A.look m (.string p) = some (some (.pointer (some ⟨g, 0, none⟩))) := by rw [h.look, hkE]; rfl
  obtain ⟨aw, kw, rfl⟩ := hs.1.form
  have hrdn : A.rd g 0 1 = some [.slice aw n'.data.length kw] := hc.rd (o := 0) (n := 1) (by show 0 + 1 ≤ 11; omega)
  have hrds : A.rd g 1 10 = some n'.stat.cells := hc.rd (o := 1) (n := 10) (by show 1 + 10 ≤ 11; omega)
  have hend : ∀ (v : Value) (A' : Arena), A.Sub A' → SlB (A'.minus A) v n'.data → toldS.post (⟨T, B, O, t⟩, p, n', c) [.pointer (some ⟨t, 0, none⟩), .string p, .int .i64 c] A (nodeV p v { n'.stat with len := n'.data.length, kids := c }) A' := fun v A' h1 h2 => ⟨h1, v, rfl, h2⟩
  conv => lhs; whnf
  repeat (first | refine go_rd htop ?_ | refine go_lk hlk ?_ | refine go_rd hrdn ?_ | refine go_rd hrds ?_ | refine go_D hD rfl ?_
          conv => lhs; whnf)
  refine go_b ?_ ?_
  · refine (hD _).2 ⟨n'.data, ⟨_, rfl, hs.sub h.sub⟩, fun v A' hq => ?_⟩
    obtain ⟨hsub, hS⟩ : A.Sub A' ∧ SlB (A'.minus A) v n'.data := hq
    obtain ⟨a, k, rfl⟩ := hS.1.form
    have h1 := rd_sub hsub htop
    have h2 := rd_sub hsub hrdn
    have h3 := rd_sub hsub hrds
    have h4 : A'.look m (.string p) = some (some (.pointer (some ⟨g, 0, none⟩))) := by
      rw [look_str (h.nmap.sub fun o ho => hsub _ _ ho), kGet_map, hkE]; rfl
    conv => lhs; whnf
    repeat (first | refine go_rd h1 ?_ | refine go_lk h4 ?_ | refine go_rd h2 ?_ | refine go_rd h3 ?_ | refine go_D hD rfl ?_
            conv => lhs; whnf)
    exact (hD _).2 (hend _ _ hsub hS)
  · conv => lhs; whnf
    repeat (first | refine go_rd htop ?_ | refine go_lk hlk ?_ | refine go_rd hrdn ?_ | refine go_rd hrds ?_ | refine go_D hD rfl ?_
            conv => lhs; whnf)
    refine (hD _).2 ⟨n'.data, ⟨_, rfl, hs.sub h.sub⟩, fun v A' hq => ?_⟩
    obtain ⟨hsub, hS⟩ : A.Sub A' ∧ SlB (A'.minus A) v n'.data := hq
    obtain ⟨a, k, rfl⟩ := hS.1.form
    have h1 := rd_sub hsub htop
    have h2 := rd_sub hsub hrdn
    have h3 := rd_sub hsub hrds
    have h4 : A'.look m (.string p) = some (some (.pointer (some ⟨g, 0, none⟩))) := by
      rw [look_str (h.nmap.sub fun o ho => hsub _ _ ho), kGet_map, hkE]; rfl
    conv => lhs; whnf
    repeat (first | refine go_rd h1 ?_ | refine go_lk h4 ?_ | refine go_rd h2 ?_ | refine go_rd h3 ?_ | refine go_D hD rfl ?_
            conv => lhs; whnf)
    exact (hD _).2 (hend _ _ hsub hS)

end
end Go.Proofs.YtbebacffaljckaaGreatDoor

namespace Go.Proofs.YtbebacffaljckaaGreatDoor
open Go.Sx Go.RowKit Go.Sort Go.Shelf
noncomputable section

def sfRen : Go.Shelf.Ren := ⟨fun | 6 => 41 | 15 => 67 | 14 => 68 | 28 => 86 | 29 => 87 | 20 => 88 | 21 => 89 | 22 => 90 | 23 => 91 | 24 => 92 | 25 => 93 | 26 => 94 | 27 => 95 | 46 => 107 | 47 => 102 | 48 => 103 | 49 => 108 | 50 => 109 | 57 => 114 | n => n, fun | 22 => 23 | 24 => 59 | 25 => 84 | 3 => 3 | 39 => 104 | 0 => 0 | 53 => 124 | 55 => 126 | 4 => 4 | 46 => 117 | 45 => 116 | 50 => 121 | 5 => 5 | 9 => 9 | 66 => 134 | 70 => 138 | 76 => 145 | 77 => 146 | n => n, fun | n => n⟩
theorem sfLays : SlLaysF0.n6 Tryz.prog sfRen where
  mixed := by kernel_rfl
  f6 := ⟨"slices.SortFunc[[]beadle/api.Sitting,beadle/api.Sitting]", by decide, Tryz.func41.trans (congrArg some (by kernel_rfl))⟩
  f14 := ⟨"slices.pdqsortCmpFunc[beadle/api.Sitting]", by decide, Tryz.func68.trans (congrArg some (by kernel_rfl))⟩
  f15 := Tryz.func67.trans (congrArg some (by kernel_rfl))
  f20 := ⟨"slices.insertionSortCmpFunc[beadle/api.Sitting]", by decide, Tryz.func88.trans (congrArg some (by kernel_rfl))⟩
  f21 := ⟨"slices.heapSortCmpFunc[beadle/api.Sitting]", by decide, Tryz.func89.trans (congrArg some (by kernel_rfl))⟩
  f22 := ⟨"slices.breakPatternsCmpFunc[beadle/api.Sitting]", by decide, Tryz.func90.trans (congrArg some (by kernel_rfl))⟩
  f23 := ⟨"slices.choosePivotCmpFunc[beadle/api.Sitting]", by decide, Tryz.func91.trans (congrArg some (by kernel_rfl))⟩
  f24 := ⟨"slices.reverseRangeCmpFunc[beadle/api.Sitting]", by decide, Tryz.func92.trans (congrArg some (by kernel_rfl))⟩
  f25 := ⟨"slices.partialInsertionSortCmpFunc[beadle/api.Sitting]", by decide, Tryz.func93.trans (congrArg some (by kernel_rfl))⟩
  f26 := ⟨"slices.partitionEqualCmpFunc[beadle/api.Sitting]", by decide, Tryz.func94.trans (congrArg some (by kernel_rfl))⟩
  f27 := ⟨"slices.partitionCmpFunc[beadle/api.Sitting]", by decide, Tryz.func95.trans (congrArg some (by kernel_rfl))⟩
  f28 := Tryz.func86.trans (congrArg some (by kernel_rfl))
  f29 := Tryz.func87.trans (congrArg some (by kernel_rfl))
  f46 := ⟨"slices.siftDownCmpFunc[beadle/api.Sitting]", by decide, Tryz.func107.trans (congrArg some (by kernel_rfl))⟩
  f47 := Tryz.func102.trans (congrArg some (by kernel_rfl))
  f48 := Tryz.func103.trans (congrArg some (by kernel_rfl))
  f49 := ⟨"slices.medianAdjacentCmpFunc[beadle/api.Sitting]", by decide, Tryz.func108.trans (congrArg some (by kernel_rfl))⟩
  f50 := ⟨"slices.medianCmpFunc[beadle/api.Sitting]", by decide, Tryz.func109.trans (congrArg some (by kernel_rfl))⟩
  f57 := ⟨"slices.order2CmpFunc[beadle/api.Sitting]", by decide, Tryz.func114.trans (congrArg some (by kernel_rfl))⟩
  t0 := Tryz.underlying0
  a0 := Tryz.isAgg0
  z0 := Tryz.sizeOf0
  v0 := Tryz.zeroValue0
  t3 := Tryz.underlying3
  a3 := Tryz.isAgg3
  z3 := Tryz.sizeOf3
  v3 := Tryz.zeroValue3
  t4 := Tryz.underlying4
  a4 := Tryz.isAgg4
  z4 := Tryz.sizeOf4
  v4 := Tryz.zeroValue4
  t5 := Tryz.underlying5
  a5 := Tryz.isAgg5
  z5 := Tryz.sizeOf5
  v5 := Tryz.zeroValue5
  t9 := Tryz.underlying9
  a9 := Tryz.isAgg9
  z9 := Tryz.sizeOf9
  v9 := Tryz.zeroValue9
  t22 := Tryz.underlying23
  a22 := Tryz.isAgg23
  z22 := Tryz.sizeOf23
  v22 := Tryz.zeroValue23
  t25 := Tryz.underlying84
  a25 := Tryz.isAgg84
  z25 := Tryz.sizeOf84
  v25 := Tryz.zeroValue84
  t39 := Tryz.underlying104
  a39 := Tryz.isAgg104
  z39 := Tryz.sizeOf104
  v39 := Tryz.zeroValue104
  t45 := Tryz.underlying116
  a45 := Tryz.isAgg116
  z45 := Tryz.sizeOf116
  v45 := Tryz.zeroValue116
  t46 := Tryz.underlying117
  a46 := Tryz.isAgg117
  z46 := Tryz.sizeOf117
  v46 := Tryz.zeroValue117
  t50 := Tryz.underlying121
  a50 := Tryz.isAgg121
  z50 := Tryz.sizeOf121
  v50 := Tryz.zeroValue121
  t53 := Tryz.underlying124
  a53 := Tryz.isAgg124
  z53 := Tryz.sizeOf124
  v53 := Tryz.zeroValue124
  t55 := Tryz.underlying126
  a55 := Tryz.isAgg126
  z55 := Tryz.sizeOf126
  v55 := Tryz.zeroValue126
  t66 := Tryz.underlying134
  a66 := Tryz.isAgg134
  z66 := Tryz.sizeOf134
  v66 := Tryz.zeroValue134
  t70 := Tryz.underlying138
  a70 := Tryz.isAgg138
  z70 := Tryz.sizeOf138
  v70 := Tryz.zeroValue138
  t76 := Tryz.underlying145
  a76 := Tryz.isAgg145
  z76 := Tryz.sizeOf145
  v76 := Tryz.zeroValue145
  t77 := Tryz.underlying146
  a77 := Tryz.isAgg146
  z77 := Tryz.sizeOf146
  v77 := Tryz.zeroValue146

instance : Inhabited SitD := ⟨⟨0, 0, 0⟩⟩

def sitC (s : SitD) : List Value := [.int .i64 s.ses, .int .i64 s.tmo, .int .i64 s.turn]
def cfI (x y : Int) : Int := if x < y then -1 else 1
def sortI (ks : List Int) : List Int := ks.mergeSort fun x y => !(ltOf cfI) y x

theorem ltOf_cfI (x y : Int) : ltOf cfI x y = decide (x < y) := by
  unfold ltOf cfI
  by_cases h : x < y <;> simp [h]

theorem swo_cfI : SWO (ltOf cfI) := ⟨fun x => by simp [ltOf_cfI], fun x y z h1 h2 => by
  simp only [ltOf_cfI, decide_eq_true_eq] at *; omega, fun x y z h1 h2 => by
  simp only [ltOf_cfI, decide_eq_false_iff_not] at *; omega⟩

theorem sortI_eq (ks : List Int) : sortI ks = ks.mergeSort fun x y => decide (x ≤ y) := by
  unfold sortI
  congr 1
  funext x y
  rw [ltOf_cfI]
  by_cases h : y < x
  · have h2 : ¬ x ≤ y := by omega
    simp [h, h2]
  · have h2 : x ≤ y := by omega
    simp [h, h2]

theorem sortI_length (ks : List Int) : (sortI ks).length = ks.length := List.length_mergeSort _

theorem sortI_perm (ks : List Int) : (sortI ks).Perm ks := List.mergeSort_perm _ _

set_option maxHeartbeats 1000000 in
/-- The closure: which session is less. -/
theorem cmpSit (x y : SitD) (W : World) : Calls Tryz.prog 42 #[.agg (sitC x).toArray, .agg (sitC y).toArray] W fun e w' => e = .returned (.int .i64 (cfI x.ses y.ses)) ∧ ∃ q os', w' = grow (W.drewN q) os' := by
  obtain ⟨a, b, c⟩ := x
  obtain ⟨a', b', c'⟩ := y
  simp only [sitC]
  by_cases h : a < a'
  · have hc : cfI a a' = -1 := if_pos h
    rw [hc]
    go_enter Tryz.func42, Tryz.ntmps42
    go_wp2
    go_ret
    exact ⟨rfl, 0, _, by rw [alloc_eq_grow, alloc_eq_grow, grow_grow]; rfl⟩
  · have hc : cfI a a' = 1 := if_neg h
    rw [hc]
    go_enter Tryz.func42, Tryz.ntmps42
    go_wp2
    go_ret
    exact ⟨rfl, 0, _, by rw [alloc_eq_grow, alloc_eq_grow, grow_grow]; rfl⟩

theorem flat_get {α : Type} [Inhabited α] (enc : α → List Value) (k : Nat) (hk : ∀ x, (enc x).length = k) (hp : 0 < k) : ∀ (l : List α) (t : Nat), t < l.length * k → (l.flatMap enc)[t]? = (enc (l[t / k]!))[t % k]?
  | [], t, h => by simp at h
  | x :: l, t, h => by
    rw [List.flatMap_cons]
    by_cases ht : t < k
    · rw [List.getElem?_append_left (by rw [hk]; exact ht), Nat.div_eq_of_lt ht, Nat.mod_eq_of_lt ht]; rfl
    · rw [List.getElem?_append_right (by rw [hk]; omega), hk]
      have hlt : t - k < l.length * k := by
        rw [List.length_cons, Nat.succ_mul] at h; omega
      rw [flat_get enc k hk hp l (t - k) hlt]
      have e1 : t / k = (t - k) / k + 1 := by
        rw [Nat.div_eq_sub_div hp (by omega)]
      have e2 : t % k = (t - k) % k := by rw [Nat.mod_eq_sub_mod (by omega)]
      rw [e1, e2]
      simp

theorem flatK_list {α : Type} [Inhabited α] (enc : α → List Value) (k : Nat) (hk : ∀ x, (enc x).length = k) (hp : 0 < k) (l : List α) : (flatK enc k l.toArray).toList = l.flatMap enc := by
  have hlen : (l.flatMap enc).length = l.length * k := by
    induction l with
    | nil => simp
    | cons x l ih => rw [List.flatMap_cons, List.length_append, hk, ih, List.length_cons, Nat.succ_mul]; omega
  refine List.ext_getElem? fun t => ?_
  by_cases ht : t < l.length * k
  · rw [flat_get enc k hk hp l t ht]
    have hm : t % k < k := Nat.mod_lt _ hp
    simp only [flatK, Array.toList_map, Array.toList_range, List.getElem?_map, List.size_toArray]
    rw [List.getElem?_range ht]
    simp only [Option.map_some, List.getElem!_toArray]
    rw [List.getElem?_eq_getElem (by rw [hk]; exact hm)]
    congr 1
    rw [List.getElem!_eq_getElem?_getD, List.getElem?_eq_getElem (by rw [hk]; exact hm)]
    rfl
  · rw [List.getElem?_eq_none (by rw [Array.length_toList, size_flatK, List.size_toArray]; omega), List.getElem?_eq_none (by rw [hlen]; omega)]

theorem putC_toList {β : Type} [Inhabited β] (enc : β → Value) (d : Array β) (c : Array Value) (h : d.size ≤ c.size) : (putCells enc 0 d c).toList = c.toList.take 0 ++ d.toList.map enc ++ c.toList.drop (0 + (d.toList.map enc).length) := by
  obtain ⟨d⟩ := d
  have h : d.length ≤ c.size := h
  refine List.ext_getElem? fun k => ?_
  simp only [putCells, Array.toList_mapIdx, List.getElem?_mapIdx, List.take_zero, List.nil_append, List.length_map, Nat.zero_add, Nat.zero_le, true_and, List.size_toArray, Nat.sub_zero]
  by_cases hk : k < d.length
  · rw [List.getElem?_append_left (by simpa using hk), List.getElem?_map, List.getElem?_eq_getElem hk]
    have hkc : k < c.toList.length := Nat.lt_of_lt_of_le hk h
    have h1 : c.toList[k]? = some c.toList[k] := List.getElem?_eq_getElem hkc
    rw [h1]
    simp [hk]
  · rw [List.getElem?_append_right (by simpa using Nat.le_of_not_lt hk), List.length_map, List.getElem?_drop, Nat.add_sub_cancel' (Nat.le_of_not_lt hk)]
    cases c.toList[k]? <;> simp [hk]

/-- A world that a sort leaves, as an arena. -/
theorem put_moves {β : Type} [Inhabited β] (enc : β → Value) {A : Arena} {w w' : World} (hA : ∀ k o, A.blk k = some o → w.heap[k]? = some o) {g : Nat} {c : Array Value} {t : TypeId} {fz : Nat × Nat} (hb : A.blk g = some (.cells c t fz)) {arr : Array β} (hd : arr.size ≤ c.size) {n : Nat} {os : Array Obj}
    (k2 : w' = grow (putRow enc (Sort.ahead w n) g 0 arr) os) : ∃ A', A.Put A' g 0 (arr.toList.map enc) ∧ Moves A A' w w' := by
  subst k2
  have hw := hA _ _ hb
  have hsz : g < w.heap.size := (Array.getElem?_eq_some_iff.1 hw).1
  refine ⟨Arena.of (fun k => if k = g then some (.cells (putCells enc 0 arr c) t fz) else A.blk k), ⟨⟨c, t, fz, _, hb, if_pos rfl, putC_toList enc arr c hd⟩, fun k hk => if_neg hk⟩, ?_⟩
  have at_ : ∀ k, k < w.heap.size → (grow (putRow enc (Sort.ahead w n) g 0 arr) os).heap[k]? = if k = g then some (.cells (putCells enc 0 arr c) t fz) else w.heap[k]? := fun k hk => by
    show (((w.heap.modify g (onCells (putCells enc 0 arr))) ++ os)[k]?) = _
    rw [Array.getElem?_append_left (by simpa using hk), Array.getElem?_modify]
    by_cases e : k = g
    · subst e; rw [if_pos rfl, if_pos rfl, hw]; rfl
    · rw [if_neg (fun h => e h.symm), if_neg e]
  have lt_ : ∀ k o, A.blk k = some o → k < w.heap.size := fun k o hk => (Array.getElem?_eq_some_iff.1 (hA k o hk)).1
  refine ⟨rfl, rfl, rfl, fun k hk hks => ?_, fun k o hk => ?_, fun k o hk => ?_⟩
  · rw [at_ k hks, if_neg fun e => (by rw [e, hb] at hk; cases hk)]
  · have hk : (if k = g then some (Obj.cells (putCells enc 0 arr c) t fz) else A.blk k) = some o := hk
    by_cases e : k = g
    · rw [if_pos e] at hk
      rw [at_ k (e ▸ hsz), if_pos e, hk]
    · rw [if_neg e] at hk
      rw [at_ k (lt_ k o hk), if_neg e]; exact hA k o hk
  · have hk : (if k = g then some (Obj.cells (putCells enc 0 arr c) t fz) else A.blk k) = some o := hk
    by_cases e : k = g
    · exact .inl ⟨_, e ▸ hb⟩
    · rw [if_neg e] at hk; exact .inl ⟨o, hk⟩

def cmpV : Value := .func (.func 42) #[] #[]

/-- A row of sittings is sorted by session where it lies. -/
def sortSitS : FSpec := ⟨Nat × (Int → SitD) × List Int, fun g vs A => (∀ s, (g.2.1 s).ses = s) ∧ ((g.2.2 = [] ∧ ∃ p cap, vs = [.slice p 0 cap, cmpV]) ∨
    (g.2.2 ≠ [] ∧ g.2.2.length < 4611686018427387904 ∧ A.Room g.1 0 (g.2.2.length * 3) ∧ A.rd g.1 0 (g.2.2.length * 3) = some (g.2.2.flatMap fun s => sitC (g.2.1 s)) ∧ ∃ cap, vs = [.slice (some ⟨g.1, 0, none⟩) g.2.2.length cap, cmpV])),
  fun g _ A _ A' => (g.2.2 = [] → A' = A) ∧ (g.2.2 ≠ [] → A.Put A' g.1 0 ((sortI g.2.2).flatMap fun s => sitC (g.2.1 s)))⟩

theorem sortSit_ok : FOk Tryz.prog 41 sortSitS := by
  intro ⟨g, gf, ks⟩ vs A w hA hp
  refine goes_of_calls Tryz.func41 ⟨by kernel_rfl, by kernel_rfl⟩ ?_
  obtain ⟨hs, hp⟩ := hp
  rcases hp with ⟨h0, p, cap, rfl⟩ | ⟨h0, hlt, ⟨c, t, fz, hb, hle, hfz⟩, hr, cap, rfl⟩
  · intro cs
    obtain ⟨e, w', fr, ⟨k1, k2⟩, k3⟩ := AnyF.slices_SortFunc_none sfLays p cap cmpV w cs
    subst k2
    exact ⟨e, w', fr, ⟨_, k1, A, ⟨fun _ => rfl, fun h => absurd h0 h⟩, rfl, rfl, rfl, fun _ _ _ => rfl, hA, fun k o ho => .inl ⟨o, ho⟩⟩, k3⟩
  · dsimp only at hs h0 hlt hle hr hb hfz
    have hw := hA _ _ hb
    have hsz : g < w.heap.size := (Array.getElem?_eq_some_iff.1 hw).1
    have hk3 : ∀ x : Int, (sitC (gf x)).length = 3 := fun _ => rfl
    have hfl := flatK_list (fun s => sitC (gf s)) 3 hk3 (by omega) ks
    have hfs : (flatK (fun s => sitC (gf s)) 3 ks.toArray).size = ks.length * 3 := by rw [size_flatK]; simp
    have hH : HoldsK (fun s => sitC (gf s)) 3 w g 0 ks.toArray := fun j hj => by
      have hj' : j < ks.length * 3 := by rw [hfs] at hj; exact hj
      constructor
      · have hr' : (c.toList.drop 0).take (ks.length * 3) = ks.flatMap fun s => sitC (gf s) := by
          rw [A.rdeq] at hr
          unfold rdOf at hr
          rw [hb] at hr
          simp only at hr
          rw [if_pos (by omega)] at hr
          injection hr
        have h3 : ((c.toList.drop 0).take (ks.length * 3))[j]? = (flatK (fun s => sitC (gf s)) 3 ks.toArray).toList[j]? := by rw [hr', hfl]
        rw [List.drop_zero, List.getElem?_take, if_pos hj'] at h3
        unfold World.cell?
        rw [hw]
        simp only [Option.isSome_none, Bool.false_eq_true, if_false, Nat.zero_add]
        rw [← Array.getElem?_toList, h3, Array.getElem?_toList, Array.getElem?_eq_getElem hj, getElem!_pos (flatK (fun s => sitC (gf s)) 3 ks.toArray) j hj]
        rfl
      · unfold World.frozen?
        rw [hw]
        have h9 := hfz.not (0 + j) (by omega)
        obtain ⟨lo, hi⟩ := fz
        dsimp only at h9 ⊢
        rw [← Bool.decide_and]
        exact decide_eq_false h9
    intro cs
    have hcon := AnyQ.slices_SortFunc_total sfLays 3 Tryz.isAgg59 Tryz.sizeOf59 (fun s => sitC (gf s)) hk3 (fun x v hv => by
      simp only [sitC, List.mem_cons, List.not_mem_nil, or_false] at hv
      rcases hv with rfl | rfl | rfl <;> rfl) cfI swo_cfI 42 #[] g 0 cap ks.toArray w
      (enters_of Tryz.func42 (by kernel_rfl) rfl)
      (fun m os dk _ x y => by
        have := cmpSit (gf x) (gf y) (sortWorldK (fun s => sitC (gf s)) 3 w g 0 m dk os)
        rw [hs, hs] at this
        exact this) hH hsz (by simpa using hlt) (fun x y h1 h2 => by
        simp only [ltOf_cfI, decide_eq_false_iff_not] at h1 h2
        omega)
    rw [List.size_toArray] at hcon
    obtain ⟨e, w', fr, ⟨k1, n, os, k2⟩, k3⟩ := hcon cs
    have k2 : w' = grow (putRow id (Sort.ahead w n) g 0 (flatK (fun s => sitC (gf s)) 3 (sortI ks).toArray)) os := k2
    obtain ⟨A', hP, hM⟩ := put_moves id hA hb (by rw [size_flatK, List.size_toArray, sortI_length]; omega) k2
    rw [List.map_id, flatK_list (fun s => sitC (gf s)) 3 hk3 (by omega)] at hP
    exact ⟨e, w', fr, ⟨_, k1, A', ⟨fun h => absurd h h0, fun _ => hP⟩, hM⟩, k3⟩

end
end Go.Proofs.YtbebacffaljckaaGreatDoor

namespace Go.Sx
noncomputable section

theorem nodup_sub_len {α : Type} : ∀ {l k : List α}, l.Nodup → (∀ x ∈ l, x ∈ k) → l.length ≤ k.length
  | [], _, _, _ => Nat.zero_le _
  | x :: xs, k, hn, hs => by
    rw [List.nodup_cons] at hn
    obtain ⟨a, b, rfl⟩ := List.append_of_mem (hs x (by simp))
    have := nodup_sub_len (k := a ++ b) hn.2 fun y hy => (by
      have := hs y (List.mem_cons_of_mem _ hy)
      simp only [List.mem_append, List.mem_cons] at this ⊢
      rcases this with h | rfl | h
      · exact .inl h
      · exact absurd hy hn.1
      · exact .inr h)
    simp only [List.length_append, List.length_cons] at this ⊢
    omega

theorem keys_nodup {κ α : Type} {l : List (κ × α)} (h : (l.map (·.1)).Nodup) : l.Nodup :=
  (List.pairwise_map.1 h).imp fun hab e => hab (by rw [e])

/-- A walk over the map in block m, whose entries are l: those of sk were met. -/
structure MWalk {κ α : Type} (kv : κ → Value) (f : α → Value) (A A1 As : Arena) (i m : Nat) (l sk : List (κ × α)) : Prop where
  old : A.Sub As
  dom : ∀ k, As.blk k = none → A1.blk k = none
  it : IterAt As i m (l.map fun e => (kv e.1, f e.2)) (sk.map fun e => kv e.1)
  nd : (sk.map (·.1)).Nodup
  mem : ∀ e ∈ sk, e ∈ l
  fresh : A.blk i = none
  sub1 : A.Sub A1
  iex : ∃ o, A1.blk i = some o
  mex : ∃ o, A1.blk m = some o

section
variable {κ α : Type} {kv : κ → Value} {f : α → Value} {A A1 As A' : Arena} {i m : Nat} {l sk : List (κ × α)}

theorem MWalk.start (hi : A.blk i = none) (hA1 : ∀ k, k ≠ i → A1.blk k = A.blk k) (hI : IterAt A1 i m (l.map fun e => (kv e.1, f e.2)) []) : MWalk kv f A A1 A1 i m l [] where
  old := fun k o hk => by rw [hA1 k fun e => by subst e; rw [hi] at hk; cases hk]; exact hk
  dom := fun _ h => h
  it := hI
  nd := List.nodup_nil
  mem := fun _ h => by cases h
  fresh := hi
  sub1 := fun k o hk => by rw [hA1 k fun e => by subst e; rw [hi] at hk; cases hk]; exact hk
  iex := by
    obtain ⟨es, clock, seen, h1, h2, h3, h4, h5, h6, h7⟩ := hI
    exact ⟨_, h6⟩
  mex := by
    obtain ⟨es, clock, seen, h1, h2, h3, h4, h5, h6, h7⟩ := hI
    exact ⟨_, h1⟩

/-- A walk over a map of an elder part of memory. -/
theorem MWalk.start' {C : Arena} (hCA : C.Sub A) (hm : ∃ o, C.blk m = some o) (hi : A.blk i = none) (hA1 : ∀ k, k ≠ i → A1.blk k = A.blk k) (hI : IterAt A1 i m (l.map fun e => (kv e.1, f e.2)) []) :
    MWalk kv f C (Arena.of fun k => if k = i then A1.blk k else C.blk k) A1 i m l [] := by
  have hiC : C.blk i = none := by
    cases h : C.blk i with
    | none => rfl
    | some o => have := hCA _ _ h; rw [hi] at this; cases this
  have hold : C.Sub A1 := fun k o hk => by
    rw [hA1 k fun e => by subst e; rw [hiC] at hk; cases hk]; exact hCA k o hk
  refine ⟨hold, fun k hk => ?_, hI, List.nodup_nil, fun _ h => (by cases h), hiC, fun k o hk => ?_, ?_, ?_⟩
  · show (if k = i then A1.blk k else C.blk k) = none
    by_cases e : k = i
    · rw [if_pos e]; exact hk
    · rw [if_neg e]
      cases h : C.blk k with
      | none => rfl
      | some o => have := hold _ _ h; rw [hk] at this; cases this
  · show (if k = i then A1.blk k else C.blk k) = some o
    rw [if_neg fun e => by subst e; rw [hiC] at hk; cases hk]; exact hk
  · obtain ⟨es, clock, seen, h1, h2, h3, h4, h5, h6, h7⟩ := hI
    exact ⟨_, (if_pos rfl).trans h6⟩
  · obtain ⟨o, ho⟩ := hm
    exact ⟨o, (if_neg fun e => by subst e; rw [hiC] at ho; cases ho).trans ho⟩

theorem MWalk.dom1 (h : MWalk kv f A A1 As i m l sk) : ∀ k, As.blk k = none → A.blk k = none := fun k hk => by
  cases hA : A.blk k with
  | none => rfl
  | some o => rw [h.old k o hA] at hk; cases hk

theorem MWalk.im (h : MWalk kv f A A1 As i m l sk) (hm : ∃ o, A.blk m = some o) : i ≠ m := fun e => by
  obtain ⟨o, ho⟩ := hm
  rw [← e, h.fresh] at ho; cases ho

/-- The next one. -/
theorem MWalk.next (h : MWalk kv f A A1 As i m l sk) {e : Value × Value} (he : e ∈ l.map fun e => (kv e.1, f e.2)) (hn : e.1 ∉ sk.map fun e => kv e.1)
    (hA2 : ∀ b, b ≠ i → A'.blk b = As.blk b) (hI2 : IterAt A' i m (l.map fun e => (kv e.1, f e.2)) ((sk.map fun e => kv e.1) ++ [e.1])) :
    ∃ x ∈ l, e = (kv x.1, f x.2) ∧ x.1 ∉ sk.map (·.1) ∧ MWalk kv f A A1 A' i m l (sk ++ [x]) ∧ sk.length < l.length := by
  obtain ⟨x, hx, rfl⟩ := List.mem_map.1 he
  have hns : x.1 ∉ sk.map (·.1) := fun hh => by
    obtain ⟨y, hy, e⟩ := List.mem_map.1 hh
    exact hn (List.mem_map.2 ⟨y, hy, by rw [e]⟩)
  have hnd : ((sk ++ [x]).map (·.1)).Nodup := by
    rw [List.map_append]
    refine List.nodup_append.2 ⟨h.nd, by simp, fun a ha b hb => ?_⟩
    simp only [List.map_cons, List.map_nil, List.mem_singleton] at hb
    subst hb
    exact fun e => hns (e ▸ ha)
  have hmem : ∀ e ∈ sk ++ [x], e ∈ l := fun e he => by
    rcases List.mem_append.1 he with he | he
    · exact h.mem e he
    · simp only [List.mem_singleton] at he; subst he; exact hx
  have hlen := nodup_sub_len (keys_nodup hnd) hmem
  rw [List.length_append, List.length_singleton] at hlen
  refine ⟨x, hx, rfl, hns, { h with old := fun k o hk => ?_, dom := fun k hk => ?_, it := ?_, nd := hnd, mem := hmem }, by omega⟩
  · rw [hA2 k fun e => by subst e; rw [h.fresh] at hk; cases hk]; exact h.old k o hk
  · by_cases e : k = i
    · subst e
      obtain ⟨es, clock, seen, h1, h2, h3, h4, h5, h6, h7⟩ := hI2
      rw [h6] at hk; cases hk
    · rw [hA2 k e] at hk; exact h.dom k hk
  · rw [List.map_append]; exact hI2

theorem MWalk.more (h : MWalk kv f A A1 As i m l sk) (hk : ∀ k o, A1.blk k = some o → A'.blk k = As.blk k) : MWalk kv f A A1 A' i m l sk :=
  { h with
    old := fun k o ho => by rw [hk k o (h.sub1 k o ho)]; exact h.old k o ho
    dom := fun k hn => by
      cases h1 : A1.blk k with
      | none => rfl
      | some o => rw [hk k o h1] at hn; rw [h.dom k hn] at h1; cases h1
    it := h.it.sub fun b o hb ho => by
      rcases hb with rfl | rfl
      · rw [hk _ _ h.iex.choose_spec]; exact ho
      · rw [hk _ _ h.mex.choose_spec]; exact ho }

theorem MWalk.sub (h : MWalk kv f A A1 As i m l sk) (hs : As.Sub A') : MWalk kv f A A1 A' i m l sk :=
  { h with
    old := h.old.trans hs
    dom := fun k hk => h.dom k (by
      cases h8 : As.blk k with
      | none => rfl
      | some o => rw [hs k o h8] at hk; cases hk)
    it := h.it.sub fun b o _ hb => hs b o hb }

/-- All was met. -/
theorem MWalk.done (h : MWalk kv f A A1 As i m l sk) (inj : ∀ a b, kv a = kv b → a = b) (hl : (l.map (·.1)).Nodup) (hall : ∀ e ∈ l.map fun e => (kv e.1, f e.2), e.1 ∈ sk.map fun e => kv e.1) : sk.Perm l := by
  refine (List.perm_ext_iff_of_nodup (keys_nodup h.nd) (keys_nodup hl)).2 fun x => ⟨h.mem x, fun hx => ?_⟩
  obtain ⟨y, hy, e⟩ := List.mem_map.1 (hall _ (List.mem_map.2 ⟨x, hx, rfl⟩))
  have e1 : y.1 = x.1 := inj _ _ e
  have hyl := h.mem y hy
  have : y = x := by
    obtain ⟨a, b, rfl⟩ := List.append_of_mem hx
    rw [List.map_append, List.map_cons] at hl
    obtain ⟨_, h2, h3⟩ := List.nodup_append.1 hl
    rw [List.nodup_cons] at h2
    rcases List.mem_append.1 hyl with h4 | h4
    · exact absurd e1 (h3 _ (List.mem_map.2 ⟨y, h4, rfl⟩) _ (by simp))
    · rcases List.mem_cons.1 h4 with h4 | h4
      · exact h4
      · exact absurd (List.mem_map.2 ⟨y, h4, e1⟩) h2.1
  exact this ▸ hy

theorem MWalk.le (h : MWalk kv f A A1 As i m l sk) : sk.length ≤ l.length := nodup_sub_len (keys_nodup h.nd) h.mem

/-- The walk may begin. -/
theorem walk_nodup (inj : ∀ a b, kv a = kv b → a = b) (hl : (l.map (·.1)).Nodup) : ((l.map fun e => (kv e.1, f e.2)).map (·.1)).Nodup := by
  rw [List.map_map]
  refine List.pairwise_map.2 ((List.pairwise_map.1 hl).imp fun hab e => hab (inj _ _ e))

end

end
end Go.Sx

namespace Go.Proofs.YtbebacffaljckaaGreatDoor
open Go.Sx Go.RowKit
noncomputable section
open Classical

def SeatsOk (T : TreeD) : Prop := ∀ e ∈ T.seats, e.2.ses = e.1

def sitOf (l : List (Int × SitD)) (s : Int) : SitD := match kGet s l with
  | some x => if x.ses = s then x else ⟨s, 0, 0⟩
  | none => ⟨s, 0, 0⟩

theorem sitOf_ses (l : List (Int × SitD)) (s : Int) : (sitOf l s).ses = s := by
  unfold sitOf
  split
  · split
    · assumption
    · rfl
  · rfl

def treeSits (T : TreeD) : List SitD := (sortI (T.seats.map (·.1))).map (sitOf T.seats)

theorem kGet_of_mem {κ α : Type} [BEq κ] (hr : ∀ q : κ, (q == q) = true) (hq : ∀ p q : κ, (p == q) = true → q = p) {p : κ} {x : α} : ∀ {l : List (κ × α)}, (l.map (·.1)).Nodup → (p, x) ∈ l → kGet p l = some x
  | [], _, h => by cases h
  | (q, y) :: l, hn, h => by
    rw [List.map_cons, List.nodup_cons] at hn
    simp only [kGet]
    rcases List.mem_cons.1 h with h | h
    · injection h with h1 h2
      subst h1; subst h2
      rw [hr]; rfl
    · cases hb : p == q with
      | false => exact kGet_of_mem hr hq hn.2 h
      | true =>
        have e := hq _ _ hb
        subst e
        exact absurd (List.mem_map.2 ⟨_, h, rfl⟩) hn.1

theorem sitOf_mem {l : List (Int × SitD)} (hn : (l.map (·.1)).Nodup) (hs : ∀ e ∈ l, e.2.ses = e.1) {e : Int × SitD} (he : e ∈ l) : sitOf l e.1 = e.2 := by
  unfold sitOf
  rw [kGet_of_mem (fun q => by simp) int_key hn (show (e.1, e.2) ∈ l from he)]
  exact if_pos (hs e he)

theorem sortI_of_perm {l l' : List Int} (h : l.Perm l') : sortI l = sortI l' := by
  rw [sortI_eq, sortI_eq]
  exact mergeSort_of_perm_i h

structure SG where
  A : Arena
  sk : List (Int × SitD)
  v : Value

theorem flatMap_eq {α β : Type} {f g : α → List β} : ∀ {l : List α}, (∀ e ∈ l, f e = g e) → l.flatMap f = l.flatMap g
  | [], _ => rfl
  | x :: l, h => by rw [List.flatMap_cons, List.flatMap_cons, h x (by simp), flatMap_eq fun e he => h e (List.mem_cons_of_mem _ he)]

abbrev intV (k : Int) : Value := .int .i64 k

def sitsInv (A0 A1 : Arena) (i m : Nat) (l : List (Int × SitD)) : LInv :=
  { γ := SG, G := fun g => MWalk intV sitV A0 A1 g.A i m l g.sk ∧ GrowR A1 g.A 3 59 g.sk.length g.v (g.sk.flatMap fun e => sitC e.2),
    keepS := [13], keepB := [], sl := fun g => [(3, .v g.v)], bl := fun _ => [], ar := fun g => g.A, mu := fun g => l.length - g.sk.length }

def sittingsS : FSpec := ⟨TG, fun g vs A => vs = [.pointer (some ⟨g.t, 0, none⟩)] ∧ TreeAt A g.B g.O g.t g.T ∧ SeatsOk g.T ∧ g.T.seats.length ≤ 1000000,
  fun g _ A v A' => A.Sub A' ∧ Sl (A'.minus A) 3 (treeSits g.T).length v ((treeSits g.T).flatMap sitC)⟩

set_option maxRecDepth 100000 in
set_option maxHeartbeats 0 in
theorem sittings_ok : FOk Tryz.prog 20 sittingsS := by
  refine fok_v mixed fun ⟨T, B, O, t⟩ vs A hp => ?_
  obtain ⟨rfl, ⟨m, s, E, h⟩, hok, hlen⟩ : vs = [.pointer (some ⟨t, 0, none⟩)] ∧ TreeAt A B O t T ∧ SeatsOk T ∧ T.seats.length ≤ 1000000 := hp
  have hCt : CTSound Tryz.prog (lookC [specE 41 sortSitS] noC) := lookC_sound (noC_sound _) (fun x hx => by
    simp only [List.mem_singleton] at hx
    subst hx; exact specE_ok sortSit_ok)
  refine ⟨_, tabO Tryz.prog _ noL 60 [(20, 0)], 60, hCt, tabO_sound mixed hCt (noL_sound _) _ _, fun blk os out tape D hD => ?_⟩
  have htop0 : A.rd t 0 1 = some [.map (some m)] := h.top.rd (o := 0) (n := 1) (by show 0 + 1 ≤ 2; omega)
  have htop : A.rd t 1 1 = some [.map (some s)] := h.top.rd (o := 1) (n := 1) (by show 1 + 1 ≤ 2; omega)
  conv => lhs; whnf
  repeat (first | refine go_rd htop0 ?_ | refine go_rd htop ?_ | refine go_D hD rfl ?_
          conv => lhs; whnf)
  have hnd := walk_nodup (kv := intV) (f := sitV) (fun a b e => by injection e) h.skeys
  refine (hD _).2 ⟨_, h.smap, hnd, fun i A1 hi hA1 hI => ?_⟩
  have hM1 : MWalk intV sitV A A1 A1 i s T.seats [] := MWalk.start hi hA1 hI
  conv => lhs; whnf
  refine (hD _).2 ⟨sitsInv A A1 i s T.seats, ⟨(⟨A1, [], .slice none 0 0⟩ : SG), ⟨hM1, GrowR.nil _ _ _ _⟩, ⟨rfl, trivial⟩, trivial, rfl⟩, fun (sg : SG) hG => ⟨⟨trivial, trivial⟩, trivial, ?_⟩⟩
  obtain ⟨As, sk, v0⟩ := sg
  obtain ⟨hM, hGs⟩ : MWalk intV sitV A A1 As i s T.seats sk ∧ GrowR A1 As 3 59 sk.length v0 (sk.flatMap fun e : Int × SitD => sitC e.2) := hG
  have hle := hM.le
  conv => lhs; whnf
  refine (hD _).2 ⟨s, _, _, hM.it, fun e he hn A2 hA2 hI2 hent => ?_, fun hall => ?_⟩
  · obtain ⟨⟨k, ⟨a, b, c⟩⟩, hx, rfl, hns, hM2, hlt⟩ := hM.next he hn hA2 hI2
    have hent : A2.ent i = some (.tuple #[.int .i64 k, .agg #[.int .i64 a, .int .i64 b, .int .i64 c]]) := hent
    have hG2 := hGs.keep (A' := A2) fun q hq => hA2 q fun e => by subst e; rw [hM.iex.choose_spec] at hq; cases hq
    conv => lhs; whnf
    split
    rotate_left
    · rename_i hv
      exact absurd (hent.symm.trans hv) (by simp)
    rename_i v hv
    obtain rfl := Option.some.inj (hent.symm.trans hv)
    conv => lhs; whnf
    refine (hD _).2 fun gb A7 hN => ?_
    have hN : A2.New A7 gb #[.int .i64 a, .int .i64 b, .int .i64 c] 59 := hN
    have hM7 := hM2.sub hN.sub
    have hG7 := hG2.sub hN.sub
    obtain ⟨base, cp, rfl, hbase, hP, hA⟩ := hG7.form
    have hP := hP 24 (by omega) (by omega)
    have hrow : A7.rd gb 0 (1 * 3) = some [.int .i64 a, .int .i64 b, .int .i64 c] := hN.rd (o := 0) (n := 1 * 3) (by show 0 + 1 * 3 ≤ 3; omega)
    rcases hbase with rfl | ⟨g0, rfl⟩ <;> (conv => lhs; whnf)
    all_goals
      refine (hD _).2 ⟨sk.flatMap fun e : Int × SitD => sitC e.2, [.int .i64 a, .int .i64 b, .int .i64 c], hP.rd, ?_, rfl, ?_, ?_, hP.cap, rfl, hP.none_, fun g' o' he' hle' _ => hP.room 3 rfl g' o' he' hle', fun v A6 hAp => ?_⟩
      · show (if 1 * 3 = 0 then some [] else A7.rd gb 0 (1 * 3)) = _
        rw [if_neg (by omega)]; exact hrow
      · intro v hv
        simp only [List.mem_cons, List.not_mem_nil, or_false] at hv
        rcases hv with rfl | rfl | rfl <;> rfl
      · show sk.length + 1 ≤ 9223372036854775807
        omega
      · obtain ⟨hG6, hk6⟩ := hA _ _ _ rfl hM7.dom hAp
        have hM6 := hM7.more hk6
        have hmu : T.seats.length - (sk ++ [(k, (⟨a, b, c⟩ : SitD))]).length < T.seats.length - sk.length := by rw [List.length_append, List.length_singleton]; omega
        have hg6 : (sitsInv A A1 i s T.seats).G (⟨A6, sk ++ [(k, (⟨a, b, c⟩ : SitD))], v⟩ : SG) := ⟨hM6, by
          show GrowR A1 A6 3 59 (sk ++ [(k, (⟨a, b, c⟩ : SitD))]).length v ((sk ++ [(k, (⟨a, b, c⟩ : SitD))]).flatMap fun e => sitC e.2)
          rw [List.length_append, List.flatMap_append]; exact hG6⟩
        conv => lhs; whnf
        exact (hD _).2 ⟨(⟨A6, sk ++ [(k, (⟨a, b, c⟩ : SitD))], v⟩ : SG), ⟨hg6, ⟨rfl, trivial⟩, trivial, rfl⟩, hmu, ⟨rfl, trivial⟩, trivial⟩
  · have hperm := hM.done (fun a b e => by injection e) h.skeys hall
    have hkeys : sortI (sk.map (·.1)) = sortI (T.seats.map (·.1)) := sortI_of_perm (hperm.map _)
    have hrows : ∀ l : List (Int × SitD), (∀ e ∈ l, e ∈ T.seats) → l.flatMap (fun e => sitC e.2) = (l.map (·.1)).flatMap fun k => sitC (sitOf T.seats k) := fun l hl => by
      rw [List.flatMap_map]
      refine flatMap_eq fun e he => ?_
      rw [sitOf_mem h.skeys hok (hl e he)]
    have hsk := hrows sk hM.mem
    have hlk : (sk.map (·.1)).length = sk.length := List.length_map _
    have hlT : (treeSits T).length = sk.length := by
      rw [treeSits, List.length_map, ← hkeys, sortI_length, hlk]
    have hend : ∀ x A5, A.Sub A5 → Sl (A5.minus A) 3 sk.length x ((sortI (sk.map (·.1))).flatMap fun k => sitC (sitOf T.seats k)) → sittingsS.post ⟨T, B, O, t⟩ [.pointer (some ⟨t, 0, none⟩)] A x A5 := fun x A5 h5 hS => by
      refine ⟨h5, ?_⟩
      show Sl _ 3 (treeSits T).length x ((treeSits T).flatMap sitC)
      rw [hlT, treeSits, List.flatMap_map, ← hkeys]
      exact hS
    obtain ⟨hl0, ⟨h0, rfl⟩ | ⟨g0, nc, c, rfl, hle0, hpos0, hg0, hb0, hs0, ht0⟩⟩ := hGs
    · have hk0 : sk.map (·.1) = [] := List.length_eq_zero_iff.1 (hlk.trans h0)
      rw [hk0] at hend
      conv => lhs; whnf
      refine (hD _).2 ⟨(0, sitOf T.seats, []), ⟨sitOf_ses _, .inl ⟨rfl, none, 0, rfl⟩⟩, fun v A5 hq => ?_⟩
      obtain rfl : A5 = As := hq.1 rfl
      have hend := hend (.slice none 0 0) A5 hM.old (by rw [h0]; show Sl _ 3 0 _ ((sortI []).flatMap _); rw [show sortI [] = [] from List.mergeSort_nil]; exact Sl.nil _ _)
      conv => lhs; whnf
      exact (hD _).2 hend
    · by_cases hk0 : sk = []
      · subst hk0
        conv => lhs; whnf
        refine (hD _).2 ⟨(0, sitOf T.seats, []), ⟨sitOf_ses _, .inl ⟨rfl, some ⟨g0, 0, none⟩, nc, rfl⟩⟩, fun v A5 hq => ?_⟩
        obtain rfl : A5 = As := hq.1 rfl
        have hend := hend (.slice (some ⟨g0, 0, none⟩) 0 nc) A5 hM.old (by show Sl _ 3 0 _ ((sortI []).flatMap _); rw [show sortI [] = [] from List.mergeSort_nil]; exact Sl.zero _ _ (fun h => (by cases h)) fun a ha _ => by injection ha with ha; subst ha; rfl)
        conv => lhs; whnf
        exact (hD _).2 hend
      · have hroom : As.Room g0 0 ((sk.map (·.1)).length * 3) := ⟨c, 59, (0, 0), hb0, by rw [hlk, hs0]; have := Nat.mul_le_mul_right 3 hle0; omega, .inl rfl⟩
        have hrd0 : As.rd g0 0 ((sk.map (·.1)).length * 3) = some ((sk.map (·.1)).flatMap fun k => sitC (sitOf T.seats k)) := by
          rw [rd_mk hb0 (by rw [hlk, hs0]; have := Nat.mul_le_mul_right 3 hle0; omega), List.drop_zero, hlk, ht0, hsk]
        have hne : sk.map (·.1) ≠ [] := fun e => hk0 (List.map_eq_nil_iff.1 e)
        have hpre : sortSitS.pre (g0, sitOf T.seats, sk.map (fun x : Int × SitD => x.1)) [.slice (some ⟨g0, 0, none⟩) sk.length nc, cmpV] As := by
          refine ⟨sitOf_ses _, .inr ⟨hne, ?_, hroom, hrd0, nc, ?_⟩⟩
          · show (sk.map (·.1)).length < _; omega
          · rw [← hlk]
        conv => lhs; whnf
        refine (hD _).2 ⟨(g0, sitOf T.seats, sk.map (fun x : Int × SitD => x.1)), hpre, fun v A5 hq => ?_⟩
        have hP5 : As.Put A5 g0 0 ((sortI (sk.map (·.1))).flatMap fun k => sitC (sitOf T.seats k)) := hq.2 hne
        have hAg : A.blk g0 = none := by
          cases hA : A.blk g0 with
          | none => rfl
          | some o => rw [hM.sub1 _ _ hA] at hg0; cases hg0
        have hA5 : A.Sub A5 := hP5.sub hM.old hAg
        have hsl : ((sortI (sk.map (·.1))).flatMap fun k => sitC (sitOf T.seats k)).length = sk.length * 3 := by
          have : ∀ l : List Int, (l.flatMap fun k => sitC (sitOf T.seats k)).length = l.length * 3 := fun l => by
            induction l with
            | nil => rfl
            | cons x l ih => rw [List.flatMap_cons, List.length_append, ih, List.length_cons, Nat.succ_mul]; show 3 + _ = _; omega
          rw [this, sortI_length, hlk]
        have hend := hend (.slice (some ⟨g0, 0, none⟩) sk.length nc) A5 hA5 (by
          refine Sl.row hle0 (rd_minus ?_ hAg)
          obtain ⟨c0, t0, fz0, c', k1, k2, k3⟩ := hP5.at_
          rw [hb0] at k1
          injection k1 with k1; injection k1 with k1 k1' k1''
          subst k1; subst k1'; subst k1''
          have h3 := Nat.mul_le_mul_right 3 hle0
          rw [rd_mk k2 (by
            rw [← Array.length_toList, k3]
            simp only [List.length_append, List.length_take, List.length_drop, hsl, Array.length_toList]
            omega), List.drop_zero, k3]
          simp [hsl])
        conv => lhs; whnf
        exact (hD _).2 hend


end
end Go.Proofs.YtbebacffaljckaaGreatDoor

namespace Go.Proofs.YtbebacffaljckaaGreatDoor
open Go.Sx Go.RowKit
noncomputable section
open Classical

def pathL (q : ByteArray) : List UInt8 := q.data.toList
def treePaths (T : TreeD) : List (List UInt8) := sortL (T.nodes.map fun e => pathL e.1)

theorem strV_pathL (q : ByteArray) : strV (pathL q) = .string q := by
  obtain ⟨⟨l⟩⟩ := q; rfl

abbrev strKy (p : ByteArray) : Value := .string p
abbrev nodPt (x : Nat × NodeD) : Value := ptrV x.1

structure PG where
  A : Arena
  sk : List (ByteArray × Nat × NodeD)
  v : Value

def pathsInv (A0 A1 : Arena) (i m : Nat) (l : List (ByteArray × Nat × NodeD)) : LInv :=
  { γ := PG, G := fun g => MWalk strKy nodPt A0 A1 g.A i m l g.sk ∧ GrowR A1 g.A 1 9 g.sk.length g.v (g.sk.map fun e => strV (pathL e.1)),
    keepS := [11], keepB := [], sl := fun g => [(3, .v g.v)], bl := fun _ => [], ar := fun g => g.A, mu := fun g => l.length - g.sk.length }

def pathsS : FSpec := ⟨TG, fun g vs A => vs = [.pointer (some ⟨g.t, 0, none⟩)] ∧ TreeAt A g.B g.O g.t g.T ∧ g.T.nodes.length ≤ 1000000,
  fun g _ A v A' => A.Sub A' ∧ Sl (A'.minus A) 1 (treePaths g.T).length v ((treePaths g.T).map strV)⟩

set_option maxRecDepth 100000 in
set_option maxHeartbeats 0 in
theorem paths_ok : FOk Tryz.prog 62 pathsS := by
  refine fok_v mixed fun ⟨T, B, O, t⟩ vs A hp => ?_
  obtain ⟨rfl, ⟨m, s, E, h⟩, hlen⟩ : vs = [.pointer (some ⟨t, 0, none⟩)] ∧ TreeAt A B O t T ∧ T.nodes.length ≤ 1000000 := hp
  have hlE : E.length ≤ 1000000 := by rw [h.nodes, kMap, List.length_map] at hlen; exact hlen
  have hCt : CTSound Tryz.prog (lookC [specE 40 sortS] noC) := lookC_sound (noC_sound _) (fun x hx => by
    simp only [List.mem_singleton] at hx
    subst hx; exact specE_ok sort_ok)
  refine ⟨_, tabO Tryz.prog _ noL 60 [(62, 0)], 60, hCt, tabO_sound mixed hCt (noL_sound _) _ _, fun blk os out tape D hD => ?_⟩
  have htop0 : A.rd t 0 1 = some [.map (some m)] := h.top.rd (o := 0) (n := 1) (by show 0 + 1 ≤ 2; omega)
  conv => lhs; whnf
  repeat (first | refine go_rd htop0 ?_ | refine go_D hD rfl ?_
          conv => lhs; whnf)
  have hLE : strL ptrV (kMap (·.1) E) = E.map fun e => (strKy e.1, nodPt e.2) := by simp [strL, kMap]
  have hnm := h.nmap
  rw [hLE] at hnm
  have hnd := walk_nodup (kv := strKy) (f := nodPt) (fun a b e => by injection e) h.keys
  refine (hD _).2 ⟨_, hnm, hnd, fun i A1 hi hA1 hI => ?_⟩
  have hM1 : MWalk strKy nodPt A A1 A1 i m E [] := MWalk.start hi hA1 hI
  conv => lhs; whnf
  refine (hD _).2 ⟨pathsInv A A1 i m E, ⟨(⟨A1, [], .slice none 0 0⟩ : PG), ⟨hM1, GrowR.nil _ _ _ _⟩, ⟨rfl, trivial⟩, trivial, rfl⟩, fun (sg : PG) hG => ⟨⟨trivial, trivial⟩, trivial, ?_⟩⟩
  obtain ⟨As, sk, v0⟩ := sg
  obtain ⟨hM, hGs⟩ : MWalk strKy nodPt A A1 As i m E sk ∧ GrowR A1 As 1 9 sk.length v0 (sk.map fun e : ByteArray × Nat × NodeD => strV (pathL e.1)) := hG
  have hle := hM.le
  conv => lhs; whnf
  refine (hD _).2 ⟨m, _, _, hM.it, fun e he hn A2 hA2 hI2 hent => ?_, fun hall => ?_⟩
  · obtain ⟨⟨p, gn, n⟩, hx, rfl, hns, hM2, hlt⟩ := hM.next he hn hA2 hI2
    have hent : A2.ent i = some (.tuple #[.string p, .pointer (some ⟨gn, 0, none⟩)]) := hent
    have hG2 := hGs.keep (A' := A2) fun q hq => hA2 q fun e => by subst e; rw [hM.iex.choose_spec] at hq; cases hq
    conv => lhs; whnf
    split
    rotate_left
    · rename_i hv
      exact absurd (hent.symm.trans hv) (by simp)
    rename_i v hv
    obtain rfl := Option.some.inj (hent.symm.trans hv)
    conv => lhs; whnf
    refine (hD _).2 fun gb A7 hN => ?_
    have hN : A2.New A7 gb #[.string p] 9 := hN
    have hM7 := hM2.sub hN.sub
    have hG7 := hG2.sub hN.sub
    obtain ⟨base, cp, rfl, hbase, hP, hA⟩ := hG7.form
    have hP := hP 16 (by omega) (by omega)
    have hrow : A7.rd gb 0 (1 * 1) = some [.string p] := hN.rd (o := 0) (n := 1 * 1) (by show 0 + 1 * 1 ≤ 1; omega)
    rcases hbase with rfl | ⟨g0, rfl⟩ <;> (conv => lhs; whnf)
    all_goals
      refine (hD _).2 ⟨sk.map fun e : ByteArray × Nat × NodeD => strV (pathL e.1), [.string p], hP.rd, ?_, rfl, ?_, ?_, hP.cap, rfl, hP.none_, fun g' o' he' hle' _ => hP.room 1 rfl g' o' he' hle', fun v A6 hAp => ?_⟩
      · show (if 1 * 1 = 0 then some [] else A7.rd gb 0 (1 * 1)) = _
        rw [if_neg (by omega)]; exact hrow
      · intro v hv
        simp only [List.mem_cons, List.not_mem_nil, or_false] at hv
        subst hv; rfl
      · show sk.length + 1 ≤ 9223372036854775807
        omega
      · obtain ⟨hG6, hk6⟩ := hA _ _ _ rfl hM7.dom hAp
        have hM6 := hM7.more hk6
        have hmu : E.length - (sk ++ [(p, gn, n)]).length < E.length - sk.length := by rw [List.length_append, List.length_singleton]; omega
        have hg6 : (pathsInv A A1 i m E).G (⟨A6, sk ++ [(p, gn, n)], v⟩ : PG) := ⟨hM6, by
          show GrowR A1 A6 1 9 (sk ++ [(p, gn, n)]).length v ((sk ++ [(p, gn, n)]).map fun e => strV (pathL e.1))
          rw [List.length_append, List.map_append, List.map_singleton, strV_pathL]; exact hG6⟩
        conv => lhs; whnf
        exact (hD _).2 ⟨(⟨A6, sk ++ [(p, gn, n)], v⟩ : PG), ⟨hg6, ⟨rfl, trivial⟩, trivial, rfl⟩, hmu, ⟨rfl, trivial⟩, trivial⟩
  · have hperm := hM.done (fun a b e => by injection e) h.keys hall
    obtain ⟨ps, hps⟩ : ∃ ps : List (List UInt8), ps = sk.map fun e : ByteArray × Nat × NodeD => pathL e.1 := ⟨_, rfl⟩
    have hsort : sortL ps = treePaths T := by
      rw [hps, treePaths, h.nodes, kMap, List.map_map]
      exact mergeSort_of_perm (hperm.map _)
    have hpl : ps.length = sk.length := by rw [hps, List.length_map]
    have hpv : (sk.map fun e : ByteArray × Nat × NodeD => strV (pathL e.1)) = ps.map strV := by rw [hps, List.map_map]; rfl
    rw [hpv] at hGs
    have hend : ∀ x A5, A.Sub A5 → Sl (A5.minus A) 1 ps.length x ((sortL ps).map strV) → pathsS.post ⟨T, B, O, t⟩ [.pointer (some ⟨t, 0, none⟩)] A x A5 := fun x A5 h5 hS => by
      refine ⟨h5, ?_⟩
      show Sl _ 1 (treePaths T).length x ((treePaths T).map strV)
      rw [← hsort, sortL_length]
      exact hS
    have hold := hM.old
    have hsub1 := hM.sub1
    rw [← hpl] at hGs
    clear hpv hps
    obtain ⟨hl0, ⟨h0, rfl⟩ | ⟨g0, nc, c, rfl, hle0, hpos0, hg0, hb0, hs0, ht0⟩⟩ := hGs
    · obtain rfl : ps = [] := List.length_eq_zero_iff.1 h0
      conv => lhs; whnf
      refine (hD _).2 ⟨(0, []), .inl ⟨rfl, none, 0, rfl⟩, fun v A5 hq => ?_⟩
      obtain rfl : A5 = As := hq.1 rfl
      have hend := hend (.slice none 0 0) A5 hold (by show Sl _ 1 0 _ ((sortL []).map strV); rw [show sortL [] = [] from List.mergeSort_nil]; exact Sl.nil _ _)
      conv => lhs; whnf
      exact (hD _).2 hend
    · by_cases hk0 : ps = []
      · subst hk0
        conv => lhs; whnf
        refine (hD _).2 ⟨(0, []), .inl ⟨rfl, some ⟨g0, 0, none⟩, nc, rfl⟩, fun v A5 hq => ?_⟩
        obtain rfl : A5 = As := hq.1 rfl
        have hend := hend (.slice (some ⟨g0, 0, none⟩) 0 nc) A5 hold (by show Sl _ 1 0 _ ((sortL []).map strV); rw [show sortL [] = [] from List.mergeSort_nil]; exact Sl.zero _ _ (fun h => (by cases h)) fun a ha _ => by injection ha with ha; subst ha; rfl)
        conv => lhs; whnf
        exact (hD _).2 hend
      · have hroom : As.Room g0 0 ps.length := ⟨c, 9, (0, 0), hb0, by omega, .inl rfl⟩
        have hrd0 : As.rd g0 0 ps.length = some (ps.map strV) := by
          rw [rd_mk hb0 (by omega), List.drop_zero]
          rw [Nat.mul_one] at ht0; rw [ht0]
        have hlt : ps.length < 4611686018427387904 := by omega
        have hpre : sortS.pre (g0, ps) [.slice (some ⟨g0, 0, none⟩) ps.length nc] As := .inr ⟨hk0, hlt, hroom, hrd0, nc, rfl⟩
        conv => lhs; whnf
        refine (hD _).2 ⟨(g0, ps), hpre, fun v A5 hq => ?_⟩
        have hP5 : As.Put A5 g0 0 ((sortL ps).map strV) := hq.2 hk0
        have hAg : A.blk g0 = none := by
          cases hA : A.blk g0 with
          | none => rfl
          | some o => rw [hsub1 _ _ hA] at hg0; cases hg0
        have hA5 : A.Sub A5 := hP5.sub hold hAg
        have hend := hend (.slice (some ⟨g0, 0, none⟩) ps.length nc) A5 hA5 (by
          refine Sl.row hle0 (rd_minus ?_ hAg)
          obtain ⟨c0, t0, fz0, c', k1, k2, k3⟩ := hP5.at_
          rw [hb0] at k1
          injection k1 with k1; injection k1 with k1 k1' k1''
          subst k1; subst k1'; subst k1''
          have hsl := sortL_length ps
          rw [Nat.mul_one, rd_mk k2 (by
            rw [← Array.length_toList, k3]
            simp only [List.length_append, List.length_take, List.length_drop, List.length_map, hsl, Array.length_toList]
            omega), List.drop_zero, k3]
          simp [hsl])
        conv => lhs; whnf
        exact (hD _).2 hend

end
end Go.Proofs.YtbebacffaljckaaGreatDoor

namespace Go.Proofs.YtbebacffaljckaaGreatDoor
open Go.Sx Go.RowKit
noncomputable section
open Classical

/-! ### Maps as functions -/

instance : LawfulBEq ByteArray where
  eq_of_beq h := (bytes_key _ _ h).symm
  rfl := bytes_beq_self _

section
variable {κ α : Type} [BEq κ] [LawfulBEq κ]

theorem kGet_put [DecidableEq κ] (p q : κ) (x : α) : ∀ l : List (κ × α), kGet q (kPut p x l) = if q = p then some x else kGet q l
  | [] => by
    by_cases h : q = p
    · subst h; simp [kPut, kGet]
    · have hb : (q == p) = false := by simpa using h
      simp [kPut, kGet, h, hb]
  | (r, y) :: l => by
    simp only [kPut]
    by_cases hr : p = r
    · subst hr
      simp only [BEq.rfl, cond_true, kGet]
      by_cases h : q = p
      · subst h; simp
      · have hb : (q == p) = false := by simpa using h
        simp [h, hb]
    · have : (p == r) = false := by simpa using hr
      simp only [this, cond_false, kGet, kGet_put p q x l]
      by_cases h : q = p
      · subst h
        simp [this]
      · simp [h]

theorem kGet_mod [DecidableEq κ] (p q : κ) (f : α → α) : ∀ l : List (κ × α), kGet q (kMod p f l) = if q = p then (kGet q l).map f else kGet q l
  | [] => by simp [kMod, kGet]
  | (r, y) :: l => by
    simp only [kMod]
    by_cases hr : p = r
    · subst hr
      simp only [BEq.rfl, cond_true, kGet]
      by_cases h : q = p
      · subst h; simp
      · have hb : (q == p) = false := by simpa using h
        simp [h, hb]
    · have : (p == r) = false := by simpa using hr
      simp only [this, cond_false, kGet, kGet_mod p q f l]
      by_cases h : q = p
      · subst h
        simp [this]
      · simp [h]

theorem kGet_not {p : κ} : ∀ {l : List (κ × α)}, p ∉ l.map (·.1) → kGet p l = none
  | [], _ => rfl
  | (r, y) :: l, h => by
    simp only [List.map_cons, List.mem_cons, not_or] at h
    have : (p == r) = false := by simpa using h.1
    simp only [kGet, this, cond_false]
    exact kGet_not h.2

theorem kGet_del [DecidableEq κ] (p q : κ) : ∀ {l : List (κ × α)}, (l.map (·.1)).Nodup → kGet q (kDel p l) = if q = p then none else kGet q l
  | [], _ => by simp [kDel, kGet]
  | (r, y) :: l, hn => by
    rw [List.map_cons, List.nodup_cons] at hn
    simp only [kDel]
    by_cases hr : p = r
    · subst hr
      simp only [BEq.rfl, cond_true, kGet]
      by_cases h : q = p
      · subst h
        rw [if_pos rfl]; exact kGet_not hn.1
      · have hb : (q == p) = false := by simpa using h
        simp [h, hb]
    · have : (p == r) = false := by simpa using hr
      simp only [this, cond_false, kGet, kGet_del p q hn.2]
      by_cases h : q = p
      · subst h
        simp [this]
      · simp [h]

theorem kPut_nd (p : κ) (x : α) : ∀ {l : List (κ × α)}, (l.map (·.1)).Nodup → ((kPut p x l).map (·.1)).Nodup
  | [], _ => by simp [kPut]
  | (r, y) :: l, hn => by
    rw [List.map_cons, List.nodup_cons] at hn
    simp only [kPut]
    by_cases hr : p = r
    · subst hr
      simp only [BEq.rfl, cond_true, List.map_cons, List.nodup_cons]
      exact hn
    · have : (p == r) = false := by simpa using hr
      simp only [this, cond_false, List.map_cons, List.nodup_cons]
      refine ⟨fun h => ?_, kPut_nd p x hn.2⟩
      rcases kPut_keys p x l r h with h | h
      · exact hn.1 h
      · exact hr h.symm

theorem kDel_sub (p : κ) : ∀ (l : List (κ × α)), (kDel p l).Sublist l
  | [] => by simp [kDel]
  | (r, y) :: l => by
    simp only [kDel]
    by_cases hr : p = r
    · subst hr
      simp
    · have : (p == r) = false := by simpa using hr
      simp only [this, cond_false]
      exact (kDel_sub p l).cons_cons _

theorem kDel_nd (p : κ) {l : List (κ × α)} (h : (l.map (·.1)).Nodup) : ((kDel p l).map (·.1)).Nodup := h.sublist ((kDel_sub p l).map _)

theorem kGet_iff {p : κ} {l : List (κ × α)} : kGet p l ≠ none ↔ p ∈ l.map (·.1) := by
  constructor
  · intro h
    by_cases hm : p ∈ l.map (·.1)
    · exact hm
    · exact absurd (kGet_not hm) h
  · intro hm h
    exact kGet_none (by simp) h hm

end

/-! ### A node's changes -/

/-- Data, and marks, over a node. -/
def owN (a : Option (List UInt8 × Int × Int × Int)) (b : Option (Int × Int)) (n : NodeD) : NodeD :=
  ⟨match a with | some x => x.1 | none => n.data,
   { n.stat with
     mzxid := match a with | some x => x.2.1 | none => n.stat.mzxid
     mtime := match a with | some x => x.2.2.1 | none => n.stat.mtime
     ver := match a with | some x => x.2.2.2 | none => n.stat.ver
     cver := match b with | some x => x.1 | none => n.stat.cver
     pzxid := match b with | some x => x.2 | none => n.stat.pzxid }⟩

def Ow (f : Option NodeD → Option NodeD) : Prop := (∃ c, f = fun _ => c) ∨ ∃ a b, f = Option.map (owN a b)

theorem ow_id : Ow fun o => o := .inr ⟨none, none, by funext o; cases o <;> rfl⟩

theorem owN_comp (a a' : Option (List UInt8 × Int × Int × Int)) (b b' : Option (Int × Int)) (n : NodeD) : owN a' b' (owN a b n) = owN (match a' with | some x => some x | none => a) (match b' with | some x => some x | none => b) n := by
  cases a' <;> cases b' <;> rfl

theorem ow_comp {f g : Option NodeD → Option NodeD} (hf : Ow f) (hg : Ow g) : Ow fun o => g (f o) := by
  rcases hg with ⟨c, rfl⟩ | ⟨a', b', rfl⟩
  · exact .inl ⟨c, rfl⟩
  · rcases hf with ⟨c, rfl⟩ | ⟨a, b, rfl⟩
    · exact .inl ⟨c.map (owN a' b'), rfl⟩
    · exact .inr ⟨_, _, by funext o; rw [Option.map_map]; congr 1; funext n; exact owN_comp a a' b b' n⟩

theorem ow_idem {f : Option NodeD → Option NodeD} (hf : Ow f) (o : Option NodeD) : f (f o) = f o := by
  rcases hf with ⟨c, rfl⟩ | ⟨a, b, rfl⟩
  · rfl
  · cases o with
    | none => rfl
    | some n =>
      show some _ = some _
      rw [owN_comp]
      cases a <;> cases b <;> rfl

def markF (h : DeedH) (z : Int) (q : ByteArray) (o : Option NodeD) : Option NodeD := if q = parentP h.path then o.map (nodeMark z h.cver) else o

def chgF (h : DeedH) (z time : Int) (q : ByteArray) (o : Option NodeD) : Option NodeD :=
  if h.kind = 3 then (if q = h.path then o.map (nodeSet h z time) else o)
  else if h.kind = 1 then markF h z q (if q = h.path then some (nodeNew h z time) else o)
  else if h.kind = 2 then markF h z q (if q = h.path then none else o)
  else markF h z q o

theorem ow_mark (h : DeedH) (z : Int) (q : ByteArray) : Ow (markF h z q) := by
  by_cases e : q = parentP h.path
  · exact .inr ⟨none, some (h.cver, z), by funext o; unfold markF; rw [if_pos e]; rfl⟩
  · have : markF h z q = fun o => o := by funext o; unfold markF; rw [if_neg e]
    rw [this]; exact ow_id

theorem ow_chg (h : DeedH) (z time : Int) (q : ByteArray) : Ow (chgF h z time q) := by
  unfold chgF
  by_cases h3 : h.kind = 3
  · simp only [h3, if_true]
    by_cases e : q = h.path
    · exact .inr ⟨some (h.data, z, time, h.ver), none, by funext o; rw [if_pos e]; rfl⟩
    · simp only [e, if_false]; exact ow_id
  · simp only [h3, if_false]
    by_cases h1 : h.kind = 1
    · simp only [h1, if_true]
      by_cases e : q = h.path
      · simp only [e, if_true]
        exact .inl ⟨_, rfl⟩
      · simp only [e, if_false]; exact ow_mark h z q
    · simp only [h1, if_false]
      by_cases h2 : h.kind = 2
      · simp only [h2, if_true]
        by_cases e : q = h.path
        · simp only [e, if_true]
          exact .inl ⟨_, rfl⟩
        · simp only [e, if_false]; exact ow_mark h z q
      · simp only [h2, if_false]; exact ow_mark h z q

def ND (T : TreeD) : Prop := (T.nodes.map (·.1)).Nodup ∧ (T.seats.map (·.1)).Nodup

theorem get_mark (T : TreeD) (h : DeedH) (z : Int) (q : ByteArray) : kGet q (treeMark T h.path z h.cver).nodes = markF h z q (kGet q T.nodes) := by
  unfold treeMark markF
  exact kGet_mod (parentP h.path) q (nodeMark z h.cver) T.nodes

theorem get_change {T : TreeD} (hn : ND T) (h : DeedH) (z time : Int) (q : ByteArray) : kGet q (treeChange T h z time).nodes = chgF h z time q (kGet q T.nodes) := by
  unfold treeChange chgF
  by_cases h3 : h.kind = 3
  · rw [if_pos h3, if_pos h3]; exact kGet_mod h.path q (nodeSet h z time) T.nodes
  · rw [if_neg h3, if_neg h3]
    by_cases h1 : h.kind = 1
    · rw [if_pos h1, if_pos h1, get_mark, kGet_put]
    · rw [if_neg h1, if_neg h1]
      by_cases h2 : h.kind = 2
      · rw [if_pos h2, if_pos h2, get_mark, kGet_del _ _ hn.1]
      · rw [if_neg h2, if_neg h2, get_mark]

theorem nd_mark {T : TreeD} (hn : ND T) (p : ByteArray) (z cv : Int) : ND (treeMark T p z cv) := ⟨by
  show ((kMod _ _ T.nodes).map (·.1)).Nodup
  rw [kMod_keys]; exact hn.1, hn.2⟩

theorem change_seats (T : TreeD) (h : DeedH) (z time : Int) : (treeChange T h z time).seats = T.seats := by
  unfold treeChange treeMark
  split <;> (try split) <;> (try split) <;> rfl

theorem nd_change {T : TreeD} (hn : ND T) (h : DeedH) (z time : Int) : ND (treeChange T h z time) := by
  unfold treeChange
  split
  · exact ⟨by show ((kMod _ _ T.nodes).map (·.1)).Nodup; rw [kMod_keys]; exact hn.1, hn.2⟩
  · split
    · exact nd_mark (T := ⟨kPut h.path (nodeNew h z time) T.nodes, T.seats⟩) ⟨kPut_nd _ _ hn.1, hn.2⟩ _ _ _
    · split
      · exact nd_mark (T := ⟨kDel h.path T.nodes, T.seats⟩) ⟨kDel_nd _ hn.1, hn.2⟩ _ _ _
      · exact nd_mark hn _ _ _

def partsF (ps : List DeedD) (z time : Int) (q : ByteArray) (o : Option NodeD) : Option NodeD := ps.foldl (fun o p => chgF p.h z time q o) o

theorem ow_parts (z time : Int) (q : ByteArray) : ∀ ps : List DeedD, Ow (partsF ps z time q)
  | [] => ow_id
  | p :: ps => (ow_comp (ow_chg p.h z time q) (ow_parts z time q ps) : Ow fun o => partsF ps z time q (chgF p.h z time q o))

theorem parts_all (z time : Int) : ∀ (ps : List DeedD) {T : TreeD}, ND T → ND (treeParts T ps z time) ∧ (treeParts T ps z time).seats = T.seats ∧ ∀ q, kGet q (treeParts T ps z time).nodes = partsF ps z time q (kGet q T.nodes)
  | [], T, hn => ⟨hn, rfl, fun _ => rfl⟩
  | p :: ps, T, hn => by
    obtain ⟨h1, h2, h3⟩ := parts_all z time ps (nd_change hn p.h z time)
    refine ⟨h1, h2.trans (change_seats T p.h z time), fun q => ?_⟩
    show kGet q (treeParts (treeChange T p.h z time) ps z time).nodes = _
    rw [h3, get_change hn]; rfl

/-- What a deed does to the node of a path. -/
def doF (d : DeedD) (q : ByteArray) (o : Option NodeD) : Option NodeD :=
  if d.h.kind = 1 ∨ d.h.kind = 2 ∨ d.h.kind = 3 then chgF d.h d.h.zxid d.h.time q o
  else if d.h.kind = 5 ∨ d.h.kind = 8 then partsF d.parts d.h.zxid d.h.time q o
  else o

/-- .. and to the sitting of a session. -/
def touchF (d : DeedD) (s : Int) (o : Option SitD) : Option SitD := if s = d.h.ses then o.map fun x => ⟨x.ses, x.tmo, max x.turn d.h.turn⟩ else o
def sitF (d : DeedD) (s : Int) (o : Option SitD) : Option SitD :=
  touchF d s (if d.h.kind = 4 then (if s = d.h.zxid then some ⟨d.h.zxid, d.h.tmo, d.h.turn⟩ else o)
    else if d.h.kind = 5 then (if s = d.h.owner then none else o) else o)

theorem ow_do (d : DeedD) (q : ByteArray) : Ow (doF d q) := by
  unfold doF
  split
  · exact ow_chg _ _ _ _
  · split
    · exact ow_parts _ _ _ _
    · exact ow_id

theorem do_all {T : TreeD} (hn : ND T) (d : DeedD) : ND (treeDo T d) ∧ (∀ q, kGet q (treeDo T d).nodes = doF d q (kGet q T.nodes)) ∧
    ∀ s, kGet s (treeDo T d).seats = if d.h.kind = 4 then (if s = d.h.zxid then some ⟨d.h.zxid, d.h.tmo, d.h.turn⟩ else kGet s T.seats) else if d.h.kind = 5 then (if s = d.h.owner then none else kGet s T.seats) else kGet s T.seats := by
  unfold treeDo doF
  by_cases h1 : d.h.kind = 1 ∨ d.h.kind = 2 ∨ d.h.kind = 3
  · simp only [h1, if_true]
    refine ⟨nd_change hn _ _ _, fun q => get_change hn _ _ _ q, fun s => ?_⟩
    rw [change_seats, if_neg (by omega), if_neg (by omega)]
  · simp only [h1, if_false]
    by_cases h4 : d.h.kind = 4
    · simp only [h4, if_true]
      refine ⟨⟨hn.1, kPut_nd _ _ hn.2⟩, fun q => rfl, fun s => kGet_put _ _ _ _⟩
    · simp only [h4, if_false]
      by_cases h5 : d.h.kind = 5
      · simp only [h5, if_true, true_or]
        obtain ⟨k1, k2, k3⟩ := parts_all d.h.zxid d.h.time d.parts (T := ⟨T.nodes, kDel d.h.owner T.seats⟩) ⟨hn.1, kDel_nd _ hn.2⟩
        refine ⟨k1, k3, fun s => ?_⟩
        rw [k2]; exact kGet_del _ _ hn.2
      · simp only [h5, if_false, false_or]
        by_cases h8 : d.h.kind = 8
        · simp only [h8, if_true]
          obtain ⟨k1, k2, k3⟩ := parts_all d.h.zxid d.h.time d.parts hn
          exact ⟨k1, k3, fun s => by rw [k2]⟩
        · simp only [h8, if_false]
          exact ⟨hn, fun _ => trivial, fun _ => trivial⟩

theorem touch_all {T : TreeD} (hn : ND T) (d : DeedD) : ND (treeTouch T d.h.ses d.h.turn) ∧ (treeTouch T d.h.ses d.h.turn).nodes = T.nodes ∧ ∀ s, kGet s (treeTouch T d.h.ses d.h.turn).seats = touchF d s (kGet s T.seats) := by
  unfold treeTouch touchF
  cases hk : kGet d.h.ses T.seats with
  | none =>
    refine ⟨hn, rfl, fun s => ?_⟩
    by_cases e : s = d.h.ses
    · rw [if_pos e, e, hk]; rfl
    · rw [if_neg e]
  | some x =>
    refine ⟨⟨hn.1, kPut_nd _ _ hn.2⟩, rfl, fun s => ?_⟩
    rw [kGet_put]
    by_cases e : s = d.h.ses
    · rw [if_pos e, if_pos e, e, hk]; rfl
    · rw [if_neg e, if_neg e]

theorem apply_all {T : TreeD} (hn : ND T) (d : DeedD) : ND (treeApply T d) ∧ (∀ q, kGet q (treeApply T d).nodes = if RightD d then doF d q (kGet q T.nodes) else kGet q T.nodes) ∧
    ∀ s, kGet s (treeApply T d).seats = if RightD d then sitF d s (kGet s T.seats) else kGet s T.seats := by
  unfold treeApply
  by_cases h : RightD d
  · simp only [h, if_true]
    obtain ⟨k1, k2, k3⟩ := do_all hn d
    obtain ⟨j1, j2, j3⟩ := touch_all k1 d
    refine ⟨j1, fun q => by rw [j2, k2], fun s => ?_⟩
    rw [j3, k3]; rfl
  · simp only [h, if_false]
    exact ⟨hn, fun _ => trivial, fun _ => trivial⟩

theorem sit_idem (d : DeedD) (s : Int) (o : Option SitD) : sitF d s (sitF d s o) = sitF d s o := by
  unfold sitF
  by_cases h4 : d.h.kind = 4
  · simp only [h4, if_true]
    by_cases e : s = d.h.zxid
    · simp only [e, if_true]
    · simp only [e, if_false]
      unfold touchF
      by_cases e2 : s = d.h.ses
      · simp only [e2, if_true]
        cases o with
        | none => rfl
        | some x => simp
      · simp only [e2, if_false]
  · simp only [h4, if_false]
    by_cases h5 : d.h.kind = 5
    · simp only [h5, if_true]
      by_cases e : s = d.h.owner
      · simp only [e, if_true]
      · simp only [e, if_false]
        unfold touchF
        by_cases e2 : s = d.h.ses
        · simp only [e2, if_true]
          cases o with
          | none => rfl
          | some x => simp
        · simp only [e2, if_false]
    · simp only [h5, if_false]
      unfold touchF
      by_cases e2 : s = d.h.ses
      · simp only [e2, if_true]
        cases o with
        | none => rfl
        | some x => simp
      · simp only [e2, if_false]

/-! ### Trees that are alike -/

def TEq (T U : TreeD) : Prop := (∀ q, kGet q T.nodes = kGet q U.nodes) ∧ ∀ s, kGet s T.seats = kGet s U.seats

theorem TEq.refl (T : TreeD) : TEq T T := ⟨fun _ => rfl, fun _ => rfl⟩

theorem TEq.apply {T U : TreeD} (h : TEq T U) (hT : ND T) (hU : ND U) (d : DeedD) : TEq (treeApply T d) (treeApply U d) := by
  obtain ⟨_, k1, k2⟩ := apply_all hT d
  obtain ⟨_, j1, j2⟩ := apply_all hU d
  exact ⟨fun q => by rw [k1, j1, h.1], fun s => by rw [k2, j2, h.2]⟩

/-- A deed done twice is as done once. -/
theorem TEq.twice {T U : TreeD} (h : TEq T U) (hT : ND T) (hU : ND U) (d : DeedD) : TEq (treeApply T d) (treeApply (treeApply U d) d) := by
  obtain ⟨k0, k1, k2⟩ := apply_all hT d
  obtain ⟨j0, j1, j2⟩ := apply_all hU d
  obtain ⟨_, i1, i2⟩ := apply_all j0 d
  refine ⟨fun q => ?_, fun s => ?_⟩
  · rw [k1, i1, j1, h.1]
    by_cases hr : RightD d
    · simp only [hr, if_true]; rw [ow_idem (ow_do d q)]
    · simp only [hr, if_false]
  · rw [k2, i2, j2, h.2]
    by_cases hr : RightD d
    · simp only [hr, if_true]; rw [sit_idem]
    · simp only [hr, if_false]

end
end Go.Proofs.YtbebacffaljckaaGreatDoor

namespace Go.Proofs.YtbebacffaljckaaGreatDoor
open Go.Sx Go.RowKit
noncomputable section
open Classical

def statZ : StatD := ⟨0, 0, 0, 0, 0, 0, 0, 0, 0, 0⟩

/-- What a get tells. -/
def GotV (A A' : Arena) (T : TreeD) (p : ByteArray) (v : Value) : Prop := match kGet p T.nodes with
  | none => v = .tuple #[nodeV ⟨#[]⟩ (.slice none 0 0) statZ, .bool false]
  | some n => ∃ vd, v = .tuple #[nodeV p vd { n.stat with len := n.data.length, kids := (treeKids T p).length }, .bool true] ∧ SlB (A'.minus A) vd n.data

def getS : FSpec := ⟨TG × ByteArray, fun g vs A => vs = [.pointer (some ⟨g.1.t, 0, none⟩), .string g.2] ∧ TreeAt A g.1.B g.1.O g.1.t g.1.T ∧ g.1.T.nodes.length ≤ 1000000,
  fun g _ A v A' => A.Sub A' ∧ GotV A A' g.1.T g.2 v⟩

/-- A tree stays behind what only lays new blocks. -/
theorem TreeAt_sub {A B A' : Arena} {O : Nat → Prop} {t : Nat} {T : TreeD} (h : TreeAt A B O t T) (hs : A.Sub A') : TreeAt A' B O t T := by
  refine h.frame (fun k hk => ?_) ?_
  · obtain ⟨m, s, E, hR⟩ := h
    obtain ⟨o, ho⟩ := hR.live k hk
    rw [hs k o ho, ho]
  · obtain ⟨m, s, E, hR⟩ := h
    exact hR.sub.trans hs

set_option maxRecDepth 100000 in
set_option maxHeartbeats 0 in
theorem get_ok : FOk Tryz.prog 16 getS := by
  refine fok_v mixed fun ⟨⟨T, B, O, t⟩, p⟩ vs A hp => ?_
  obtain ⟨rfl, hT, hlen⟩ : vs = [.pointer (some ⟨t, 0, none⟩), .string p] ∧ TreeAt A B O t T ∧ T.nodes.length ≤ 1000000 := hp
  have hCt : CTSound Tryz.prog (lookC [specE 17 listS, specE 36 toldS] noC) := lookC_sound (noC_sound _) (fun x hx => by
    simp only [List.mem_cons, List.not_mem_nil, or_false] at hx
    rcases hx with rfl | rfl
    · exact specE_ok list_ok
    · exact specE_ok told_ok)
  refine ⟨_, noL, 60, hCt, noL_sound _, fun blk os out tape D hD => ?_⟩
  conv => lhs; whnf
  refine (hD _).2 ⟨(⟨T, B, O, t⟩, p), ⟨rfl, hT, hlen⟩, fun v A1 hq => ?_⟩
  obtain ⟨h1, x, rfl, hx⟩ : A.Sub A1 ∧ ∃ x, v = .tuple #[x, .bool (kGet p T.nodes).isSome] ∧ Sl (A1.minus A) 1 (if (kGet p T.nodes).isSome then treeKids T p else []).length x ((if (kGet p T.nodes).isSome then treeKids T p else []).map strV) := hq
  obtain ⟨a, k, rfl⟩ := hx.form
  cases hk : kGet p T.nodes with
  | none =>
    have hend : getS.post (⟨T, B, O, t⟩, p) [.pointer (some ⟨t, 0, none⟩), .string p] A (.tuple #[nodeV ⟨#[]⟩ (.slice none 0 0) statZ, .bool false]) A1 := ⟨h1, (by
      show GotV A A1 T p _
      rw [GotV, hk])⟩
    conv => lhs; whnf
    exact (hD _).2 hend
  | some n =>
    rw [hk] at hx
    conv => lhs; whnf
    refine (hD _).2 ⟨(⟨T, B, O, t⟩, p, n, (treeKids T p).length), ⟨rfl, TreeAt_sub hT h1, hk⟩, fun v A2 hq => ?_⟩
    obtain ⟨h2, vd, rfl, hS⟩ : A1.Sub A2 ∧ ∃ vd, v = nodeV p vd { n.stat with len := n.data.length, kids := (treeKids T p).length } ∧ SlB (A2.minus A1) vd n.data := hq
    have hend : getS.post (⟨T, B, O, t⟩, p) [.pointer (some ⟨t, 0, none⟩), .string p] A (.tuple #[nodeV p vd { n.stat with len := n.data.length, kids := (treeKids T p).length }, .bool true]) A2 := ⟨h1.trans h2, (by
      show GotV A A2 T p _
      rw [GotV, hk]
      exact ⟨vd, rfl, hS.sub (minus_later h1)⟩)⟩
    obtain ⟨b, k', rfl⟩ := hS.1.form
    conv => lhs; whnf
    exact (hD _).2 hend

end
end Go.Proofs.YtbebacffaljckaaGreatDoor

namespace Go.Proofs.YtbebacffaljckaaGreatDoor
open Go.Sx Go.RowKit
noncomputable section
open Classical

/-- Sittings as a row that came in. -/
def SlS (A : Arena) (v : Value) (l : List SitD) : Prop := Sl A 3 l.length v (l.flatMap sitC) ∧ l.length ≤ 140737488351232

theorem flat_at {α : Type} (enc : α → List Value) (k : Nat) (hk : ∀ x, (enc x).length = k) : ∀ (l : List α) (i : Nat) (hi : i < l.length), ((l.flatMap enc).drop (i * k)).take k = enc l[i]
  | [], i, hi => by simp at hi
  | x :: l, 0, _ => by
    rw [Nat.zero_mul, List.drop_zero, List.flatMap_cons, List.take_append_of_le_length (by rw [hk]; omega), List.take_of_length_le (by rw [hk]; omega)]; rfl
  | x :: l, i + 1, hi => by
    rw [List.flatMap_cons, Nat.succ_mul, Nat.add_comm, ← List.drop_drop, List.drop_left' (hk x)]
    exact flat_at enc k hk l i (by simpa using hi)

theorem flat_len {α : Type} (enc : α → List Value) (k : Nat) (hk : ∀ x, (enc x).length = k) (l : List α) : (l.flatMap enc).length = l.length * k := by
  induction l with
  | nil => simp
  | cons x l ih => rw [List.flatMap_cons, List.length_append, hk, ih, List.length_cons, Nat.succ_mul]; omega

theorem row_at {α : Type} {enc : α → List Value} {k : Nat} (hk : ∀ x, (enc x).length = k) {A : Arena} {g o n : Nat} {l : List α} (h : A.rd g o (n * k) = some (l.flatMap enc)) (i : Nat) (hi : i < l.length) (hn : n = l.length) : A.rd g (o + i * k) k = some (enc l[i]) := by
  have hle : i * k + k ≤ n * k := by rw [← Nat.succ_mul]; exact Nat.mul_le_mul_right _ (by omega)
  rw [rd_at h (i := i * k) (m := k) hle, flat_at enc k hk l i hi]

def seatOne (l : List (Int × SitD)) (s : SitD) : List (Int × SitD) := if s.ses < 1 then l else kPut s.ses s l
def seatsOf (l : List SitD) : List (Int × SitD) := l.foldl seatOne []

theorem seatsOf_snoc (l : List SitD) (s : SitD) : seatsOf (l ++ [s]) = seatOne (seatsOf l) s := by
  unfold seatsOf; rw [List.foldl_append]; rfl

theorem seatOne_nodup {l : List (Int × SitD)} (h : (l.map (·.1)).Nodup) (s : SitD) : ((seatOne l s).map (·.1)).Nodup := by
  unfold seatOne
  split
  · exact h
  · exact kPut_nodup h

/-- Nodes laid one by one over a new tree. -/
def copyNodes (sk : List (ByteArray × Nat × NodeD)) : List (ByteArray × NodeD) := sk.foldl (fun l e => kPut e.1 e.2.2 l) treeNew.nodes

theorem copyNodes_snoc (sk : List (ByteArray × Nat × NodeD)) (e : ByteArray × Nat × NodeD) : copyNodes (sk ++ [e]) = kPut e.1 e.2.2 (copyNodes sk) := by
  unfold copyNodes; rw [List.foldl_append]; rfl

end
end Go.Proofs.YtbebacffaljckaaGreatDoor
