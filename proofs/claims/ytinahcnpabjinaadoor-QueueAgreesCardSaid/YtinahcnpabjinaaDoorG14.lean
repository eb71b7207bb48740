/-
  Contracts: slices.Sort at strings, by the kit's law of it over any program.
  Contracts: strings.HasPrefix.
  Rows that a loop makes by append.
  Contracts: the names of a node's children.
  Contracts: a new tree; a node as it is told; a node got.
  What deeds leave in a tree: its paths are right, it grows by so much.
  Contracts: a node got; the answer to a reading.
  Contracts: two rows of texts: are they the same?
  Contracts: two rows of bytes: are they the same?
  A closed run as a contract; the law of chapter 26 is awake.
-/
import Derived.Shelf.Sort.Plain
import Derived.Shelf.Slices.In.SortNone
import Derived.Test.YtinahcnpabjinaaDoorG06
import Derived.Test.YtinahcnpabjinaaDoorG07
import Derived.Sort.KeysCollected
import Derived.Test.YtinahcnpabjinaaDoorG13
namespace Go.Proofs.YtinahcnpabjinaaDoor
open Go.Sx Go.RowKit Go.Sort Go.Shelf
noncomputable section

def sortRen : Go.Shelf.Ren := ⟨fun | 190 => 34 | 125 => 65 | 258 => 64 | 128 => 83 | 129 => 84 | 302 => 74 | 303 => 75 | 304 => 76 | 305 => 77 | 306 => 78 | 307 => 79 | 308 => 80 | 309 => 81 | 310 => 82 | 333 => 89 | 329 => 90 | 330 => 91 | 334 => 92 | 335 => 93 | 336 => 94 | 344 => 104 | n => n, fun | 31 => 43 | 9 => 9 | 3 => 3 | 46 => 120 | 0 => 0 | 51 => 141 | 53 => 143 | 4 => 4 | 183 => 134 | 182 => 133 | 131 => 138 | 5 => 5 | 218 => 147 | 222 => 151 | 228 => 158 | 229 => 159 | n => n, fun | n => n⟩
theorem sortLays : Lays.n190 Tryd.prog sortRen where
  mixed := by kernel_rfl
  f125 := Tryd.func65.trans (congrArg some (by kernel_rfl))
  f128 := Tryd.func83.trans (congrArg some (by kernel_rfl))
  f129 := Tryd.func84.trans (congrArg some (by kernel_rfl))
  f190 := Tryd.func34.trans (congrArg some (by kernel_rfl))
  f258 := Tryd.func64.trans (congrArg some (by kernel_rfl))
  f302 := Tryd.func74.trans (congrArg some (by kernel_rfl))
  f303 := Tryd.func75.trans (congrArg some (by kernel_rfl))
  f304 := Tryd.func76.trans (congrArg some (by kernel_rfl))
  f305 := Tryd.func77.trans (congrArg some (by kernel_rfl))
  f306 := Tryd.func78.trans (congrArg some (by kernel_rfl))
  f307 := Tryd.func79.trans (congrArg some (by kernel_rfl))
  f308 := Tryd.func80.trans (congrArg some (by kernel_rfl))
  f309 := Tryd.func81.trans (congrArg some (by kernel_rfl))
  f310 := Tryd.func82.trans (congrArg some (by kernel_rfl))
  f329 := Tryd.func90.trans (congrArg some (by kernel_rfl))
  f330 := Tryd.func91.trans (congrArg some (by kernel_rfl))
  f333 := Tryd.func89.trans (congrArg some (by kernel_rfl))
  f334 := Tryd.func92.trans (congrArg some (by kernel_rfl))
  f335 := Tryd.func93.trans (congrArg some (by kernel_rfl))
  f336 := Tryd.func94.trans (congrArg some (by kernel_rfl))
  f344 := Tryd.func104.trans (congrArg some (by kernel_rfl))
  t0 := Tryd.underlying0
  a0 := Tryd.isAgg0
  z0 := Tryd.sizeOf0
  v0 := Tryd.zeroValue0
  t3 := Tryd.underlying3
  a3 := Tryd.isAgg3
  z3 := Tryd.sizeOf3
  v3 := Tryd.zeroValue3
  t4 := Tryd.underlying4
  a4 := Tryd.isAgg4
  z4 := Tryd.sizeOf4
  v4 := Tryd.zeroValue4
  t5 := Tryd.underlying5
  a5 := Tryd.isAgg5
  z5 := Tryd.sizeOf5
  v5 := Tryd.zeroValue5
  t9 := Tryd.underlying9
  a9 := Tryd.isAgg9
  z9 := Tryd.sizeOf9
  v9 := Tryd.zeroValue9
  t31 := Tryd.underlying43
  a31 := Tryd.isAgg43
  z31 := Tryd.sizeOf43
  v31 := Tryd.zeroValue43
  t46 := Tryd.underlying120
  a46 := Tryd.isAgg120
  z46 := Tryd.sizeOf120
  v46 := Tryd.zeroValue120
  t51 := Tryd.underlying141
  a51 := Tryd.isAgg141
  z51 := Tryd.sizeOf141
  v51 := Tryd.zeroValue141
  t53 := Tryd.underlying143
  a53 := Tryd.isAgg143
  z53 := Tryd.sizeOf143
  v53 := Tryd.zeroValue143
  t131 := Tryd.underlying138
  a131 := Tryd.isAgg138
  z131 := Tryd.sizeOf138
  v131 := Tryd.zeroValue138
  t182 := Tryd.underlying133
  a182 := Tryd.isAgg133
  z182 := Tryd.sizeOf133
  v182 := Tryd.zeroValue133
  t183 := Tryd.underlying134
  a183 := Tryd.isAgg134
  z183 := Tryd.sizeOf134
  v183 := Tryd.zeroValue134
  t218 := Tryd.underlying147
  a218 := Tryd.isAgg147
  z218 := Tryd.sizeOf147
  v218 := Tryd.zeroValue147
  t222 := Tryd.underlying151
  a222 := Tryd.isAgg151
  z222 := Tryd.sizeOf151
  v222 := Tryd.zeroValue151
  t228 := Tryd.underlying158
  a228 := Tryd.isAgg158
  z228 := Tryd.sizeOf158
  v228 := Tryd.zeroValue158
  t229 := Tryd.underlying159
  a229 := Tryd.isAgg159
  z229 := Tryd.sizeOf159
  v229 := Tryd.zeroValue159

def sortL (ss : List (List UInt8)) : List (List UInt8) := ss.mergeSort fun x y => decide (x ≤ y)
def strV (l : List UInt8) : Value := .string ⟨l.toArray⟩

theorem sortL_length (ss : List (List UInt8)) : (sortL ss).length = ss.length := List.length_mergeSort _

theorem put_toList (d : List (List UInt8)) (c : Array Value) (h : d.length ≤ c.size) : (putCells encStr 0 d.toArray c).toList = c.toList.take 0 ++ d.map strV ++ c.toList.drop (0 + (d.map strV).length) := by
  refine List.ext_getElem? fun k => ?_
  simp only [putCells, Array.toList_mapIdx, List.getElem?_mapIdx, List.take_zero, List.nil_append, List.length_map, Nat.zero_add, Nat.zero_le, true_and, List.size_toArray, Nat.sub_zero]
  by_cases hk : k < d.length
  · rw [List.getElem?_append_left (by simpa using hk), List.getElem?_map, List.getElem?_eq_getElem hk]
    have hkc : k < c.toList.length := Nat.lt_of_lt_of_le hk h
    have h1 : c.toList[k]? = some c.toList[k] := List.getElem?_eq_getElem hkc
    rw [h1]
    simp [hk, strV]
  · rw [List.getElem?_append_right (by simpa using Nat.le_of_not_lt hk), List.length_map, List.getElem?_drop, Nat.add_sub_cancel' (Nat.le_of_not_lt hk)]
    cases c.toList[k]? <;> simp [hk]

/-- A row of strings is sorted where it lies. -/
def sortS : FSpec := ⟨Nat × List (List UInt8), fun g vs A => (g.2 = [] ∧ ∃ p cap, vs = [.slice p 0 cap]) ∨ (g.2 ≠ [] ∧ g.2.length < 4611686018427387904 ∧ A.Room g.1 0 g.2.length ∧ A.rd g.1 0 g.2.length = some (g.2.map strV) ∧ ∃ cap, vs = [.slice (some ⟨g.1, 0, none⟩) g.2.length cap]),
  fun g _ A _ A' => (g.2 = [] → A' = A) ∧ (g.2 ≠ [] → A.Put A' g.1 0 ((sortL g.2).map strV))⟩

theorem goes_of_calls {P : Program} {f : FuncId} {args : Array Value} {w : World} {Φ : Value → World → Prop} {fn : Func} (hf : P.funcs[f]? = some fn) (h1 : (fn.name == "runtime.NumGoroutine") = false ∧ fn.body.isNone = false)
    (h : Calls P f args w fun e w' => ∃ v, e = .returned v ∧ Φ v w') : CallGoes P f args w Φ fun _ _ => False := by
  refine .inl ⟨fn, hf, h1, fun cs => ?_⟩
  obtain ⟨e, w', fr, k1, k2⟩ := h cs
  exact ⟨e, w', fr, .inl k1, k2⟩

theorem sort_ok : FOk Tryd.prog 34 sortS := by
  intro g vs A w hA hp
  refine goes_of_calls sortLays.f190 ⟨by kernel_rfl, by kernel_rfl⟩ ?_
  rcases hp with ⟨h0, p, cap, rfl⟩ | ⟨h0, hlt, ⟨c, t, fz, hb, hle, hfz⟩, hr, cap, rfl⟩
  · intro cs
    obtain ⟨e, w', fr, ⟨k1, k2⟩, k3⟩ := Any.slices_Sort_string_none sortLays p cap w cs
    subst k2
    exact ⟨e, w', fr, ⟨_, k1, A, ⟨fun _ => rfl, fun h => absurd h0 h⟩, rfl, rfl, rfl, fun _ _ _ => rfl, hA, fun k o ho => .inl ⟨o, ho⟩⟩, k3⟩
  · have hw := hA _ _ hb
    have hsz : g.1 < w.heap.size := by
      have := Array.getElem?_eq_some_iff.1 hw
      exact this.1
    have hH : Holds encStr w g.1 0 g.2.toArray := fun j hj => by
      have hj : j < g.2.length := by simpa using hj
      constructor
      · have hr' : (c.toList.drop 0).take g.2.length = g.2.map strV := by
          rw [A.rdeq] at hr
          unfold rdOf at hr
          rw [hb] at hr
          simp only at hr
          rw [if_pos (by omega)] at hr
          injection hr
        have h3 : ((c.toList.drop 0).take g.2.length)[j]? = (g.2.map strV)[j]? := by rw [hr']
        rw [List.drop_zero, List.getElem?_take, if_pos hj, List.getElem?_map, List.getElem?_eq_getElem hj] at h3
        unfold World.cell?
        rw [hw]
        simp only [Option.isSome_none, Bool.false_eq_true, if_false, Nat.zero_add]
        rw [← Array.getElem?_toList, h3]
        simp [strV, hj]
      · unfold World.frozen?
        rw [hw]
        have h9 := hfz.not (0 + j) (by omega)
        obtain ⟨lo, hi⟩ := fz
        dsimp only at h9 ⊢
        rw [← Bool.decide_and]
        exact decide_eq_false h9
    intro cs
    obtain ⟨e, w', fr, ⟨k1, n, os, k2⟩, k3⟩ := Any.slices_Sort_string sortLays g.1 0 cap g.2 w hH hsz hlt cs
    have hd : (sortL g.2).length ≤ c.size := by rw [sortL_length]; omega
    refine ⟨e, w', fr, ⟨_, k1, Arena.of (fun k => if k = g.1 then some (.cells (putCells encStr 0 (sortL g.2).toArray c) t fz) else A.blk k), ⟨fun h => absurd h h0, fun _ => ⟨⟨c, t, fz, _, hb, if_pos rfl, put_toList _ c hd⟩, fun k hk => if_neg hk⟩⟩, ?_⟩, k3⟩
    have k2 : w' = grow (putRow encStr (Sort.ahead w n) g.1 0 (sortL g.2).toArray) os := k2
    subst k2
    have at_ : ∀ k, k < w.heap.size → (grow (putRow encStr (Sort.ahead w n) g.1 0 (sortL g.2).toArray) os).heap[k]? = if k = g.1 then some (.cells (putCells encStr 0 (sortL g.2).toArray c) t fz) else w.heap[k]? := fun k hk => by
      show (((w.heap.modify g.1 (onCells (putCells encStr 0 (sortL g.2).toArray))) ++ os)[k]?) = _
      rw [Array.getElem?_append_left (by simpa using hk), Array.getElem?_modify]
      by_cases e : k = g.1
      · subst e; rw [if_pos rfl, if_pos rfl, hw]; rfl
      · rw [if_neg (fun h => e h.symm), if_neg e]
    have lt_ : ∀ k o, A.blk k = some o → k < w.heap.size := fun k o hk => (Array.getElem?_eq_some_iff.1 (hA k o hk)).1
    refine ⟨rfl, rfl, rfl, fun k hk hks => ?_, fun k o hk => ?_, fun k o hk => ?_⟩
    · rw [at_ k hks, if_neg fun e => (by rw [e, hb] at hk; cases hk)]
    · have hk : (if k = g.1 then some (Obj.cells (putCells encStr 0 (sortL g.2).toArray c) t fz) else A.blk k) = some o := hk
      by_cases e : k = g.1
      · rw [if_pos e] at hk
        rw [at_ k (e ▸ hsz), if_pos e, hk]
      · rw [if_neg e] at hk
        rw [at_ k (lt_ k o hk), if_neg e]; exact hA k o hk
    · have hk : (if k = g.1 then some (Obj.cells (putCells encStr 0 (sortL g.2).toArray c) t fz) else A.blk k) = some o := hk
      by_cases e : k = g.1
      · exact .inl ⟨_, e ▸ hb⟩
      · rw [if_neg e] at hk; exact .inl ⟨o, hk⟩

end
end Go.Proofs.YtinahcnpabjinaaDoor

namespace Go.Proofs.YtinahcnpabjinaaDoor
open Go.Sx Go.RowKit
noncomputable section
open Classical

def hasPrefixS : FSpec := ⟨ByteArray × ByteArray, fun g vs _ => vs = [.string g.1, .string g.2], fun g _ A v A' => A' = A ∧ v = .bool (decide (g.2.data.toList <+: g.1.data.toList))⟩

set_option maxRecDepth 100000 in
set_option maxHeartbeats 0 in
theorem hasPrefix_ok : FOk Tryd.prog 31 hasPrefixS := by
  refine fok_v mixed fun g vs A hp => ?_
  simp only [hasPrefixS] at hp
  obtain ⟨s, p⟩ := g
  obtain rfl : vs = _ := hp
  refine ⟨noC, noL, 60, noC_sound _, noL_sound _, fun blk os out tape D hD => ?_⟩
  conv => lhs; whnf
  refine split_dec (fun h1 => ?_) (fun h1 => ?_) <;> (conv => lhs; whnf) <;> dsimp only at h1
  · refine go_b (by simp only [Bool.and_eq_true, Bool.or_eq_true, decide_eq_true_eq]; omega) ?_
    conv => lhs; whnf
    refine (hD _).2 ⟨rfl, ?_⟩
    show Value.bool (beqL (List.take ((p.data.toList.length : Int).toNat - (0 : Int).toNat) (List.drop (0 : Int).toNat s.data.toList)) p.data.toList) = _
    congr 1
    rw [show (p.data.toList.length : Int).toNat - (0 : Int).toNat = p.data.toList.length by omega, show (0 : Int).toNat = 0 from rfl, List.drop_zero]
    cases hb : beqL (s.data.toList.take p.data.toList.length) p.data.toList with
    | true => exact (decide_eq_true (by rw [← beqL_iff.1 hb]; exact List.take_prefix _ _)).symm
    | false => exact (decide_eq_false fun h => beqL_ff.1 hb (List.prefix_iff_eq_take.1 h).symm).symm
  · refine (hD _).2 ⟨rfl, ?_⟩
    rw [decide_eq_false fun h => h1 (by have := h.length_le; dsimp only at this; omega)]
end
end Go.Proofs.YtinahcnpabjinaaDoor

namespace Go.Sx
noncomputable section

/-- A row that is made by appending: none yet, or one in a block that A1 does not know. -/
def GrowR (A1 A : Arena) (es : Nat) (e : TypeId) (n : Nat) (v : Value) (cs : List Value) : Prop :=
  cs.length = n * es ∧ ((n = 0 ∧ v = .slice none 0 0) ∨
    ∃ g nc c, v = .slice (some ⟨g, 0, none⟩) n nc ∧ n ≤ nc ∧ 0 < nc ∧ A1.blk g = none ∧ A.blk g = some (.cells c e (0, 0)) ∧ c.size = nc * es ∧ c.toList.take (n * es) = cs)

theorem GrowR.nil (A1 A : Arena) (es : Nat) (e : TypeId) : GrowR A1 A es e 0 (.slice none 0 0) [] := ⟨by simp, .inl ⟨rfl, rfl⟩⟩

theorem GrowR.keep {A1 A A' : Arena} {es : Nat} {e : TypeId} {n : Nat} {v : Value} {cs : List Value} (h : GrowR A1 A es e n v cs) (hk : ∀ k, A1.blk k = none → A'.blk k = A.blk k) : GrowR A1 A' es e n v cs := by
  obtain ⟨h1, h2 | ⟨g, nc, c, h3, h4, h4', h5, h6, h7, h8⟩⟩ := h
  · exact ⟨h1, .inl h2⟩
  · exact ⟨h1, .inr ⟨g, nc, c, h3, h4, h4', h5, by rw [hk g h5]; exact h6, h7, h8⟩⟩

theorem GrowR.sub {A1 A A' : Arena} {es : Nat} {e : TypeId} {n : Nat} {v : Value} {cs : List Value} (h : GrowR A1 A es e n v cs) (hk : A.Sub A') : GrowR A1 A' es e n v cs := by
  obtain ⟨h1, h2 | ⟨g, nc, c, h3, h4, h4', h5, h6, h7, h8⟩⟩ := h
  · exact ⟨h1, .inl h2⟩
  · exact ⟨h1, .inr ⟨g, nc, c, h3, h4, h4', h5, hk g _ h6, h7, h8⟩⟩

/-- What an append to it asks. -/
structure GrowP (A : Arena) (base : Option (Nat × Nat)) (n c es bytes : Nat) (cs : List Value) : Prop where
  rd : baseRd A base (n * es) = some cs
  cap : c < n + 1 → Builtin.nextslicecap (n + 1) c * bytes ≤ 281474976710656
  none_ : base = none → n = 0 ∧ c = 0
  room : ∀ (m : Nat), m = es → ∀ g o, base = some (g, o) → n + 1 ≤ c → A.Room g (o + n * es) m

theorem GrowR.form {A1 A : Arena} {es : Nat} {e : TypeId} {n : Nat} {v : Value} {cs : List Value} (h : GrowR A1 A es e n v cs) :
    ∃ base c, v = .slice (addrA base) n c ∧ (base = none ∨ ∃ g, base = some (g, 0)) ∧ (∀ bytes, bytes ≤ 65536 → n ≤ 1000000000 → GrowP A base n c es bytes cs) ∧
    ∀ ys v' A', ys.length = es → (∀ k, A.blk k = none → A1.blk k = none) → Appended A base n c es e cs ys 1 v' A' → GrowR A1 A' es e (n + 1) v' (cs ++ ys) ∧ ∀ k o, A1.blk k = some o → A'.blk k = A.blk k := by
  obtain ⟨hl, ⟨rfl, rfl⟩ | ⟨g, nc, c, rfl, hn, hpos, hg, hb, hsz, ht⟩⟩ := h
  · have hcs : cs = [] := List.length_eq_zero_iff.1 (by rw [hl]; simp)
    subst hcs
    refine ⟨none, 0, rfl, .inl rfl, fun bytes hby hn => ⟨by simp [baseRd], fun h => ?_, fun _ => ⟨rfl, rfl⟩, fun _ _ _ _ h => (by cases h)⟩, fun ys v' A' hy hd ha => ?_⟩
    · have := nextcap_le h
      calc _ ≤ (2 * (0 + 1) + 768) * 65536 := Nat.mul_le_mul this hby
        _ ≤ _ := by omega
    · rcases ha with ⟨h0, _⟩ | ⟨_, g, nc, c, zs, rfl, hnc, hc, hz, hN⟩
      · omega
      · refine ⟨⟨by simp [hy], .inr ⟨g, nc, c, rfl, hnc, by omega, hd g hN.none_, hN.at_, ?_, ?_⟩⟩, fun k o hk => hN.other k fun e => (by subst e; rw [hd _ hN.none_] at hk; cases hk)⟩
        · rw [← Array.length_toList, hc]
          simp only [List.nil_append, List.length_append, hy, hz, Nat.zero_add]
          have : nc = (nc - 1) + 1 := by omega
          rw [show nc * es = ((nc - 1) + 1) * es by rw [← this], Nat.succ_mul]; omega
        · rw [hc]; simp [hy]
  · have hle : n * es ≤ nc * es := Nat.mul_le_mul_right _ hn
    refine ⟨some (g, 0), nc, rfl, .inr ⟨g, rfl⟩, fun bytes hby hnb => ⟨?_, fun h => ?_, fun h => (by cases h), fun m hm g' o' h hlt => ?_⟩, fun ys v' A' hy hd ha => ?_⟩
    · show (if n * es = 0 then some [] else A.rd g 0 (n * es)) = some cs
      by_cases h0 : n * es = 0
      · rw [if_pos h0]
        rw [h0] at hl; rw [List.length_eq_zero_iff.1 hl]
      · rw [if_neg h0, rd_mk hb (by omega)]; simp [ht]
    · have := nextcap_le h
      calc _ ≤ (2 * (n + 1) + 768) * 65536 := Nat.mul_le_mul this hby
        _ ≤ _ := by omega
    · injection h with h; injection h with h1 h2; subst h1; subst h2; subst hm
      refine ⟨c, e, (0, 0), hb, ?_, .inl rfl⟩
      have := Nat.mul_le_mul_right m hlt
      rw [Nat.succ_mul] at this; omega
    · rcases ha with ⟨h0, rfl, h3⟩ | ⟨h0, g', nc', c', zs, rfl, hnc, hc, hz, hN⟩
      · obtain ⟨c', k1, k2, k3⟩ : ∃ c', A'.blk g = some (.cells c' e (0, 0)) ∧ (∀ k, k ≠ g → A'.blk k = A.blk k) ∧ c'.toList = c.toList.take (n * es) ++ ys ++ c.toList.drop (n * es + ys.length) := by
          rcases h3 with ⟨rfl, rfl⟩ | ⟨g', o', h, hP⟩
          · exact ⟨c, hb, fun _ _ => rfl, by simp⟩
          · injection h with h; injection h with h1 h2; subst h1; subst h2
            obtain ⟨c0, t0, fz0, c', k1, k2, k3⟩ := hP.at_
            rw [hb] at k1
            injection k1 with k1; injection k1 with k1 k1' k1''
            subst k1; subst k1'; subst k1''
            exact ⟨c', k2, hP.other, by rw [k3]; simp⟩
        have hlen : n * es + es ≤ nc * es := by rw [← Nat.succ_mul]; exact Nat.mul_le_mul_right _ h0
        refine ⟨⟨by simp [hl, hy, Nat.succ_mul], .inr ⟨g, nc, c', rfl, h0, hpos, hg, k1, ?_, ?_⟩⟩, fun k o hk => k2 k fun e => (by subst e; rw [hg] at hk; cases hk)⟩
        · rw [← Array.length_toList, k3]
          simp only [List.length_append, List.length_take, List.length_drop, Array.length_toList, hsz, hy]
          omega
        · rw [k3, ht]
          rw [List.take_append_of_le_length (by simp [hl, hy, Nat.succ_mul])]
          rw [List.take_of_length_le (by simp [hl, hy, Nat.succ_mul])]
      · refine ⟨⟨by simp [hl, hy, Nat.succ_mul], .inr ⟨g', nc', c', rfl, hnc, by omega, hd g' hN.none_, hN.at_, ?_, ?_⟩⟩, fun k o hk => hN.other k fun e => (by subst e; rw [hd _ hN.none_] at hk; cases hk)⟩
        · rw [← Array.length_toList, hc]
          simp only [List.length_append, hl, hy, hz]
          obtain ⟨d, rfl⟩ : ∃ d, nc' = (n + 1) + d := ⟨nc' - (n + 1), by omega⟩
          rw [Nat.add_sub_cancel_left, Nat.add_mul, Nat.add_mul]; omega
        · rw [hc]
          rw [List.take_append_of_le_length (by simp [hl, hy, Nat.succ_mul])]
          rw [List.take_of_length_le (by simp [hl, hy, Nat.succ_mul])]

end
end Go.Sx

namespace Go.Proofs.YtinahcnpabjinaaDoor
open Go.Sx Go.RowKit
noncomputable section
open Classical

/-- The names of the nodes right under a path, in no order. -/
def kidsOf (l : List ByteArray) (p : ByteArray) : List (List UInt8) := (l.filter fun q => decide (parentP q = p)).map fun q => (cutP q.data.toList).2

/-- The same, in order. -/
def treeKids (T : TreeD) (p : ByteArray) : List (List UInt8) := sortL (kidsOf (T.nodes.map (·.1)) p)

theorem kids_perm {l l' : List ByteArray} (h : l.Perm l') (p : ByteArray) : sortL (kidsOf l p) = sortL (kidsOf l' p) := mergeSort_of_perm ((h.filter _).map _)

theorem strL_keys {α : Type} (f : α → Value) (l : List (ByteArray × α)) : (strL f l).map (·.1) = (l.map (·.1)).map Value.string := by simp [strL, Function.comp_def]

/-- The nodes' map may be walked. -/
theorem walk_keys {A B : Arena} {O : Nat → Prop} {t : Nat} {T : TreeD} {m s : Nat} {E : List (ByteArray × Nat × NodeD)} (h : TreeR A B O t T m s E) : ((strL ptrV (kMap (·.1) E)).map (·.1)).Nodup := by
  rw [strL_keys, kMap_keys]
  exact List.pairwise_map.2 (h.keys.imp fun hab e => hab (by injection e))

theorem bytes_ext {a b : ByteArray} (h : a.data.toList = b.data.toList) : a = b := by
  obtain ⟨⟨a⟩⟩ := a; obtain ⟨⟨b⟩⟩ := b
  obtain rfl : a = b := h; rfl

theorem parent_prefix (q : ByteArray) : (parentP q).data.toList <+: q.data.toList := by
  show (cutP q.data.toList).1 <+: _
  unfold cutP
  split
  · exact List.take_prefix _ _
  · exact List.nil_prefix

theorem kids_snoc (l : List ByteArray) (q p : ByteArray) : kidsOf (l ++ [q]) p = kidsOf l p ++ if parentP q = p then [(cutP q.data.toList).2] else [] := by
  unfold kidsOf
  rw [List.filter_append, List.map_append]
  by_cases h : parentP q = p <;> simp [h]

theorem kids_le (l : List ByteArray) (p : ByteArray) : (kidsOf l p).length ≤ l.length := by
  rw [kidsOf, List.length_map]; exact List.length_filter_le _ _

/-- A walk over rows of one sort: all met, none twice. -/
theorem walk_perm {l : List ByteArray} {sk : List ByteArray} (h1 : sk.Nodup) (h2 : ∀ q ∈ sk, q ∈ l) (h3 : l.Nodup) (h4 : ∀ q ∈ l, q ∈ sk) : sk.Perm l :=
  (List.perm_ext_iff_of_nodup h1 h3).2 fun q => ⟨h2 q, h4 q⟩

theorem nodup_sub_le {α : Type} : ∀ {l k : List α}, l.Nodup → (∀ x ∈ l, x ∈ k) → l.length ≤ k.length
  | [], _, _, _ => Nat.zero_le _
  | x :: xs, k, hn, hs => by
    rw [List.nodup_cons] at hn
    obtain ⟨a, b, rfl⟩ := List.append_of_mem (hs x (by simp))
    have := nodup_sub_le (k := a ++ b) hn.2 fun y hy => (by
      have := hs y (List.mem_cons_of_mem _ hy)
      simp only [List.mem_append, List.mem_cons] at this ⊢
      rcases this with h | rfl | h
      · exact .inl h
      · exact absurd hy hn.1
      · exact .inr h)
    simp only [List.length_append, List.length_cons] at this ⊢
    omega

structure LG where
  A : Arena
  sk : List ByteArray
  v : Value

def listInv (A0 A1 : Arena) (i m : Nat) (l : List (Value × Value)) (keys : List ByteArray) (p : ByteArray) : LInv :=
  { γ := LG, G := fun g => A0.Sub g.A ∧ (∀ k, g.A.blk k = none → A1.blk k = none) ∧ IterAt g.A i m l (g.sk.map Value.string) ∧ GrowR A1 g.A 1 9 (kidsOf g.sk p).length g.v ((kidsOf g.sk p).map strV) ∧ g.sk.Nodup ∧ ∀ q ∈ g.sk, q ∈ keys,
    keepS := [1, 24], keepB := [], sl := fun g => [(6, .v g.v)], bl := fun _ => [], ar := fun g => g.A, mu := fun g => keys.length - g.sk.length }

def listS : FSpec := ⟨TG × ByteArray, fun g vs A => vs = [.pointer (some ⟨g.1.t, 0, none⟩), .string g.2] ∧ TreeAt A g.1.B g.1.O g.1.t g.1.T ∧ g.1.T.nodes.length ≤ 1000000,
  fun g _ A v A' => A.Sub A' ∧ ∃ x, v = .tuple #[x, .bool (kGet g.2 g.1.T.nodes).isSome] ∧ Sl (A'.minus A) 1 (if (kGet g.2 g.1.T.nodes).isSome then treeKids g.1.T g.2 else []).length x ((if (kGet g.2 g.1.T.nodes).isSome then treeKids g.1.T g.2 else []).map strV)⟩

set_option maxRecDepth 100000 in
set_option maxHeartbeats 0 in
theorem list_ok : FOk Tryd.prog 10 listS := by
  refine fok_v mixed fun ⟨⟨T, B, O, t⟩, p⟩ vs A hp => ?_
  obtain ⟨rfl, ⟨m, s, E, h⟩, hlen⟩ : vs = [.pointer (some ⟨t, 0, none⟩), .string p] ∧ TreeAt A B O t T ∧ T.nodes.length ≤ 1000000 := hp
  have hCt : CTSound Tryd.prog (lookC [specE 32 parentS, specE 33 baseS, specE 31 hasPrefixS, specE 34 sortS] noC) := lookC_sound (noC_sound _) (fun x hx => by
    simp only [List.mem_cons, List.not_mem_nil, or_false] at hx
    rcases hx with rfl | rfl | rfl | rfl
    · exact specE_ok parent_ok
    · exact specE_ok base_ok
    · exact specE_ok hasPrefix_ok
    · exact specE_ok sort_ok)
  refine ⟨_, tabO Tryd.prog _ noL 60 [(10, 0)], 60, hCt, tabO_sound mixed hCt (noL_sound _) _ _, fun blk os out tape D hD => ?_⟩
  have htop : A.rd t 0 1 = some [.map (some m)] := h.top.rd (o := 0) (n := 1) (by show 0 + 1 ≤ 2; omega)
  conv => lhs; whnf
  refine go_rd htop ?_
  conv => lhs; whnf
  repeat (first | refine go_rd htop ?_ | refine go_D hD rfl ?_
          conv => lhs; whnf)
  refine go_lk (h.look p) ?_
  cases hk : kGet p E with
  | none =>
    have hlk : A.look m (.string p) = some none := by rw [h.look, hk]; rfl
    have hT : kGet p T.nodes = none := by rw [h.get, hk]; rfl
    conv => lhs; whnf
    repeat (first | refine go_rd htop ?_ | refine go_lk hlk ?_ | refine go_D hD rfl ?_
            conv => lhs; whnf)
    have hend : listS.post (⟨T, B, O, t⟩, p) [.pointer (some ⟨t, 0, none⟩), .string p] A (.tuple #[.slice none 0 0, .bool false]) A := by
      refine ⟨Arena.Sub.refl _, .slice none 0 0, by rw [hT]; rfl, ?_⟩
      rw [hT]
      exact Sl.nil _ _
    exact (hD _).2 hend
  | some x =>
    obtain ⟨g, n⟩ := x
    have hlk : A.look m (.string p) = some (some (.pointer (some ⟨g, 0, none⟩))) := by rw [h.look, hk]; rfl
    have hT : kGet p T.nodes = some n := by rw [h.get, hk]; rfl
    conv => lhs; whnf
    repeat (first | refine go_rd htop ?_ | refine go_lk hlk ?_ | refine go_D hD rfl ?_
            conv => lhs; whnf)
    refine (hD _).2 ⟨_, h.nmap, walk_keys h, fun i A1 hi hA1 hI => ?_⟩
    have hA1 : ∀ k, k ≠ i → A1.blk k = A.blk k := hA1
    have hi : A.blk i = none := hi
    have hsub1 : A.Sub A1 := fun k o hk => by rw [hA1 k fun e => by subst e; rw [hi] at hk; cases hk]; exact hk
    have hdom1 : ∀ k, A1.blk k = none → A.blk k = none := fun k hk => by
      cases hA : A.blk k with
      | none => rfl
      | some o => rw [hsub1 k o hA] at hk; cases hk
    have hkl : (E.map (·.1)).length ≤ 1000000 := by rw [List.length_map]; rw [h.nodes, kMap, List.length_map] at hlen; exact hlen
    have hi1 : ∃ o, A1.blk i = some o := by
      obtain ⟨es, clock, seen, h1, h2, h3, h4, h5, h6, h7⟩ := hI
      exact ⟨_, h6⟩
    have hm1 : ∃ o, A1.blk m = some o := by
      obtain ⟨es, clock, seen, h1, h2, h3, h4, h5, h6, h7⟩ := hI
      exact ⟨_, h1⟩
    obtain ⟨L, hL⟩ : ∃ L : List (Value × Value), L = strL ptrV (kMap (fun x : Nat × NodeD => x.1) E) := ⟨_, rfl⟩
    obtain ⟨Ks, hK⟩ : ∃ Ks : List ByteArray, Ks = E.map (fun x : ByteArray × Nat × NodeD => x.1) := ⟨_, rfl⟩
    have hKT : T.nodes.map (·.1) = Ks := by rw [h.nodes, kMap_keys, hK]
    have hIL : IterAt A1 i m L [] := by rw [hL]; exact hI
    have hLm : ∀ e ∈ L, ∃ q g, e = (Value.string q, ptrV g) ∧ q ∈ Ks := fun e he => by
      rw [hL] at he
      obtain ⟨x, hx, rfl⟩ := List.mem_map.1 he
      obtain ⟨y, hy, rfl⟩ := List.mem_map.1 hx
      exact ⟨_, _, rfl, by rw [hK]; exact List.mem_map.2 ⟨y, hy, rfl⟩⟩
    have hLk : ∀ q ∈ Ks, ∃ e ∈ L, e.1 = Value.string q := fun q hq => by
      rw [hK] at hq
      obtain ⟨y, hy, rfl⟩ := List.mem_map.1 hq
      rw [hL]
      exact ⟨_, List.mem_map.2 ⟨_, List.mem_map.2 ⟨y, hy, rfl⟩, rfl⟩, rfl⟩
    have hKn : Ks.Nodup := by rw [hK]; exact h.keys
    have hkl : Ks.length ≤ 1000000 := by rw [hK]; exact hkl
    conv => lhs; whnf
    refine (hD _).2 ⟨listInv A A1 i m L Ks p, ⟨(⟨A1, [], .slice none 0 0⟩ : LG), ⟨hsub1, fun _ hk => hk, hIL, GrowR.nil _ _ _ _, List.nodup_nil, fun _ hq => (by cases hq)⟩, ⟨rfl, trivial⟩, trivial, rfl⟩, fun (sg : LG) hG => ⟨⟨trivial, trivial⟩, trivial, ?_⟩⟩
    obtain ⟨As, sk, v0⟩ := sg
    obtain ⟨hAs, hds, hIs, hGs, hnd, hin⟩ : A.Sub As ∧ (∀ k, As.blk k = none → A1.blk k = none) ∧ IterAt As i m L (sk.map Value.string) ∧ GrowR A1 As 1 9 (kidsOf sk p).length v0 ((kidsOf sk p).map strV) ∧ sk.Nodup ∧ ∀ q ∈ sk, q ∈ Ks := hG
    conv => lhs; whnf
    refine (hD _).2 ⟨m, _, _, hIs, fun e he hn A2 hA2 hI2 hent => ?_, fun hall => ?_⟩
    · obtain ⟨q, gq, rfl, hq⟩ := hLm e he
      have hn : q ∉ sk := fun hh => hn (List.mem_map.2 ⟨q, hh, rfl⟩)
      have hA2 : ∀ b, b ≠ i → A2.blk b = As.blk b := hA2
      have hent : A2.ent i = some (.tuple #[.string q, .pointer (some ⟨gq, 0, none⟩)]) := hent
      conv => lhs; whnf
      split
      rotate_left
      · rename_i hv
        exact absurd (hent.symm.trans hv) (by simp)
      rename_i v hv
      obtain rfl := Option.some.inj (hent.symm.trans hv)
      conv => lhs; whnf
      refine (hD _).2 ⟨(q, p), rfl, fun v A' hq' => ?_⟩
      obtain ⟨rfl, rfl⟩ : A' = A2 ∧ v = .bool (decide (p.data.toList <+: q.data.toList)) := hq'
      have hAsA : A.Sub A' := fun k o hk => by rw [hA2 k fun e => by subst e; rw [hi] at hk; cases hk]; exact hAs k o hk
      have hI3 : IterAt A' i m L ((sk ++ [q]).map Value.string) := by rw [List.map_append]; exact hI2
      have hdsA : ∀ k, A'.blk k = none → A1.blk k = none := fun k hk => by
        by_cases e : k = i
        · subst e
          obtain ⟨es, clock, seen, h1, h2, h3, h4, h5, h6, h7⟩ := hI2
          rw [h6] at hk; cases hk
        · rw [hA2 k e] at hk; exact hds k hk
      have hGk := hGs.keep (A' := A') fun k hk => hA2 k fun e => by subst e; rw [hi1.choose_spec] at hk; cases hk
      have hnd' : (sk ++ [q]).Nodup := List.nodup_append.2 ⟨hnd, by simp, fun a ha b hb => by
        simp only [List.mem_singleton] at hb
        subst hb; exact fun e => hn (e ▸ ha)⟩
      have hin' : ∀ x ∈ sk ++ [q], x ∈ Ks := fun x hx => by
        rcases List.mem_append.1 hx with hx | hx
        · exact hin x hx
        · simp only [List.mem_singleton] at hx; subst hx; exact hq
      have hcnt := nodup_sub_le hnd' hin'
      rw [List.length_append, List.length_singleton] at hcnt
      have hmu : Ks.length - (sk ++ [q]).length < Ks.length - sk.length := by rw [List.length_append, List.length_singleton]; omega
      have hskip : parentP q ≠ p → (listInv A A1 i m L Ks p).G (⟨A', sk ++ [q], v0⟩ : LG) := fun hne => ⟨hAsA, hdsA, hI3, by
        show GrowR A1 A' 1 9 (kidsOf (sk ++ [q]) p).length v0 ((kidsOf (sk ++ [q]) p).map strV)
        rw [kids_snoc, if_neg hne, List.append_nil]; exact hGk, hnd', hin'⟩
      conv => lhs; whnf
      refine split_dec (fun hpre => ?_) (fun hpre => ?_) <;> (conv => lhs; whnf)
      rotate_left
      · exact (hD _).2 ⟨(⟨A', sk ++ [q], v0⟩ : LG), ⟨hskip fun e => hpre (e ▸ parent_prefix q), ⟨rfl, trivial⟩, trivial, rfl⟩, hmu, ⟨rfl, rfl, trivial⟩, trivial⟩
      refine (hD _).2 ⟨q, rfl, fun v A9 hq9 => ?_⟩
      obtain ⟨rfl, rfl⟩ : A9 = A' ∧ v = .string (parentP q) := hq9
      conv => lhs; whnf
      refine split_b (fun hb => ?_) (fun hb => ?_) <;> (conv => lhs; whnf)
      rotate_left
      · exact (hD _).2 ⟨(⟨A9, sk ++ [q], v0⟩ : LG), ⟨hskip fun e => beqL_ff.1 hb (by rw [e]), ⟨rfl, trivial⟩, trivial, rfl⟩, hmu, ⟨rfl, rfl, trivial⟩, trivial⟩
      have hpq : parentP q = p := bytes_ext (beqL_iff.1 hb)
      refine (hD _).2 ⟨q, rfl, fun v A8 hq8 => ?_⟩
      obtain ⟨rfl, rfl⟩ : A8 = A9 ∧ v = .string (baseP q) := hq8
      conv => lhs; whnf
      refine (hD _).2 fun gb A7 hN => ?_
      have hN : A8.New A7 gb #[.string (baseP q)] 9 := hN
      have hA7 : A.Sub A7 := hAsA.trans hN.sub
      have hds7 : ∀ k, A7.blk k = none → A8.blk k = none := fun k hk => by
        cases h8 : A8.blk k with
        | none => rfl
        | some o => rw [hN.sub k o h8] at hk; cases hk
      have hG7 := hGk.sub hN.sub
      have hI7 : IterAt A7 i m L ((sk ++ [q]).map Value.string) := hI3.sub fun b o _ hb => hN.sub b o hb
      obtain ⟨base, c, rfl, hbase, hP, hA⟩ := hG7.form
      have hP := hP 16 (by omega) (by have := kids_le sk p; omega)
      have hrow : A7.rd gb 0 (1 * 1) = some [.string (baseP q)] := hN.rd (o := 0) (n := 1 * 1) (by show 0 + 1 * 1 ≤ 1; omega)
      have hds6 : ∀ k, A7.blk k = none → A1.blk k = none := fun k hk => hdsA k (hds7 k hk)
      rcases hbase with rfl | ⟨g0, rfl⟩ <;> (conv => lhs; whnf)
      all_goals
        refine (hD _).2 ⟨(kidsOf sk p).map strV, [.string (baseP q)], hP.rd, ?_, rfl, ?_, ?_, hP.cap, rfl, hP.none_, fun g' o' he' hle' _ => hP.room 1 rfl g' o' he' hle', fun v A6 hAp => ?_⟩
        · show (if 1 = 0 then some [] else A7.rd gb 0 (1 * 1)) = _
          rw [if_neg (by omega)]; exact hrow
        · intro v hv
          simp only [List.mem_singleton] at hv
          subst hv; rfl
        · have := kids_le sk p
          show (kidsOf sk p).length + 1 ≤ 9223372036854775807
          omega
        · obtain ⟨hG6, hk6⟩ := hA _ _ _ rfl hds6 hAp
          have hA6 : A.Sub A6 := fun k o hk => by rw [hk6 k o (hsub1 k o hk)]; exact hA7 k o hk
          have hd6 : ∀ k, A6.blk k = none → A1.blk k = none := fun k hk => by
            cases h1 : A1.blk k with
            | none => rfl
            | some o => rw [hk6 k o h1] at hk; rw [hds6 k hk] at h1; cases h1
          have hI6 : IterAt A6 i m L ((sk ++ [q]).map Value.string) := hI7.sub fun b o hb ho => by
            rcases hb with rfl | rfl
            · rw [hk6 _ _ hi1.choose_spec]; exact ho
            · rw [hk6 _ _ hm1.choose_spec]; exact ho
          have hg6 : (listInv A A1 i m L Ks p).G (⟨A6, sk ++ [q], v⟩ : LG) := ⟨hA6, hd6, hI6, by
            show GrowR A1 A6 1 9 (kidsOf (sk ++ [q]) p).length v ((kidsOf (sk ++ [q]) p).map strV)
            rw [kids_snoc, if_pos hpq, List.length_append, List.map_append]; exact hG6, hnd', hin'⟩
          conv => lhs; whnf
          exact (hD _).2 ⟨(⟨A6, sk ++ [q], v⟩ : LG), ⟨hg6, ⟨rfl, trivial⟩, trivial, rfl⟩, hmu, ⟨rfl, rfl, trivial⟩, trivial⟩
    · have hall' : ∀ q ∈ Ks, q ∈ sk := fun q hq => by
        obtain ⟨e, he, h1⟩ := hLk q hq
        have := hall e he
        rw [h1] at this
        obtain ⟨q', hq', h2⟩ := List.mem_map.1 this
        injection h2 with h2
        exact h2 ▸ hq'
      have hkids : sortL (kidsOf sk p) = treeKids T p := by
        rw [treeKids, hKT]; exact kids_perm (walk_perm hnd hin hKn hall') p
      have hsz : (kidsOf sk p).length ≤ 1000000 := Nat.le_trans (kids_le sk p) (Nat.le_trans (nodup_sub_le hnd hin) hkl)
      have hfin : ∀ x A5, A.Sub A5 → Sl (A5.minus A) 1 (kidsOf sk p).length x ((sortL (kidsOf sk p)).map strV) → listS.post (⟨T, B, O, t⟩, p) [.pointer (some ⟨t, 0, none⟩), .string p] A (.tuple #[x, .bool true]) A5 := fun x A5 h5 hS => by
        refine ⟨h5, x, by rw [hT]; rfl, ?_⟩
        rw [hT]
        show Sl (A5.minus A) 1 (treeKids T p).length x ((treeKids T p).map strV)
        rw [← hkids, sortL_length]; exact hS
      obtain ⟨hl0, ⟨h0, rfl⟩ | ⟨g0, nc, c, rfl, hle0, hpos0, hg0, hb0, hs0, ht0⟩⟩ := hGs
      · have hk0 : kidsOf sk p = [] := List.length_eq_zero_iff.1 h0
        conv => lhs; whnf
        refine (hD _).2 ⟨(0, kidsOf sk p), .inl ⟨hk0, none, 0, rfl⟩, fun v A5 hq => ?_⟩
        obtain rfl : A5 = As := hq.1 hk0
        have hend := hfin (.slice none 0 0) A5 hAs (by rw [hk0]; show Sl _ 1 0 _ ((sortL []).map strV); rw [show sortL [] = [] from List.mergeSort_nil]; exact Sl.nil _ _)
        conv => lhs; whnf
        exact (hD _).2 hend
      · by_cases hk0 : kidsOf sk p = []
        · conv => lhs; whnf
          refine (hD _).2 ⟨(0, kidsOf sk p), .inl ⟨hk0, some ⟨g0, 0, none⟩, nc, by rw [hk0]; rfl⟩, fun v A5 hq => ?_⟩
          obtain rfl : A5 = As := hq.1 hk0
          have hend := hfin (.slice (some ⟨g0, 0, none⟩) (kidsOf sk p).length nc) A5 hAs (by rw [hk0]; show Sl _ 1 0 _ ((sortL []).map strV); rw [show sortL [] = [] from List.mergeSort_nil]; exact Sl.zero _ _ (fun h => (by cases h)) fun a ha _ => by injection ha with ha; subst ha; rfl)
          conv => lhs; whnf
          exact (hD _).2 hend
        · have hroom : As.Room g0 0 (kidsOf sk p).length := ⟨c, 9, (0, 0), hb0, by omega, .inl rfl⟩
          have hrd0 : As.rd g0 0 (kidsOf sk p).length = some ((kidsOf sk p).map strV) := by
            rw [rd_mk hb0 (by omega), List.drop_zero]
            rw [Nat.mul_one] at ht0; rw [ht0]
          conv => lhs; whnf
          refine (hD _).2 ⟨(g0, kidsOf sk p), .inr ⟨hk0, by show (kidsOf sk p).length < _; omega, hroom, hrd0, nc, rfl⟩, fun v A5 hq => ?_⟩
          have hP5 : As.Put A5 g0 0 ((sortL (kidsOf sk p)).map strV) := hq.2 hk0
          have hAg : A.blk g0 = none := hdom1 g0 hg0
          have hA5 : A.Sub A5 := hP5.sub hAs hAg
          have hend := hfin (.slice (some ⟨g0, 0, none⟩) (kidsOf sk p).length nc) A5 hA5 (by
            refine Sl.row hle0 (rd_minus ?_ hAg)
            obtain ⟨c0, t0, fz0, c', k1, k2, k3⟩ := hP5.at_
            rw [hb0] at k1
            injection k1 with k1; injection k1 with k1 k1' k1''
            subst k1; subst k1'; subst k1''
            have hsl := sortL_length (kidsOf sk p)
            rw [Nat.mul_one, rd_mk k2 (by
              rw [← Array.length_toList, k3]
              simp only [List.length_append, List.length_take, List.length_drop, List.length_map, hsl, Array.length_toList]
              omega), List.drop_zero, k3]
            simp [hsl])
          conv => lhs; whnf
          exact (hD _).2 hend

end
end Go.Proofs.YtinahcnpabjinaaDoor

namespace Go.Proofs.YtinahcnpabjinaaDoor
open Go.Sx Go.RowKit
noncomputable section
open Classical

def rootS : ByteArray := ⟨#[47]⟩
def treeNew : TreeD := ⟨[(rootS, ⟨[], ⟨0, 0, 0, 0, 0, 0, 0, 0, 0, 0⟩⟩)], []⟩

def alTree : TypeId → Bool := fun t => Nat.beq t 72 || Nat.beq t 76

def newS : FSpec := ⟨Unit, fun _ vs _ => vs = [],
  fun _ _ A v A' => ∃ t O, v = .pointer (some ⟨t, 0, none⟩) ∧ TreeAt A' Arena.void O t treeNew ∧ A.Sub A' ∧ ∀ k, O k → A.blk k = none⟩

set_option maxRecDepth 100000 in
set_option maxHeartbeats 0 in
theorem new_ok : FOk Tryd.prog 6 newS := by
  refine fok_a mixed alTree fun _ vs A hp => ?_
  obtain rfl : vs = [] := hp
  refine ⟨noC, noL, 60, noC_sound _, noL_sound _, fun blk os out tape D hD => ?_⟩
  conv => lhs; whnf
  refine (hD _).2 fun m A1 hm hA1 hM1 => ?_
  conv => lhs; whnf
  refine (hD _).2 fun g A2 hN2 => ?_
  have hN2 : A1.New A2 g #[.slice none 0 0, .int .i64 0, .int .i64 0, .int .i64 0, .int .i64 0, .int .i64 0, .int .i64 0, .int .i64 0, .int .i64 0, .int .i64 0, .int .i64 0] 72 := hN2
  have hM2 : MapAt A2 m [] := hM1.sub fun o ho => hN2.sub m o ho
  conv => lhs; whnf
  refine (hD _).2 ⟨[], hM2, fun e he => (by cases he), fun A3 hM3 hA3 => ?_⟩
  have hM3 : MapAt A3 m [(.string rootS, ptrV g)] := hM3
  have hA3 : ∀ k, k ≠ m → A3.blk k = A2.blk k := hA3
  conv => lhs; whnf
  refine (hD _).2 fun s A4 hs hA4 hM4 => ?_
  have hs : A3.blk s = none := hs
  have hA4 : ∀ k, k ≠ s → A4.blk k = A3.blk k := hA4
  conv => lhs; whnf
  refine (hD _).2 fun t A5 hN5 => ?_
  have hN5 : A4.New A5 t #[.map (some m), .map (some s)] 76 := hN5
  conv => lhs; whnf
  have hm : A.blk m = none := hm
  have hA1 : ∀ k, k ≠ m → A1.blk k = A.blk k := hA1
  have map_ : ∀ {X : Arena} {k : Nat} {l : List (Value × Value)}, MapAt X k l → X.blk k ≠ none := fun {X k l} h hn => by
    obtain ⟨es, cl, h9, _⟩ := h
    rw [h9] at hn; cases hn
  have gm : g ≠ m := fun e => by subst e; exact map_ hM1 hN2.none_
  have sm : s ≠ m := fun e => by subst e; exact map_ hM3 hs
  have sg : s ≠ g := fun e => by subst e; rw [hA3 _ gm, hN2.at_] at hs; cases hs
  have hm4 : MapAt A4 m [(.string rootS, ptrV g)] := hM3.sub fun o ho => by rw [hA4 _ fun e => sm e.symm]; exact ho
  have hg4 : A4.blk g = some (.cells #[.slice none 0 0, .int .i64 0, .int .i64 0, .int .i64 0, .int .i64 0, .int .i64 0, .int .i64 0, .int .i64 0, .int .i64 0, .int .i64 0, .int .i64 0] 72 (0, 0)) := by
    rw [hA4 _ fun e => sg e.symm, hA3 _ gm]; exact hN2.at_
  have tm : t ≠ m := fun e => by subst e; exact map_ hm4 hN5.none_
  have ts : t ≠ s := fun e => by subst e; exact map_ hM4 hN5.none_
  have tg : t ≠ g := fun e => by subst e; have := hN5.none_; rw [hg4] at this; cases this
  have hm5 : MapAt A5 m [(.string rootS, ptrV g)] := hm4.sub fun o ho => hN5.sub _ _ ho
  have hs5 : MapAt A5 s [] := hM4.sub fun o ho => hN5.sub _ _ ho
  have hg5 := hN5.sub _ _ hg4
  have hold : ∀ k, k ≠ m → k ≠ g → k ≠ s → k ≠ t → A5.blk k = A.blk k := fun k h1 h2 h3 h4 => by rw [hN5.other k h4, hA4 k h3, hA3 k h1, hN2.other k h2, hA1 k h1]
  have ag : A.blk g = none := by rw [← hA1 g gm]; exact hN2.none_
  have as_ : A.blk s = none := by rw [← hA1 s sm, ← hN2.other s sg, ← hA3 s sm]; exact hs
  have at_ : A.blk t = none := by rw [← hA1 t tm, ← hN2.other t tg, ← hA3 t tm, ← hA4 t ts]; exact hN5.none_
  have hR : TreeR A5 Arena.void (fun k => k = t ∨ k = m ∨ k = s ∨ k = g) t treeNew m s [(rootS, g, ⟨[], ⟨0, 0, 0, 0, 0, 0, 0, 0, 0, 0⟩⟩)] :=
    { nodes := rfl
      top := CellsAt.new hN5
      nmap := hm5
      smap := hs5
      cells := fun e he => by
        simp only [List.mem_singleton] at he
        subst he
        exact ⟨.slice none 0 0, ⟨_, _, _, hg5, .inl rfl, rfl⟩, Sl.nil _ _, by simp⟩
      keys := by simp
      ptrs := by simp
      skeys := by simp [treeNew]
      sub := fun k o hk => (by cases hk)
      own := ⟨.inl rfl, .inr (.inl rfl), .inr (.inr (.inl rfl)), fun e he => by
        simp only [List.mem_singleton] at he
        subst he; exact .inr (.inr (.inr rfl))⟩
      off := fun _ _ => rfl
      live := fun k hk => by
        rcases hk with rfl | rfl | rfl | rfl
        · exact ⟨_, hN5.at_⟩
        · obtain ⟨es, cl, h9, _⟩ := hm5; exact ⟨_, h9⟩
        · obtain ⟨es, cl, h9, _⟩ := hs5; exact ⟨_, h9⟩
        · exact ⟨_, hg5⟩
      ne := ⟨fun e => sm e.symm, fun e he => by
        simp only [List.mem_singleton] at he
        subst he; exact fun e => tg e.symm⟩ }
  have hend : newS.post () [] A (.pointer (some ⟨t, 0, none⟩)) A5 := by
    refine ⟨t, _, rfl, ⟨m, s, _, hR⟩, fun k o hk => ?_, fun k hk => ?_⟩
    · rw [hold k (fun e => by rw [e, hm] at hk; cases hk) (fun e => by rw [e, ag] at hk; cases hk) (fun e => by rw [e, as_] at hk; cases hk) (fun e => by rw [e, at_] at hk; cases hk)]; exact hk
    · rcases hk with rfl | rfl | rfl | rfl
      · exact at_
      · exact hm
      · exact as_
      · exact ag
  exact (hD _).2 hend

def nodeV (p : ByteArray) (vd : Value) (s : StatD) : Value :=
  .agg #[.string p, vd, .int .i64 s.czxid, .int .i64 s.mzxid, .int .i64 s.pzxid, .int .i64 s.ctime, .int .i64 s.mtime, .int .i64 s.ver, .int .i64 s.cver, .int .i64 s.owner, .int .i64 s.len, .int .i64 s.kids]

def toldS : FSpec := ⟨TG × ByteArray × NodeD × Nat, fun g vs A => vs = [.pointer (some ⟨g.1.t, 0, none⟩), .string g.2.1, .int .i64 g.2.2.2] ∧ TreeAt A g.1.B g.1.O g.1.t g.1.T ∧ kGet g.2.1 g.1.T.nodes = some g.2.2.1,
  fun g _ A v A' => A.Sub A' ∧ ∃ vd, v = nodeV g.2.1 vd { g.2.2.1.stat with len := g.2.2.1.data.length, kids := g.2.2.2 } ∧ SlB (A'.minus A) vd g.2.2.1.data⟩

set_option maxRecDepth 100000 in
set_option maxHeartbeats 0 in
theorem told_ok : FOk Tryd.prog 30 toldS := by
  refine fok_v mixed fun ⟨⟨T, B, O, t⟩, p, n, c⟩ vs A hp => ?_
  obtain ⟨rfl, ⟨m, s, E, h⟩, hk⟩ : vs = [.pointer (some ⟨t, 0, none⟩), .string p, .int .i64 c] ∧ TreeAt A B O t T ∧ kGet p T.nodes = some n := hp
  have hCt : CTSound Tryd.prog (lookC [specE 39 cloneBytesS] noC) := lookC_sound (noC_sound _) (fun x hx => by
    simp only [List.mem_singleton] at hx
    subst hx; exact specE_ok cloneBytes_ok)
  refine ⟨_, noL, 60, hCt, noL_sound _, fun blk os out tape D hD => ?_⟩
  have htop : A.rd t 0 1 = some [.map (some m)] := h.top.rd (o := 0) (n := 1) (by show 0 + 1 ≤ 2; omega)
  obtain ⟨⟨g, n'⟩, hkE, rfl⟩ : ∃ x, kGet p E = some x ∧ x.2 = n := by
    rw [h.get] at hk
    cases hE : kGet p E with
    | none => rw [hE] at hk; cases hk
    | some x => rw [hE] at hk; exact ⟨x, rfl, by injection hk⟩
  have hmem := kGet_mem (bytes_key _) hkE
  obtain ⟨w, hc, hs⟩ := h.cells _ hmem
  have hlk : A.look m (.string p) = some (some (.pointer (some ⟨g, 0, none⟩))) := by rw [h.look, hkE]; rfl
  obtain ⟨aw, kw, rfl⟩ := hs.1.form
  have hrdn : A.rd g 0 1 = some [.slice aw n'.data.length kw] := hc.rd (o := 0) (n := 1) (by show 0 + 1 ≤ 11; omega)
  have hrds : A.rd g 1 10 = some n'.stat.cells := hc.rd (o := 1) (n := 10) (by show 1 + 10 ≤ 11; omega)
  have hend : ∀ (v : Value) (A' : Arena), A.Sub A' → SlB (A'.minus A) v n'.data → toldS.post (⟨T, B, O, t⟩, p, n', c) [.pointer (some ⟨t, 0, none⟩), .string p, .int .i64 c] A (nodeV p v { n'.stat with len := n'.data.length, kids := c }) A' := fun v A' h1 h2 => ⟨h1, v, rfl, h2⟩
  conv => lhs; whnf
  repeat (first | refine go_rd htop ?_ | refine go_lk hlk ?_ | refine go_rd hrdn ?_ | refine go_rd hrds ?_ | refine go_D hD rfl ?_
          conv => lhs; whnf)
  refine go_b ?_ ?_
  · refine (hD _).2 ⟨n'.data, ⟨_, rfl, hs.sub h.sub⟩, fun v A' hq => ?_⟩
    obtain ⟨hsub, hS⟩ : A.Sub A' ∧ SlB (A'.minus A) v n'.data := hq
    obtain ⟨a, k, rfl⟩ := hS.1.form
    have h1 := rd_sub hsub htop
    have h2 := rd_sub hsub hrdn
    have h3 := rd_sub hsub hrds
    have h4 : A'.look m (.string p) = some (some (.pointer (some ⟨g, 0, none⟩))) := by
      rw [look_str (h.nmap.sub fun o ho => hsub _ _ ho), kGet_map, hkE]; rfl
    conv => lhs; whnf
    repeat (first | refine go_rd h1 ?_ | refine go_lk h4 ?_ | refine go_rd h2 ?_ | refine go_rd h3 ?_ | refine go_D hD rfl ?_
            conv => lhs; whnf)
    exact (hD _).2 (hend _ _ hsub hS)
  · conv => lhs; whnf
    repeat (first | refine go_rd htop ?_ | refine go_lk hlk ?_ | refine go_rd hrdn ?_ | refine go_rd hrds ?_ | refine go_D hD rfl ?_
            conv => lhs; whnf)
    refine (hD _).2 ⟨n'.data, ⟨_, rfl, hs.sub h.sub⟩, fun v A' hq => ?_⟩
    obtain ⟨hsub, hS⟩ : A.Sub A' ∧ SlB (A'.minus A) v n'.data := hq
    obtain ⟨a, k, rfl⟩ := hS.1.form
    have h1 := rd_sub hsub htop
    have h2 := rd_sub hsub hrdn
    have h3 := rd_sub hsub hrds
    have h4 : A'.look m (.string p) = some (some (.pointer (some ⟨g, 0, none⟩))) := by
      rw [look_str (h.nmap.sub fun o ho => hsub _ _ ho), kGet_map, hkE]; rfl
    conv => lhs; whnf
    repeat (first | refine go_rd h1 ?_ | refine go_lk h4 ?_ | refine go_rd h2 ?_ | refine go_rd h3 ?_ | refine go_D hD rfl ?_
            conv => lhs; whnf)
    exact (hD _).2 (hend _ _ hsub hS)

end
end Go.Proofs.YtinahcnpabjinaaDoor

namespace Go.Proofs.YtinahcnpabjinaaDoor
open Go.Sx Go.RowKit
noncomputable section
open Classical

def KeysOk (T : TreeD) : Prop := ∀ e ∈ T.nodes, pathOk e.1.data.toList = true

theorem kMod_keys {κ α : Type} [BEq κ] (p : κ) (f : α → α) : ∀ l : List (κ × α), (kMod p f l).map (·.1) = l.map (·.1)
  | [] => rfl
  | (q, x) :: l => by
    simp only [kMod]
    cases p == q
    · simp [kMod_keys p f l]
    · rfl

theorem kPut_keys {κ α : Type} [BEq κ] (p : κ) (x : α) : ∀ (l : List (κ × α)) (q : κ), q ∈ (kPut p x l).map (·.1) → q ∈ l.map (·.1) ∨ q = p
  | [], q, h => by simpa [kPut] using h
  | (r, y) :: l, q, h => by
    simp only [kPut] at h
    cases hb : p == r <;> rw [hb] at h <;> simp only [cond_true, cond_false, List.map_cons, List.mem_cons] at h ⊢
    · rcases h with h | h
      · exact .inl (.inl h)
      · rcases kPut_keys p x l q h with h | h
        · exact .inl (.inr h)
        · exact .inr h
    · rcases h with h | h
      · exact .inr h
      · exact .inl (.inr h)

theorem kPut_len {κ α : Type} [BEq κ] (p : κ) (x : α) : ∀ l : List (κ × α), (kPut p x l).length ≤ l.length + 1
  | [] => by simp [kPut]
  | (r, y) :: l => by
    simp only [kPut]
    cases p == r
    · have := kPut_len p x l
      simp; omega
    · simp

theorem keysOk_iff {T : TreeD} : KeysOk T ↔ ∀ q ∈ T.nodes.map (·.1), pathOk q.data.toList = true := by
  simp [KeysOk]

theorem mark_keys {T : TreeD} (h : KeysOk T) (p : ByteArray) (z cv : Int) : KeysOk (treeMark T p z cv) := by
  rw [keysOk_iff] at h ⊢
  rw [treeMark]
  show ∀ q ∈ (kMod _ _ T.nodes).map (·.1), _
  rw [kMod_keys]; exact h

theorem change_keys {T : TreeD} (h : KeysOk T) {d : DeedH} (hd : d.kind = 1 → pathOk d.path.data.toList = true) (z time : Int) : KeysOk (treeChange T d z time) := by
  rw [treeChange]
  split
  · rw [keysOk_iff] at h ⊢
    show ∀ q ∈ (kMod _ _ T.nodes).map (·.1), _
    rw [kMod_keys]; exact h
  · split
    · rename_i h1
      refine mark_keys ?_ _ _ _
      rw [keysOk_iff] at h ⊢
      intro q hq
      rcases kPut_keys _ _ _ _ hq with h2 | rfl
      · exact h q h2
      · exact hd h1
    · split
      · refine mark_keys ?_ _ _ _
        intro e he
        exact h e ((kDel_sub _ _).subset he)
      · exact mark_keys h _ _ _

theorem mark_len (T : TreeD) (p : ByteArray) (z cv : Int) : (treeMark T p z cv).nodes.length = T.nodes.length := by
  rw [treeMark]
  have := congrArg List.length (kMod_keys (parentP p) (nodeMark z cv) T.nodes)
  simpa using this

theorem change_len (T : TreeD) (d : DeedH) (z time : Int) : (treeChange T d z time).nodes.length ≤ T.nodes.length + 1 := by
  rw [treeChange]
  split
  · have := congrArg List.length (kMod_keys d.path (nodeSet d z time) T.nodes)
    simp only [List.length_map] at this
    show (kMod _ _ T.nodes).length ≤ _
    omega
  · split
    · rw [mark_len]; exact kPut_len _ _ _
    · split
      · rw [mark_len]
        have := (kDel_sub d.path T.nodes).length_le
        show (kDel _ T.nodes).length ≤ _
        omega
      · rw [mark_len]; omega

theorem parts_keys (z time : Int) : ∀ (ps : List DeedD) (T : TreeD), KeysOk T → (∀ p ∈ ps, p.h.kind = 1 → pathOk p.h.path.data.toList = true) → KeysOk (treeParts T ps z time)
  | [], _, h, _ => h
  | p :: ps, _, h, hp => parts_keys z time ps _ (change_keys h (hp p (by simp)) z time) fun q hq => hp q (List.mem_cons_of_mem _ hq)

theorem parts_len (z time : Int) : ∀ (ps : List DeedD) (T : TreeD), (treeParts T ps z time).nodes.length ≤ T.nodes.length + ps.length
  | [], _ => Nat.le_refl _
  | p :: ps, T => by
    have h1 := parts_len z time ps (treeChange T p.h z time)
    have h2 := change_len T p.h z time
    show (treeParts (treeChange T p.h z time) ps z time).nodes.length ≤ _
    simp only [List.length_cons]; omega

theorem fits_path {h : DeedH} {np : Nat} (hf : FitsD h np) (h1 : h.kind = 1) : pathOk h.path.data.toList = true := by
  refine hf.2.2.2.2.2.2.2.2.2.2.1 ?_
  rw [h1]; rfl

theorem touch_nodes (T : TreeD) (ses turn : Int) : (treeTouch T ses turn).nodes = T.nodes := by
  rw [treeTouch]; split <;> rfl

theorem apply_keys {T : TreeD} (h : KeysOk T) (d : DeedD) : KeysOk (treeApply T d) := by
  rw [treeApply]
  split
  · rename_i hr
    have hk : KeysOk (treeDo T d) := by
      rw [treeDo]
      split
      · exact change_keys h (fits_path hr.2.2.2.2.2.2.1) _ _
      · split
        · exact h
        · split
          · rename_i h5
            exact parts_keys _ _ _ _ h fun p hp => fits_path ((hr.2.2.2.2.2.2.2.1 h5).2.2 p hp).2.2.2.2.2.1
          · split
            · rename_i h8
              exact parts_keys _ _ _ _ h fun p hp => fits_path ((hr.2.2.2.2.2.2.2.2.2 h8).2.2 p hp).2.2.2.2.2.1
            · exact h
    intro e he
    rw [touch_nodes] at he
    exact hk e he
  · exact h

theorem apply_len (T : TreeD) (d : DeedD) : (treeApply T d).nodes.length ≤ T.nodes.length + 1 + d.parts.length := by
  rw [treeApply]
  split
  · rw [touch_nodes, treeDo]
    split
    · have := change_len T d.h d.h.zxid d.h.time; omega
    · split
      · show T.nodes.length ≤ _; omega
      · split
        · have := parts_len d.h.zxid d.h.time d.parts ⟨T.nodes, kDel d.h.owner T.seats⟩
          dsimp only at this; omega
        · split
          · have := parts_len d.h.zxid d.h.time d.parts T; omega
          · omega
  · omega

end
end Go.Proofs.YtinahcnpabjinaaDoor

namespace Go.Proofs.YtinahcnpabjinaaDoor
open Go.Sx Go.RowKit
noncomputable section
open Classical

def statZ : StatD := ⟨0, 0, 0, 0, 0, 0, 0, 0, 0, 0⟩

/-- What a get tells. -/
def GotV (A A' : Arena) (T : TreeD) (p : ByteArray) (v : Value) : Prop := match kGet p T.nodes with
  | none => v = .tuple #[nodeV ⟨#[]⟩ (.slice none 0 0) statZ, .bool false]
  | some n => ∃ vd, v = .tuple #[nodeV p vd { n.stat with len := n.data.length, kids := (treeKids T p).length }, .bool true] ∧ SlB (A'.minus A) vd n.data

def getS : FSpec := ⟨TG × ByteArray, fun g vs A => vs = [.pointer (some ⟨g.1.t, 0, none⟩), .string g.2] ∧ TreeAt A g.1.B g.1.O g.1.t g.1.T ∧ g.1.T.nodes.length ≤ 1000000,
  fun g _ A v A' => A.Sub A' ∧ GotV A A' g.1.T g.2 v⟩

/-- A tree stays behind what only lays new blocks. -/
theorem TreeAt_sub {A B A' : Arena} {O : Nat → Prop} {t : Nat} {T : TreeD} (h : TreeAt A B O t T) (hs : A.Sub A') : TreeAt A' B O t T := by
  refine h.frame (fun k hk => ?_) ?_
  · obtain ⟨m, s, E, hR⟩ := h
    obtain ⟨o, ho⟩ := hR.live k hk
    rw [hs k o ho, ho]
  · obtain ⟨m, s, E, hR⟩ := h
    exact hR.sub.trans hs

set_option maxRecDepth 100000 in
set_option maxHeartbeats 0 in
theorem get_ok : FOk Tryd.prog 9 getS := by
  refine fok_v mixed fun ⟨⟨T, B, O, t⟩, p⟩ vs A hp => ?_
  obtain ⟨rfl, hT, hlen⟩ : vs = [.pointer (some ⟨t, 0, none⟩), .string p] ∧ TreeAt A B O t T ∧ T.nodes.length ≤ 1000000 := hp
  have hCt : CTSound Tryd.prog (lookC [specE 10 listS, specE 30 toldS] noC) := lookC_sound (noC_sound _) (fun x hx => by
    simp only [List.mem_cons, List.not_mem_nil, or_false] at hx
    rcases hx with rfl | rfl
    · exact specE_ok list_ok
    · exact specE_ok told_ok)
  refine ⟨_, noL, 60, hCt, noL_sound _, fun blk os out tape D hD => ?_⟩
  conv => lhs; whnf
  refine (hD _).2 ⟨(⟨T, B, O, t⟩, p), ⟨rfl, hT, hlen⟩, fun v A1 hq => ?_⟩
  obtain ⟨h1, x, rfl, hx⟩ : A.Sub A1 ∧ ∃ x, v = .tuple #[x, .bool (kGet p T.nodes).isSome] ∧ Sl (A1.minus A) 1 (if (kGet p T.nodes).isSome then treeKids T p else []).length x ((if (kGet p T.nodes).isSome then treeKids T p else []).map strV) := hq
  obtain ⟨a, k, rfl⟩ := hx.form
  cases hk : kGet p T.nodes with
  | none =>
    have hend : getS.post (⟨T, B, O, t⟩, p) [.pointer (some ⟨t, 0, none⟩), .string p] A (.tuple #[nodeV ⟨#[]⟩ (.slice none 0 0) statZ, .bool false]) A1 := ⟨h1, (by
      show GotV A A1 T p _
      rw [GotV, hk])⟩
    conv => lhs; whnf
    exact (hD _).2 hend
  | some n =>
    rw [hk] at hx
    conv => lhs; whnf
    refine (hD _).2 ⟨(⟨T, B, O, t⟩, p, n, (treeKids T p).length), ⟨rfl, TreeAt_sub hT h1, hk⟩, fun v A2 hq => ?_⟩
    obtain ⟨h2, vd, rfl, hS⟩ : A1.Sub A2 ∧ ∃ vd, v = nodeV p vd { n.stat with len := n.data.length, kids := (treeKids T p).length } ∧ SlB (A2.minus A1) vd n.data := hq
    have hend : getS.post (⟨T, B, O, t⟩, p) [.pointer (some ⟨t, 0, none⟩), .string p] A (.tuple #[nodeV p vd { n.stat with len := n.data.length, kids := (treeKids T p).length }, .bool true]) A2 := ⟨h1.trans h2, (by
      show GotV A A2 T p _
      rw [GotV, hk]
      exact ⟨vd, rfl, hS.sub (minus_later h1)⟩)⟩
    obtain ⟨b, k', rfl⟩ := hS.1.form
    conv => lhs; whnf
    exact (hD _).2 hend

def askV (k xid : Int) (p : ByteArray) : Value := .agg #[.int .u8 k, .int .i64 xid, .int .i64 0, .int .i64 0, .string p, .slice none 0 0, .int .i64 0, .int .i64 0, .bool false, .int .u8 0, .int .i64 0, .int .i64 0, .int .i64 0, .slice none 0 0, .slice none 0 0]

def replyV (k xid z err : Int) (vd : Value) (s : StatD) (vl : Value) : Value :=
  .agg #[.int .u8 k, .int .i64 xid, .int .i64 z, .int .i64 err, .int .i64 0, .int .i64 0, .string ⟨#[]⟩, vd, .int .i64 s.czxid, .int .i64 s.mzxid, .int .i64 s.pzxid, .int .i64 s.ctime, .int .i64 s.mtime, .int .i64 s.ver, .int .i64 s.cver, .int .i64 s.owner, .int .i64 s.len, .int .i64 s.kids, vl, .int .i64 0, .slice none 0 0, .slice none 0 0]

/-- What a reading is told. -/
def LookV (A A' : Arena) (T : TreeD) (k xid : Int) (p : ByteArray) (z : Int) (v : Value) : Prop :=
  (pathOk p.data.toList = false → v = replyV k xid z 120 (.slice none 0 0) statZ (.slice none 0 0)) ∧
  (pathOk p.data.toList = true → kGet p T.nodes = none → v = replyV k xid z 210 (.slice none 0 0) statZ (.slice none 0 0)) ∧
  (pathOk p.data.toList = true → ∀ n, kGet p T.nodes = some n → ∃ vd vl, v = replyV k xid z 0 vd { n.stat with len := n.data.length, kids := (treeKids T p).length } vl ∧
    (if k = 7 then SlB (A'.minus A) vd n.data else vd = .slice none 0 0) ∧ (if k = 9 then Sl (A'.minus A) 1 (treeKids T p).length vl ((treeKids T p).map strV) else vl = .slice none 0 0))

def lookS : FSpec := ⟨TG × Int × Int × ByteArray × Int, fun g vs A => vs = [.pointer (some ⟨g.1.t, 0, none⟩), askV g.2.1 g.2.2.1 g.2.2.2.1, .int .i64 g.2.2.2.2] ∧ TreeAt A g.1.B g.1.O g.1.t g.1.T ∧ g.1.T.nodes.length ≤ 1000000 ∧ (g.2.1 = 7 ∨ g.2.1 = 8 ∨ g.2.1 = 9),
  fun g _ A v A' => A.Sub A' ∧ LookV A A' g.1.T g.2.1 g.2.2.1 g.2.2.2.1 g.2.2.2.2 v⟩

set_option maxRecDepth 100000 in
set_option maxHeartbeats 0 in
theorem look_ok : FOk Tryd.prog 11 lookS := by
  refine fok_v mixed fun ⟨⟨T, B, O, t⟩, k, xid, p, z⟩ vs A hp => ?_
  obtain ⟨rfl, hT, hlen, hk⟩ : vs = [.pointer (some ⟨t, 0, none⟩), askV k xid p, .int .i64 z] ∧ TreeAt A B O t T ∧ T.nodes.length ≤ 1000000 ∧ (k = 7 ∨ k = 8 ∨ k = 9) := hp
  have hCt : CTSound Tryd.prog (lookC [specE 9 getS, specE 10 listS] C0) := lookC_sound C0_sound (fun x hx => by
    simp only [List.mem_cons, List.not_mem_nil, or_false] at hx
    rcases hx with rfl | rfl
    · exact specE_ok get_ok
    · exact specE_ok list_ok)
  refine ⟨_, noL, 60, hCt, noL_sound _, fun blk os out tape D hD => ?_⟩
  rcases hk with rfl | rfl | rfl
  · conv => lhs; whnf
    refine (hD _).2 ⟨(⟨T, B, O, t⟩, p), ⟨rfl, hT, hlen⟩, fun v A1 hq => ?_⟩
    obtain ⟨h1, hG⟩ : A.Sub A1 ∧ GotV A A1 T p v := hq
    cases hk : kGet p T.nodes with
    | none =>
      rw [GotV, hk] at hG
      obtain rfl : v = .tuple #[nodeV ⟨#[]⟩ (.slice none 0 0) statZ, .bool false] := hG
      conv => lhs; whnf
      refine split_b (fun hb => ?_) (fun hb => ?_) <;> (conv => lhs; whnf)
      · have hp0 : pathOk p.data.toList = false := by simpa using hb
        have hend : lookS.post (⟨T, B, O, t⟩, 7, xid, p, z) [.pointer (some ⟨t, 0, none⟩), askV 7 xid p, .int .i64 z] A (replyV 7 xid z 120 (.slice none 0 0) statZ (.slice none 0 0)) A1 := ⟨h1, fun _ => rfl, fun h => absurd (hp0.symm.trans h) (by simp), fun h => absurd (hp0.symm.trans h) (by simp)⟩
        exact (hD _).2 hend
      · have hp1 : pathOk p.data.toList = true := by simpa using hb
        have hend : lookS.post (⟨T, B, O, t⟩, 7, xid, p, z) [.pointer (some ⟨t, 0, none⟩), askV 7 xid p, .int .i64 z] A (replyV 7 xid z 210 (.slice none 0 0) statZ (.slice none 0 0)) A1 := ⟨h1, fun h => absurd (hp1.symm.trans h) (by simp), fun _ _ => rfl, fun _ n hn => absurd (hk.symm.trans hn) (by simp)⟩
        exact (hD _).2 hend
    | some n =>
      rw [GotV, hk] at hG
      obtain ⟨vd, rfl, hS⟩ : ∃ vd, v = .tuple #[nodeV p vd { n.stat with len := n.data.length, kids := (treeKids T p).length }, .bool true] ∧ SlB (A1.minus A) vd n.data := hG
      obtain ⟨a, c, rfl⟩ := hS.1.form
      conv => lhs; whnf
      refine split_b (fun hb => ?_) (fun hb => ?_) <;> (conv => lhs; whnf)
      · have hp0 : pathOk p.data.toList = false := by simpa using hb
        have hend : lookS.post (⟨T, B, O, t⟩, 7, xid, p, z) [.pointer (some ⟨t, 0, none⟩), askV 7 xid p, .int .i64 z] A (replyV 7 xid z 120 (.slice none 0 0) statZ (.slice none 0 0)) A1 := ⟨h1, fun _ => rfl, fun h => absurd (hp0.symm.trans h) (by simp), fun h => absurd (hp0.symm.trans h) (by simp)⟩
        exact (hD _).2 hend
      · have hp1 : pathOk p.data.toList = true := by simpa using hb
        have hend : lookS.post (⟨T, B, O, t⟩, 7, xid, p, z) [.pointer (some ⟨t, 0, none⟩), askV 7 xid p, .int .i64 z] A (replyV 7 xid z 0 (.slice a n.data.length c) { n.stat with len := n.data.length, kids := (treeKids T p).length } (.slice none 0 0)) A1 := ⟨h1, fun h => absurd (hp1.symm.trans h) (by simp), fun _ hn => absurd (hk.symm.trans hn) (by simp), fun _ n' hn => (by
          obtain rfl : n = n' := Option.some.inj (hk.symm.trans hn)
          exact ⟨_, _, rfl, (by rw [if_pos rfl]; exact hS), (by rw [if_neg (by dsimp only; omega)])⟩)⟩
        exact (hD _).2 hend
  · conv => lhs; whnf
    refine (hD _).2 ⟨(⟨T, B, O, t⟩, p), ⟨rfl, hT, hlen⟩, fun v A1 hq => ?_⟩
    obtain ⟨h1, hG⟩ : A.Sub A1 ∧ GotV A A1 T p v := hq
    cases hk : kGet p T.nodes with
    | none =>
      rw [GotV, hk] at hG
      obtain rfl : v = .tuple #[nodeV ⟨#[]⟩ (.slice none 0 0) statZ, .bool false] := hG
      conv => lhs; whnf
      refine split_b (fun hb => ?_) (fun hb => ?_) <;> (conv => lhs; whnf)
      · have hp0 : pathOk p.data.toList = false := by simpa using hb
        have hend : lookS.post (⟨T, B, O, t⟩, 8, xid, p, z) [.pointer (some ⟨t, 0, none⟩), askV 8 xid p, .int .i64 z] A (replyV 8 xid z 120 (.slice none 0 0) statZ (.slice none 0 0)) A1 := ⟨h1, fun _ => rfl, fun h => absurd (hp0.symm.trans h) (by simp), fun h => absurd (hp0.symm.trans h) (by simp)⟩
        exact (hD _).2 hend
      · have hp1 : pathOk p.data.toList = true := by simpa using hb
        have hend : lookS.post (⟨T, B, O, t⟩, 8, xid, p, z) [.pointer (some ⟨t, 0, none⟩), askV 8 xid p, .int .i64 z] A (replyV 8 xid z 210 (.slice none 0 0) statZ (.slice none 0 0)) A1 := ⟨h1, fun h => absurd (hp1.symm.trans h) (by simp), fun _ _ => rfl, fun _ n hn => absurd (hk.symm.trans hn) (by simp)⟩
        exact (hD _).2 hend
    | some n =>
      rw [GotV, hk] at hG
      obtain ⟨vd, rfl, hS⟩ : ∃ vd, v = .tuple #[nodeV p vd { n.stat with len := n.data.length, kids := (treeKids T p).length }, .bool true] ∧ SlB (A1.minus A) vd n.data := hG
      obtain ⟨a, c, rfl⟩ := hS.1.form
      conv => lhs; whnf
      refine split_b (fun hb => ?_) (fun hb => ?_) <;> (conv => lhs; whnf)
      · have hp0 : pathOk p.data.toList = false := by simpa using hb
        have hend : lookS.post (⟨T, B, O, t⟩, 8, xid, p, z) [.pointer (some ⟨t, 0, none⟩), askV 8 xid p, .int .i64 z] A (replyV 8 xid z 120 (.slice none 0 0) statZ (.slice none 0 0)) A1 := ⟨h1, fun _ => rfl, fun h => absurd (hp0.symm.trans h) (by simp), fun h => absurd (hp0.symm.trans h) (by simp)⟩
        exact (hD _).2 hend
      · have hp1 : pathOk p.data.toList = true := by simpa using hb
        have hend : lookS.post (⟨T, B, O, t⟩, 8, xid, p, z) [.pointer (some ⟨t, 0, none⟩), askV 8 xid p, .int .i64 z] A (replyV 8 xid z 0 (.slice none 0 0) { n.stat with len := n.data.length, kids := (treeKids T p).length } (.slice none 0 0)) A1 := ⟨h1, fun h => absurd (hp1.symm.trans h) (by simp), fun _ hn => absurd (hk.symm.trans hn) (by simp), fun _ n' hn => (by
          obtain rfl : n = n' := Option.some.inj (hk.symm.trans hn)
          exact ⟨_, _, rfl, (by rw [if_neg (by dsimp only; omega)]), (by rw [if_neg (by dsimp only; omega)])⟩)⟩
        exact (hD _).2 hend
  · conv => lhs; whnf
    refine (hD _).2 ⟨(⟨T, B, O, t⟩, p), ⟨rfl, hT, hlen⟩, fun v A1 hq => ?_⟩
    obtain ⟨h1, hG⟩ : A.Sub A1 ∧ GotV A A1 T p v := hq
    cases hk : kGet p T.nodes with
    | none =>
      rw [GotV, hk] at hG
      obtain rfl : v = .tuple #[nodeV ⟨#[]⟩ (.slice none 0 0) statZ, .bool false] := hG
      conv => lhs; whnf
      refine split_b (fun hb => ?_) (fun hb => ?_) <;> (conv => lhs; whnf)
      · have hp0 : pathOk p.data.toList = false := by simpa using hb
        have hend : lookS.post (⟨T, B, O, t⟩, 9, xid, p, z) [.pointer (some ⟨t, 0, none⟩), askV 9 xid p, .int .i64 z] A (replyV 9 xid z 120 (.slice none 0 0) statZ (.slice none 0 0)) A1 := ⟨h1, fun _ => rfl, fun h => absurd (hp0.symm.trans h) (by simp), fun h => absurd (hp0.symm.trans h) (by simp)⟩
        exact (hD _).2 hend
      · have hp1 : pathOk p.data.toList = true := by simpa using hb
        have hend : lookS.post (⟨T, B, O, t⟩, 9, xid, p, z) [.pointer (some ⟨t, 0, none⟩), askV 9 xid p, .int .i64 z] A (replyV 9 xid z 210 (.slice none 0 0) statZ (.slice none 0 0)) A1 := ⟨h1, fun h => absurd (hp1.symm.trans h) (by simp), fun _ _ => rfl, fun _ n hn => absurd (hk.symm.trans hn) (by simp)⟩
        exact (hD _).2 hend
    | some n =>
      rw [GotV, hk] at hG
      obtain ⟨vd, rfl, hS⟩ : ∃ vd, v = .tuple #[nodeV p vd { n.stat with len := n.data.length, kids := (treeKids T p).length }, .bool true] ∧ SlB (A1.minus A) vd n.data := hG
      obtain ⟨a, c, rfl⟩ := hS.1.form
      conv => lhs; whnf
      refine split_b (fun hb => ?_) (fun hb => ?_) <;> (conv => lhs; whnf)
      · have hp0 : pathOk p.data.toList = false := by simpa using hb
        have hend : lookS.post (⟨T, B, O, t⟩, 9, xid, p, z) [.pointer (some ⟨t, 0, none⟩), askV 9 xid p, .int .i64 z] A (replyV 9 xid z 120 (.slice none 0 0) statZ (.slice none 0 0)) A1 := ⟨h1, fun _ => rfl, fun h => absurd (hp0.symm.trans h) (by simp), fun h => absurd (hp0.symm.trans h) (by simp)⟩
        exact (hD _).2 hend
      · have hp1 : pathOk p.data.toList = true := by simpa using hb
        refine (hD _).2 ⟨(⟨T, B, O, t⟩, p), ⟨rfl, TreeAt_sub hT h1, hlen⟩, fun v A2 hq => ?_⟩
        obtain ⟨h2, x, rfl, hx⟩ : A1.Sub A2 ∧ ∃ x, v = .tuple #[x, .bool (kGet p T.nodes).isSome] ∧ Sl (A2.minus A1) 1 (if (kGet p T.nodes).isSome then treeKids T p else []).length x ((if (kGet p T.nodes).isSome then treeKids T p else []).map strV) := hq
        rw [hk] at hx
        have hx : Sl (A2.minus A1) 1 (treeKids T p).length x ((treeKids T p).map strV) := hx
        obtain ⟨b, c', rfl⟩ := hx.form
        have hend : lookS.post (⟨T, B, O, t⟩, 9, xid, p, z) [.pointer (some ⟨t, 0, none⟩), askV 9 xid p, .int .i64 z] A (replyV 9 xid z 0 (.slice none 0 0) { n.stat with len := n.data.length, kids := (treeKids T p).length } (.slice b (treeKids T p).length c')) A2 := ⟨h1.trans h2, fun h => absurd (hp1.symm.trans h) (by simp), fun _ hn => absurd (hk.symm.trans hn) (by simp), fun _ n' hn => (by
          obtain rfl : n = n' := Option.some.inj (hk.symm.trans hn)
          exact ⟨_, _, rfl, (by rw [if_neg (by dsimp only; omega)]), (by rw [if_pos rfl]; exact hx.sub (minus_later h1))⟩)⟩
        conv => lhs; whnf
        exact (hD _).2 hend

end
end Go.Proofs.YtinahcnpabjinaaDoor

namespace Go.Proofs.YtinahcnpabjinaaDoor
open Go.Sx Go.RowKit
noncomputable section
open Classical

/-- A slice of texts. -/
def SlT (A : Arena) (v : Value) (l : List (List UInt8)) : Prop := Sl A 1 l.length v (l.map strV) ∧ l.length ≤ 140737488351232

theorem text_at {A : Arena} {g o n : Nat} {ls : List (List UInt8)} (h : A.rd g o (n * 1) = some (ls.map strV)) (k : Nat) (hk : k < ls.length) (hn : n = ls.length) : A.rd g (o + k * 1) 1 = some [.string ⟨ls[k].toArray⟩] := by
  rw [rd_at h (i := k * 1) (m := 1) (by omega)]
  congr 1
  refine List.ext_getElem? fun i => ?_
  cases i with
  | zero => simp [hk, strV]
  | succ i =>
    simp
    omega

def sameTextsS : FSpec := ⟨List (List UInt8) × List (List UInt8), fun g vs A => ∃ x y, vs = [x, y] ∧ SlT A x g.1 ∧ SlT A y g.2, fun g _ A v A' => A' = A ∧ v = .bool (decide (g.1 = g.2))⟩

set_option maxRecDepth 100000 in
set_option maxHeartbeats 0 in
theorem sameTexts_ok : FOk Tryd.prog 13 sameTextsS := by
  refine fok_v mixed fun ⟨ls, bs⟩ vs A hp => ?_
  simp only [sameTextsS] at hp
  obtain ⟨x, y, rfl, ⟨⟨ao, c, rfl, hc, _, ha1, ha2, ha3⟩, hxl⟩, ⟨bo, d, rfl, hd, _, hb1, hb2, hb3⟩, hyl⟩ := hp
  refine ⟨noC, tabO Tryd.prog noC noL 60 [(13, 0)], 60, noC_sound _, tabO_sound mixed (noC_sound _) (noL_sound _) _ _, fun blk os out tape D hD => ?_⟩
  conv => lhs; whnf
  refine split_b (fun hb => ?_) (fun hb => ?_) <;> (conv => lhs; whnf)
  · refine (hD _).2 ⟨rfl, ?_⟩
    have : ls ≠ bs := fun e => by subst e; simp at hb
    simp [this]
  · have hlen : ls.length = bs.length := by
      have : (ls.length : Int) = bs.length := by simpa using hb
      omega
    refine (hD _).2 ⟨cnt A 5 [0, 1] [] ls.length fun k => ls.take k = bs.take k, ⟨(0 : Nat), ⟨Nat.zero_le _, rfl⟩, ⟨rfl, trivial⟩, trivial, rfl⟩, fun (k : Nat) hk => ⟨⟨trivial, trivial⟩, trivial, ?_⟩⟩
    simp only [cnt] at hk
    conv => lhs; whnf
    refine split_dec (fun hlt => ?_) (fun hb => ?_) <;> (conv => lhs; whnf)
    · have hlt : k < ls.length := by omega
      obtain ⟨g, o, rfl, hra⟩ := Sl.at_ hc ha1 ha2 ha3 (by omega)
      obtain ⟨g', o', rfl, hrb⟩ := Sl.at_ hd hb1 hb2 hb3 (by omega)
      conv => lhs; whnf
      refine split_in (fun _ _ => ?_) (fun h => by omega)
      conv => lhs; whnf
      refine go_rd (text_at hra k hlt rfl) ?_
      conv => lhs; whnf
      refine split_in (fun _ _ => ?_) (fun h => by omega)
      conv => lhs; whnf
      refine go_rd (text_at hrb k (by omega) rfl) ?_
      conv => lhs; whnf
      refine split_b (fun hb => ?_) (fun hb => ?_) <;> (conv => lhs; whnf)
      · refine (hD _).2 ⟨rfl, ?_⟩
        have : ls ≠ bs := fun e => by
          subst e
          have h9 : beqL ls[k] ls[k] = true := beqL_iff.2 rfl
          simp [h9] at hb
        simp [this]
      · have he : ls[k] = bs[k] := by
          have h8 : beqL ls[k] bs[k] = true := by simpa using hb
          exact beqL_iff.1 h8
        refine (hD _).2 ⟨(k + 1 : Nat), ⟨⟨by omega, ?_⟩, ⟨inc_slot (by omega), trivial⟩, trivial, rfl⟩, ?_, ⟨rfl, rfl, trivial⟩, trivial⟩
        · show ls.take (k + 1) = bs.take (k + 1)
          rw [List.take_succ_eq_append_getElem hlt, List.take_succ_eq_append_getElem (by omega), hk.2, he]
        · show ls.length - (k + 1) < ls.length - k
          omega
    · refine (hD _).2 ⟨rfl, ?_⟩
      have h1 : k = ls.length := by omega
      have : ls = bs := by
        have := hk.2
        rw [h1, List.take_length, hlen, List.take_length] at this
        exact this
      simp [this]

end
end Go.Proofs.YtinahcnpabjinaaDoor

namespace Go.Proofs.YtinahcnpabjinaaDoor
open Go.Sx Go.RowKit
noncomputable section
open Classical

/-! ### Bytes -/

def sameBytesS : FSpec := ⟨List UInt8 × List UInt8, fun g vs A => ∃ x y, vs = [x, y] ∧ SlB A x g.1 ∧ SlB A y g.2, fun g _ A v A' => A' = A ∧ v = .bool (decide (g.1 = g.2))⟩

set_option maxRecDepth 100000 in
set_option maxHeartbeats 0 in
theorem sameBytes_ok : FOk Tryd.prog 12 sameBytesS := by
  refine fok_v mixed fun ⟨ls, bs⟩ vs A hp => ?_
  simp only [sameBytesS] at hp
  obtain ⟨x, y, rfl, ⟨⟨ao, c, rfl, hc, _, ha1, ha2, ha3⟩, hxl⟩, ⟨bo, d, rfl, hd, _, hb1, hb2, hb3⟩, hyl⟩ := hp
  refine ⟨noC, tabO Tryd.prog noC noL 60 [(12, 0)], 60, noC_sound _, tabO_sound mixed (noC_sound _) (noL_sound _) _ _, fun blk os out tape D hD => ?_⟩
  conv => lhs; whnf
  refine split_b (fun hb => ?_) (fun hb => ?_) <;> (conv => lhs; whnf)
  · refine (hD _).2 ⟨rfl, ?_⟩
    have : ls ≠ bs := fun e => by subst e; simp at hb
    simp [this]
  · have hlen : ls.length = bs.length := by
      have : (ls.length : Int) = bs.length := by simpa using hb
      omega
    refine (hD _).2 ⟨cnt A 5 [0, 1] [] ls.length fun k => ls.take k = bs.take k, ⟨(0 : Nat), ⟨Nat.zero_le _, rfl⟩, ⟨rfl, trivial⟩, trivial, rfl⟩, fun (k : Nat) hk => ⟨⟨trivial, trivial⟩, trivial, ?_⟩⟩
    simp only [cnt] at hk
    conv => lhs; whnf
    refine split_dec (fun hlt => ?_) (fun hb => ?_) <;> (conv => lhs; whnf)
    · have hlt : k < ls.length := by omega
      obtain ⟨g, o, rfl, hra⟩ := Sl.at_ hc ha1 ha2 ha3 (by omega)
      obtain ⟨g', o', rfl, hrb⟩ := Sl.at_ hd hb1 hb2 hb3 (by omega)
      conv => lhs; whnf
      refine split_in (fun _ _ => ?_) (fun h => by omega)
      conv => lhs; whnf
      refine go_rd (byte_at hra k hlt rfl) ?_
      conv => lhs; whnf
      refine split_in (fun _ _ => ?_) (fun h => by omega)
      conv => lhs; whnf
      refine go_rd (byte_at hrb k (by omega) rfl) ?_
      conv => lhs; whnf
      refine split_b (fun hb => ?_) (fun hb => ?_) <;> (conv => lhs; whnf)
      · refine (hD _).2 ⟨rfl, ?_⟩
        have : ls ≠ bs := fun e => by subst e; simp at hb
        simp [this]
      · have he : ls[k] = bs[k] := by
          have : (ls[k].toNat : Int) = bs[k].toNat := by simpa using hb
          exact UInt8.toNat_inj.1 (by omega)
        refine (hD _).2 ⟨(k + 1 : Nat), ⟨⟨by omega, ?_⟩, ⟨inc_slot (by omega), trivial⟩, trivial, rfl⟩, ?_, ⟨rfl, rfl, trivial⟩, trivial⟩
        · show ls.take (k + 1) = bs.take (k + 1)
          rw [List.take_succ_eq_append_getElem hlt, List.take_succ_eq_append_getElem (by omega), hk.2, he]
        · show ls.length - (k + 1) < ls.length - k
          omega
    · refine (hD _).2 ⟨rfl, ?_⟩
      have h1 : k = ls.length := by omega
      have : ls = bs := by
        have := hk.2
        rw [h1, List.take_length, hlen, List.take_length] at this
        exact this
      simp [this]

end
end Go.Proofs.YtinahcnpabjinaaDoor

namespace Go.Proofs.YtinahcnpabjinaaDoor
open Go.Sx Go.RowKit
noncomputable section
open Classical

/-- A closed run that gives true changes nothing that lay. -/
theorem fok_closed {P : Program} (hm : P.follows .mixedOrders = true) {C : FuncId → Option CT} (hC : CTSound P C) {Λ : LTab} (hΛ : LTSound P Λ) {n : Nat} {f : FuncId} (hk : ∀ w : World, sxTop P C Λ n f [] ⟨.e, 0, memOf w⟩ (fun r _ => isT r) = true) :
    FOk P f ⟨Unit, fun _ vs _ => vs = [], fun _ _ A v A' => A' = A ∧ v = .bool true⟩ := by
  intro _ vs A w hA hvs
  simp only at hvs
  subst hvs
  have R : HRel (fun _ => ⟨0, 0, 0⟩) ⟨.e, 0, memOf w⟩ w := by
    refine ⟨rfl, rfl, rfl, fun k o hk => hk, fun b B hb => ?_, fun b b' B B' hb => ?_, fun b B hb => ?_, fun k o hk => (by cases hk), fun b B hb => ?_, fun k o hk => (by cases hk)⟩ <;> (rw [T.get_e] at hb; cases hb)
  refine (sxTop_sound hm hC hΛ n f [] _ _ (hk w) _ w R (fun x hx => by cases hx)).mono (fun v w' ⟨z, h', ρ', hz, hv, hl, R', _, _, hle⟩ => ?_) fun _ _ h => h
  have old : ∀ k o, w.heap[k]? = some o → w'.heap[k]? = some o := fun k o hk => R'.mem k o (hle.1 k o hk)
  refine ⟨A, ⟨rfl, ?_⟩, R'.os.trans hle.2.1, R'.out.trans hle.2.2.1, R'.tape.trans hle.2.2.2, fun k hk hlt => ?_, fun k o hk => old k o (hA k o hk), fun k o ho => .inl ⟨o, ho⟩⟩
  · rw [hv]
    cases z with
    | v x => cases x with
      | bool b => simp only [isT] at hz; subst hz; rfl
      | _ => simp [isT] at hz
    | _ => simp [isT] at hz
  · have h0 : w.heap[k]? = some w.heap[k] := Array.getElem?_eq_getElem hlt
    rw [old k _ h0, h0]

theorem awake_run (w : World) : sxTop Tryd.prog C0 noL 400 5 [] ⟨.e, 0, memOf w⟩ (fun r _ => isT r) = true := by kernel_rfl

def awakeS : FSpec := ⟨Unit, fun _ vs _ => vs = [], fun _ _ A v A' => A' = A ∧ v = .bool true⟩

theorem awake_ok : FOk Tryd.prog 5 awakeS := fok_closed mixed C0_sound (noL_sound _) awake_run

end
end Go.Proofs.YtinahcnpabjinaaDoor
