/-
  Trees, plain: nodes taken at whichever times, and all deeds from the first on (the stage's theorem).
  Watches as plain data; a tower's map.
  Plain: the order of watches; what a change rings.
  Contracts: bell: how rings are compared.
  Contracts: bell: the closure that compares two rings.
  Contracts: path.Check.
  Contracts: bell: New, may, Add, Count.
  Walks over a tower's map that take some of its watches away.
  Contracts: slices.Contains at sorts of watches.
  Contracts: bell: the closure that rings for a change's own path, for its parent.
  Contracts: slices.SortFunc at rings, by the kit's law of it over any program.
  Contracts: bell: change.
  Rows that are made by append: many elements at once.
-/
import Derived.Test.YtfpfjobknefedaaGreatDoorG12
import Derived.Test.YtfpfjobknefedaaGreatDoorG07
import Derived.StillTailTactics
import Derived.Test.YtfpfjobknefedaaGreatDoorG11
namespace Go.Proofs.YtfpfjobknefedaaGreatDoor
open Go.Sx Go.RowKit
noncomputable section
open Classical

theorem er_row (q : ByteArray) : ∀ (ds : List DeedD) (o : Option NodeD), (rowF ds q o).map erN = rowF ds q (o.map erN)
  | [], _ => rfl
  | d :: ds, o => by
    show (rowF ds q (if RightD d then doF d q o else o)).map erN = rowF ds q (if RightD d then doF d q (o.map erN) else o.map erN)
    rw [er_row q ds]
    split
    · rw [er_do]
    · rfl

theorem rowF_app (q : ByteArray) (ds es : List DeedD) (o : Option NodeD) : rowF (ds ++ es) q o = rowF es q (rowF ds q o) := by
  unfold rowF; rw [List.foldl_append]

theorem rowS_app (s : Int) (ds es : List DeedD) (o : Option SitD) : rowS (ds ++ es) s o = rowS es s (rowS ds s o) := by
  unfold rowS; rw [List.foldl_append]

theorem again_sim {T U : TreeD} (hT : ND T) (hU : ND U) (ds : List DeedD)
    (hq : ∀ q, ∃ j, (kGet q U.nodes).map erN = (kGet q (treeRow T (ds.take j)).nodes).map erN) (hs : ∃ j, ∀ s, kGet s U.seats = kGet s (treeRow T (ds.take j)).seats) : TSim (treeRow U ds) (treeRow T ds) := by
  obtain ⟨_, k1, k2⟩ := row_all ds hU
  obtain ⟨_, j1, j2⟩ := row_all ds hT
  refine ⟨fun q => ?_, fun s => ?_⟩
  · obtain ⟨j, hj⟩ := hq q
    rw [k1, j1, er_row, hj, (row_all (ds.take j) hT).2.1, ← er_row]
    congr 1
    have e : ∀ o, rowF ds q o = rowF (ds.drop j) q (rowF (ds.take j) q o) := fun o => by rw [← rowF_app, List.take_append_drop]
    rw [e, e, ow_idem (ow_row q (ds.take j))]
  · obtain ⟨j, hj⟩ := hs
    rw [k2, j2, hj, (row_all (ds.take j) hT).2.2]
    have e : ∀ o, rowS ds s o = rowS (ds.drop j) s (rowS (ds.take j) s o) := fun o => by rw [← rowS_app, List.take_append_drop]
    rw [e, e, sow_idem (sow_row s (ds.take j))]

/-- What deeds keep, all at once. -/
structure TGood (T : TreeD) : Prop where
  ok : TOk T
  keys : KeysOk T
  nodes : NodesOk T

theorem tgood_new : TGood treeNew := ⟨tok_new, fun e he => by
  simp only [treeNew, List.mem_singleton] at he
  subst he; rfl, nodesOk_new⟩

theorem TGood.apply {T : TreeD} (h : TGood T) (d : DeedD) : TGood (treeApply T d) := ⟨h.ok.apply d, apply_keys h.keys d, h.nodes.apply h.ok.nd d⟩

theorem TGood.row {T : TreeD} (h : TGood T) : ∀ ds : List DeedD, TGood (treeRow T ds) := fun ds => by
  induction ds generalizing T with
  | nil => exact h
  | cons d ds ih => exact ih (h.apply d)

/-! ### What may be loaded -/

def NodeFits (x : ToldD) : Prop := pathOk x.path.data.toList = true ∧ x.data.length ≤ 1000 ∧ StatOk x.stat

def LoadOk (l : List ToldD) : Prop := (∀ x ∈ l, NodeFits x) ∧ (l.Pairwise fun a b => ltL (pathL a.path) (pathL b.path) = true) ∧ ∃ x, l.head? = some x ∧ x.path = rootS

theorem told_some {T : TreeD} {p : ByteArray} {n : NodeD} (h : kGet p T.nodes = some n) : toldOf T p = ⟨p, n.data, { n.stat with len := n.data.length, kids := kidsN T p }⟩ := by
  unfold toldOf; rw [h]

theorem all_get {T : TreeD} {x : List UInt8} (hx : x ∈ treePaths T) : ∃ n, kGet (bytesOf x) T.nodes = some n := by
  cases h : kGet (bytesOf x) T.nodes with
  | some n => exact ⟨n, rfl⟩
  | none => exact absurd h (kGet_iff.2 (paths_mem hx))

theorem pathL_bytesOf (x : List UInt8) : pathL (bytesOf x) = x := by simp [pathL, bytesOf]

theorem root_first {T : TreeD} (h : TGood T) : ∃ ps, treePaths T = [47] :: ps := by
  have hr : ([47] : List UInt8) ∈ treePaths T := by
    obtain ⟨e, he, h1⟩ := List.mem_map.1 (kGet_iff.1 h.ok.root)
    exact (sortL_perm _).mem_iff.2 (List.mem_map.2 ⟨e, he, by rw [h1]; rfl⟩)
  have hs := paths_sorted h.ok.nd
  cases hp : treePaths T with
  | nil => rw [hp] at hr; cases hr
  | cons x ps =>
    rw [hp] at hr hs
    rcases List.mem_cons.1 hr with e | hm
    · exact ⟨ps, by rw [e]⟩
    · have hlt := (List.pairwise_cons.1 hs).1 _ hm
      have hx : x ∈ treePaths T := by rw [hp]; simp
      obtain ⟨e, he, h1⟩ := List.mem_map.1 (paths_mem hx)
      have hk := h.keys e he
      have e2 : e.1.data.toList = x := by rw [h1]; exact pathL_bytesOf x
      rw [e2] at hk
      exfalso
      unfold pathOk at hk
      split at hk
      · rename_i q
        simp [ltL] at hlt
      · cases hk

theorem load_ok {T : TreeD} (h : TGood T) : LoadOk (treeAll T) := by
  refine ⟨fun x hx => ?_, ?_, ?_⟩
  · obtain ⟨y, hy, rfl⟩ := List.mem_map.1 hx
    obtain ⟨n, hn⟩ := all_get hy
    obtain ⟨h1, h2, h3, h4, h5, h6, h7, h8, h9, _, _⟩ := h.nodes _ _ hn
    rw [told_some hn]
    obtain ⟨e, he, h0⟩ := List.mem_map.1 (paths_mem hy)
    have hk := h.keys e he
    rw [h0] at hk
    exact ⟨hk, h1, h2, h3, h4, h5, h6, h7, h8, h9, by show (0 : Int) ≤ (n.data.length : Int); omega, by show (0 : Int) ≤ (kidsN T (bytesOf y) : Int); omega⟩
  · rw [treeAll]
    refine List.pairwise_map.2 ((paths_sorted h.ok.nd).imp fun {a b} hab => ?_)
    rw [told_path, told_path, pathL_bytesOf, pathL_bytesOf]
    exact hab
  · obtain ⟨ps, hp⟩ := root_first h
    rw [treeAll, hp]
    exact ⟨_, rfl, told_path T _⟩

/-- What was told, loaded and seated, is the same tree. -/
theorem loaded_sim {T : TreeD} (h : TGood T) : TSim T ⟨loadN (treeAll T), seatsOf (treeSits T)⟩ :=
  ⟨fun q => (load_sim h.ok.nd q).symm, fun s => by
    have hE : T.nodes = kMap (·.2) (T.nodes.map fun e => (e.1, (0 : Nat), e.2)) := by
      unfold kMap
      rw [List.map_map]
      exact (List.map_id _).symm
    exact (copy_eq h.ok hE (List.Perm.refl _)).2 s⟩

end
end Go.Proofs.YtfpfjobknefedaaGreatDoor

namespace Go.Sx
noncomputable section

structure WatchD where
  conn : Int
  sort : Int
  path : ByteArray
deriving DecidableEq

def WatchD.cells (w : WatchD) : List Value := [.int .i64 w.conn, .int .u8 w.sort, .string w.path]

def wKey (w : WatchD) : Value := .agg w.cells.toArray

/-- A map's entries. -/
def wL (ws : List WatchD) : List (Value × Value) := ws.map fun w => (wKey w, .int .i64 1)

theorem wL_alike (w : WatchD) (ws : List WatchD) : ∀ e ∈ wL ws, alikeK (wKey w) e.1 = true := fun e he => by
  obtain ⟨x, _, rfl⟩ := List.mem_map.1 he
  rfl

theorem wKey_is (a b : WatchD) : keyIs (wKey a) (wKey b) = decide (a = b) := by
  obtain ⟨a1, a2, a3⟩ := a
  obtain ⟨b1, b2, b3⟩ := b
  show (a1 == b1 && (a2 == b2 && (a3 == b3 && true))) = _
  by_cases h : (⟨a1, a2, a3⟩ : WatchD) = ⟨b1, b2, b3⟩
  · injection h with h1 h2 h3
    subst h1; subst h2; subst h3
    rw [decide_eq_true rfl, bytes_beq_self]
    simp
  · rw [decide_eq_false h]
    by_cases h1 : a1 = b1
    · by_cases h2 : a2 = b2
      · have h3 : (a3 == b3) = false := by
          cases hb : a3 == b3 with
          | false => rfl
          | true => exact absurd (by rw [h1, h2, bytes_beq hb]) h
        rw [h3]; simp
      · have : (a2 == b2) = false := by simpa using h2
        rw [this]; simp
    · have : (a1 == b1) = false := by simpa using h1
      rw [this]; simp

theorem wKey_inj {a b : WatchD} (h : wKey a = wKey b) : a = b := by
  have h1 := wKey_is a b
  rw [h, wKey_is b b, decide_eq_true rfl] at h1
  exact of_decide_eq_true h1.symm

/-- A watch is set. -/
def wPut (w : WatchD) (ws : List WatchD) : List WatchD := if w ∈ ws then ws else ws ++ [w]

theorem wL_put (w : WatchD) : ∀ ws : List WatchD, putL (wKey w) (.int .i64 1) (wL ws) = wL (wPut w ws)
  | [] => rfl
  | x :: ws => by
    have ih := wL_put w ws
    simp only [wL, List.map_cons, putL, wKey_is] at ih ⊢
    by_cases h : w = x
    · subst h
      rw [decide_eq_true rfl, cond_true]
      simp [wPut]
    · rw [decide_eq_false h, cond_false, ih]
      unfold wPut
      by_cases h2 : w ∈ ws
      · rw [if_pos h2, if_pos (List.mem_cons_of_mem _ h2)]
        rfl
      · rw [if_neg h2, if_neg (fun hm => by
          rcases List.mem_cons.1 hm with hm | hm
          · exact h hm
          · exact h2 hm)]
        rfl

theorem wL_del (w : WatchD) : ∀ ws : List WatchD, delL (wKey w) (wL ws) = wL (ws.erase w)
  | [] => rfl
  | x :: ws => by
    have ih := wL_del w ws
    simp only [wL, List.map_cons, delL, wKey_is] at ih ⊢
    by_cases h : w = x
    · subst h
      rw [decide_eq_true rfl, cond_true, List.erase_cons_head]
    · rw [decide_eq_false h, cond_false, ih, List.erase_cons_tail (by simpa using fun e => h e.symm)]
      rfl

theorem wL_keys (ws : List WatchD) : (wL ws).map (·.1) = ws.map wKey := by
  unfold wL
  rw [List.map_map]
  rfl

theorem wL_nodup {ws : List WatchD} (h : ws.Nodup) : ((wL ws).map (·.1)).Nodup := by
  rw [wL_keys]
  exact List.Pairwise.map _ (fun a b hab e => hab (wKey_inj e)) h

theorem wPut_nodup {w : WatchD} {ws : List WatchD} (h : ws.Nodup) : (wPut w ws).Nodup := by
  unfold wPut
  split
  · exact h
  · rename_i hn
    refine List.nodup_append.2 ⟨h, by simp, fun a ha b hb e => ?_⟩
    rw [List.mem_singleton] at hb
    subst hb; subst e
    exact hn ha

/-- A tower: a cell that holds a map of watches. -/
structure TowerAt (A : Arena) (t m : Nat) (ws : List WatchD) : Prop where
  top : CellsAt A t [.map (some m)]
  map : MapAt A m (wL ws)
  nd : ws.Nodup
  ne : m ≠ t

theorem TowerAt.keep {A A' : Arena} {t m : Nat} {ws : List WatchD} (h : TowerAt A t m ws) (ht : A'.blk t = A.blk t) (hm : A'.blk m = A.blk m) : TowerAt A' t m ws :=
  ⟨h.top.sub fun o ho => by rw [ht]; exact ho, h.map.sub fun o ho => by rw [hm]; exact ho, h.nd, h.ne⟩

theorem TowerAt.set {A A' : Arena} {t m : Nat} {ws ws' : List WatchD} (h : TowerAt A t m ws) (hM : MapAt A' m (wL ws')) (ho : ∀ b, b ≠ m → A'.blk b = A.blk b) (hn : ws'.Nodup) : TowerAt A' t m ws' :=
  ⟨h.top.sub fun o hb => by rw [ho t (Ne.symm h.ne)]; exact hb, hM, hn, h.ne⟩

end
end Go.Sx

namespace Go.Proofs.YtfpfjobknefedaaGreatDoor
open Go.Sx Go.RowKit
noncomputable section
open Classical

/-! ### Texts -/

theorem blt_iff {a b : Nat} : Nat.blt a b = true ↔ a < b := by rw [Nat.blt_eq]

theorem ltL_irrefl : ∀ l, ltL l l = false
  | [] => rfl
  | a :: l => by
    have h1 : Nat.blt a.toNat a.toNat = false := by
      cases h : Nat.blt a.toNat a.toNat with
      | false => rfl
      | true => have := blt_iff.1 h; omega
    simp only [ltL, h1, Nat.beq_refl, cond_true, cond_false, ltL_irrefl l]

theorem ltL_cons {a b : UInt8} {l m : List UInt8} : ltL (a :: l) (b :: m) = true ↔ a.toNat < b.toNat ∨ (a = b ∧ ltL l m = true) := by
  simp only [ltL]
  cases h : Nat.blt a.toNat b.toNat with
  | true =>
    have := blt_iff.1 h
    simp [this]
  | false =>
    have h1 : ¬ a.toNat < b.toNat := fun hh => by rw [blt_iff.2 hh] at h; cases h
    cases h2 : Nat.beq a.toNat b.toNat with
    | true =>
      have := Nat.eq_of_beq_eq_true h2
      have e : a = b := UInt8.toNat_inj.1 this
      subst e
      simp
    | false =>
      have : a ≠ b := fun e => by rw [e, Nat.beq_refl] at h2; cases h2
      simp [h1, this]

theorem ltL_trans : ∀ a b c, ltL a b = true → ltL b c = true → ltL a c = true
  | [], _, [], _, h => by cases ‹List UInt8› <;> cases h
  | [], _, _ :: _, _, _ => rfl
  | _ :: _, [], _, h, _ => by cases h
  | _ :: _, _ :: _, [], _, h => by cases h
  | x :: a, y :: b, z :: c, h1, h2 => by
    rw [ltL_cons] at *
    rcases h1 with h1 | ⟨rfl, h1⟩
    · rcases h2 with h2 | ⟨rfl, h2⟩
      · exact .inl (Nat.lt_trans h1 h2)
      · exact .inl h1
    · rcases h2 with h2 | ⟨rfl, h2⟩
      · exact .inl h2
      · exact .inr ⟨rfl, ltL_trans a b c h1 h2⟩

theorem ltL_total : ∀ a b, ltL a b = false → ltL b a = false → a = b
  | [], [], _, _ => rfl
  | [], _ :: _, h, _ => by cases h
  | _ :: _, [], _, h => by cases h
  | x :: a, y :: b, h1, h2 => by
    have h1 : ¬ (x.toNat < y.toNat ∨ (x = y ∧ ltL a b = true)) := fun h => by rw [ltL_cons.2 h] at h1; cases h1
    have h2 : ¬ (y.toNat < x.toNat ∨ (y = x ∧ ltL b a = true)) := fun h => by rw [ltL_cons.2 h] at h2; cases h2
    have e : x = y := UInt8.toNat_inj.1 (by omega)
    subst e
    have e2 : a = b := ltL_total a b (by
      cases h : ltL a b with
      | false => rfl
      | true => exact absurd (.inr ⟨rfl, h⟩) h1) (by
      cases h : ltL b a with
      | false => rfl
      | true => exact absurd (.inr ⟨rfl, h⟩) h2)
    rw [e2]

theorem toList_inj {a b : ByteArray} (h : a.data.toList = b.data.toList) : a = b := by
  obtain ⟨⟨a⟩⟩ := a
  obtain ⟨⟨b⟩⟩ := b
  have h : a = b := h
  rw [h]

/-! ### The order of watches -/

def wLt (a b : WatchD) : Prop := a.conn < b.conn ∨ (a.conn = b.conn ∧ (a.sort < b.sort ∨ (a.sort = b.sort ∧ ltL a.path.data.toList b.path.data.toList = true)))

theorem wLt_irrefl (a : WatchD) : ¬ wLt a a := fun h => by
  rcases h with h | ⟨_, h | ⟨_, h⟩⟩
  · omega
  · omega
  · rw [ltL_irrefl] at h; cases h

theorem wLt_trans {a b c : WatchD} (h1 : wLt a b) (h2 : wLt b c) : wLt a c := by
  rcases h1 with h1 | ⟨e1, h1 | ⟨f1, h1⟩⟩
  · rcases h2 with h2 | ⟨e2, _⟩
    · exact .inl (Int.lt_trans h1 h2)
    · exact .inl (e2 ▸ h1)
  · rcases h2 with h2 | ⟨e2, h2 | ⟨f2, _⟩⟩
    · exact .inl (e1 ▸ h2)
    · exact .inr ⟨e1.trans e2, .inl (Int.lt_trans h1 h2)⟩
    · exact .inr ⟨e1.trans e2, .inl (f2 ▸ h1)⟩
  · rcases h2 with h2 | ⟨e2, h2 | ⟨f2, h2⟩⟩
    · exact .inl (e1 ▸ h2)
    · exact .inr ⟨e1.trans e2, .inl (f1 ▸ h2)⟩
    · exact .inr ⟨e1.trans e2, .inr ⟨f1.trans f2, ltL_trans _ _ _ h1 h2⟩⟩

theorem wLt_total {a b : WatchD} (h1 : ¬ wLt a b) (h2 : ¬ wLt b a) : a = b := by
  obtain ⟨c, s, p⟩ := a
  obtain ⟨c', s', p'⟩ := b
  simp only [wLt, not_or, not_and, Int.not_lt, Bool.not_eq_true] at h1 h2
  have e1 : c = c' := Int.le_antisymm h2.1 h1.1
  subst e1
  have h1 := h1.2 rfl
  have h2 := h2.2 rfl
  have e2 : s = s' := Int.le_antisymm h2.1 h1.1
  subst e2
  rw [toList_inj (ltL_total _ _ (h1.2 rfl) (h2.2 rfl))]

theorem wLt_asymm {a b : WatchD} (h : wLt a b) : ¬ wLt b a := fun k => wLt_irrefl _ (wLt_trans h k)

/-- Sorted. -/
def sortW (us : List WatchD) : List WatchD := us.mergeSort fun x y => !decide (wLt y x)

theorem sortW_perm (us : List WatchD) : (sortW us).Perm us := List.mergeSort_perm _ _

theorem sortW_length (us : List WatchD) : (sortW us).length = us.length := List.length_mergeSort _

theorem sortW_pw (us : List WatchD) : (sortW us).Pairwise fun a b => ¬ wLt b a := by
  refine (List.pairwise_mergeSort (le := fun x y => !decide (wLt y x)) (fun a b c h1 h2 => ?_) (fun a b => ?_) us).imp fun h => by simpa using h
  · simp only [Bool.not_eq_true', decide_eq_false_iff_not] at *
    intro h
    by_cases e : wLt b a
    · exact h1 e
    · by_cases e2 : wLt c b
      · exact h2 e2
      · by_cases e3 : wLt a b
        · exact h2 (wLt_trans h e3)
        · have := wLt_total e e3
          subst this
          exact e2 h
  · by_cases e : wLt b a
    · simp [e, wLt_asymm e]
    · simp [e]

/-- One sorted row alone. -/
theorem sorted_eq {us vs : List WatchD} (h1 : us.Pairwise fun a b => ¬ wLt b a) (h2 : vs.Pairwise fun a b => ¬ wLt b a) (hp : us.Perm vs) : us = vs :=
  List.Perm.eq_of_pairwise (le := fun a b => ¬ wLt b a) (fun _ _ _ _ h1 h2 => wLt_total h2 h1) h1 h2 hp

theorem sortW_of_perm {us vs : List WatchD} (h : us.Perm vs) : sortW us = sortW vs :=
  sorted_eq (sortW_pw _) (sortW_pw _) (((sortW_perm us).trans h).trans (sortW_perm vs).symm)

theorem sortW_id {us : List WatchD} (h : us.Pairwise wLt) : sortW us = us :=
  sorted_eq (sortW_pw _) (h.imp fun h => wLt_asymm h) (sortW_perm us)

/-! ### What a change rings -/

structure RingD where
  conn : Int
  kind : Int
  sort : Int
  path : ByteArray
  z : Int
deriving DecidableEq

def RingD.cells (r : RingD) : List Value := [.int .i64 r.conn, .int .u8 r.kind, .int .u8 r.sort, .string r.path, .int .i64 r.z]

def ringOf (k z : Int) (w : WatchD) : RingD := ⟨w.conn, k, w.sort, w.path, z⟩

/-- Which event a change makes for a watch; 0: none. -/
def rungK (kind : Int) (p : ByteArray) (w : WatchD) : Int :=
  if kind = 1 then (if w.path = p ∧ w.sort = 2 then 1 else if w.sort = 3 ∧ w.path = parentP p then 4 else 0)
  else if kind = 2 then (if w.path = p then 2 else if w.sort = 3 ∧ w.path = parentP p then 4 else 0)
  else if kind = 3 then (if w.path = p ∧ w.sort ≠ 3 then 3 else 0)
  else 0

def rung (kind : Int) (p : ByteArray) (ws : List WatchD) : List WatchD := ws.filter fun w => !decide (rungK kind p w = 0)
def unrung (kind : Int) (p : ByteArray) (ws : List WatchD) : List WatchD := ws.filter fun w => decide (rungK kind p w = 0)

/-- What is told. -/
def chRings (kind : Int) (p : ByteArray) (z : Int) (ws : List WatchD) : List RingD := (sortW (rung kind p ws)).map fun w => ringOf (rungK kind p w) z w

def WOk (ws : List WatchD) : Prop := ∀ w ∈ ws, 1 ≤ w.sort ∧ w.sort ≤ 3

end
end Go.Proofs.YtfpfjobknefedaaGreatDoor

namespace Go.Proofs.YtfpfjobknefedaaGreatDoor
open Go.Sx Go.RowKit Go.Sort Go.Shelf
noncomputable section

def cmpI (x y : Int) : Int := if x < y then -1 else if y < x then 1 else 0

set_option maxHeartbeats 1000000 in
theorem cmpInt_calls (x y : Int) (W : World) : Calls Tryz.prog 54 #[.int .i64 x, .int .i64 y] W fun e w' => e = .returned (.int .i64 (cmpI x y)) ∧ w' = W := by
  by_cases h : x < y
  · have hc : cmpI x y = -1 := if_pos h
    rw [hc]
    go_enter Tryz.func54, Tryz.ntmps54
    go_wp2
    go_ret
    exact ⟨rfl, rfl⟩
  · by_cases h2 : y < x
    · have hc : cmpI x y = 1 := by rw [cmpI, if_neg h, if_pos h2]
      rw [hc]
      go_enter Tryz.func54, Tryz.ntmps54
      go_wp2
      go_ret
      exact ⟨rfl, rfl⟩
    · have hc : cmpI x y = 0 := by rw [cmpI, if_neg h, if_neg h2]
      rw [hc]
      go_enter Tryz.func54, Tryz.ntmps54
      go_wp2
      go_ret
      exact ⟨rfl, rfl⟩

set_option maxHeartbeats 1000000 in
theorem cmpU8_calls (x y : Int) (W : World) : Calls Tryz.prog 55 #[.int .u8 x, .int .u8 y] W fun e w' => e = .returned (.int .i64 (cmpI x y)) ∧ w' = W := by
  by_cases h : x < y
  · have hc : cmpI x y = -1 := if_pos h
    rw [hc]
    go_enter Tryz.func55, Tryz.ntmps55
    go_wp2
    go_ret
    exact ⟨rfl, rfl⟩
  · by_cases h2 : y < x
    · have hc : cmpI x y = 1 := by rw [cmpI, if_neg h, if_pos h2]
      rw [hc]
      go_enter Tryz.func55, Tryz.ntmps55
      go_wp2
      go_ret
      exact ⟨rfl, rfl⟩
    · have hc : cmpI x y = 0 := by rw [cmpI, if_neg h, if_neg h2]
      rw [hc]
      go_enter Tryz.func55, Tryz.ntmps55
      go_wp2
      go_ret
      exact ⟨rfl, rfl⟩

def cmpS (x y : ByteArray) : Int := if ltL x.data.toList y.data.toList = true then -1 else if x = y then 0 else 1

theorem cmpS_cases (x y : ByteArray) : (Op.bytesLess x.toList y.toList = true ∧ cmpS x y = -1) ∨ (Op.bytesLess x.toList y.toList = false ∧ (x.toList == y.toList) = true ∧ cmpS x y = 0) ∨ (Op.bytesLess x.toList y.toList = false ∧ (x.toList == y.toList) = false ∧ cmpS x y = 1) := by
  rw [ByteArray.toList_eq, ByteArray.toList_eq, ← ltL_eq]
  unfold cmpS
  cases h : ltL x.data.toList y.data.toList with
  | true => exact .inl ⟨rfl, rfl⟩
  | false =>
    by_cases e : x = y
    · subst e
      exact .inr (.inl ⟨rfl, by simp, by simp⟩)
    · have : ¬ x.data.toList = y.data.toList := fun h => e (toList_inj h)
      exact .inr (.inr ⟨rfl, by simpa using this, by simp [e]⟩)

theorem gtr_run {x y : ByteArray} {r : Bool} (h : (!(Op.bytesLess x.toList y.toList || x.toList == y.toList)) = r) (t : TypeId) (w : World) : (binOp .gtr t (.string x) (.string y)).run Tryz.prog w = .ok (.bool r) w := by
  simp only [binOp, Op.stringOp]
  rw [h]
  rfl

set_option maxHeartbeats 1000000 in
theorem cmpStr_calls (x y : ByteArray) (W : World) : Calls Tryz.prog 56 #[.string x, .string y] W fun e w' => e = .returned (.int .i64 (cmpS x y)) ∧ w' = W := by
  rcases cmpS_cases x y with ⟨h, hc⟩ | ⟨h, h2, hc⟩ | ⟨h, h2, hc⟩
  · rw [hc]
    clear hc
    go_enter Tryz.func56, Tryz.ntmps56
    go_wp2
    go_ret
    exact ⟨rfl, rfl⟩
  · rw [hc]
    clear hc
    have hg := fun w => gtr_run (x := x) (y := y) (r := false) (by rw [h, h2]; rfl) 9 w
    clear h2
    go_enter Tryz.func56, Tryz.ntmps56
    go_wp2
    go_ret
    exact ⟨rfl, rfl⟩
  · rw [hc]
    clear hc
    have hg := fun w => gtr_run (x := x) (y := y) (r := true) (by rw [h, h2]; rfl) 9 w
    clear h2
    go_enter Tryz.func56, Tryz.ntmps56
    go_wp2
    go_ret
    exact ⟨rfl, rfl⟩

def orI (x y z : Int) : Int := if x ≠ 0 then x else if y ≠ 0 then y else z

set_option maxHeartbeats 1000000 in
theorem cmpOr_calls (x y z : Int) (g c : Nat) (W : World) (h0 : W.cell? ⟨g, 0, none⟩ = some (.int .i64 x)) (h1 : W.cell? ⟨g, 1, none⟩ = some (.int .i64 y)) (h2 : W.cell? ⟨g, 2, none⟩ = some (.int .i64 z)) : Calls Tryz.prog 53 #[.slice (some ⟨g, 0, none⟩) 3 c] W fun e w' => e = .returned (.int .i64 (orI x y z)) ∧ w' = W := by
  by_cases hx : x = 0
  · by_cases hy : y = 0
    · by_cases hz : z = 0
      · subst hx; subst hy; subst hz
        rw [show orI 0 0 0 = 0 from rfl]
        go_enter Tryz.func53, Tryz.ntmps53
        go_wp2
        refine wp_loop_rounds 4 ?_
        rw [rounds_succ]
        go_wp2
        rw [rounds_succ]
        go_wp2
        rw [rounds_succ]
        go_wp2
        rw [rounds_succ]
        go_wp2
        go_ret
        exact ⟨rfl, rfl⟩
      · have hc : orI x y z = z := by simp [orI, hx, hy]
        rw [hc]
        have hz' : (z != 0) = true := by simpa using hz
        subst hx; subst hy
        go_enter Tryz.func53, Tryz.ntmps53
        go_wp2
        refine wp_loop_rounds 4 ?_
        rw [rounds_succ]
        go_wp2
        rw [rounds_succ]
        go_wp2
        rw [rounds_succ]
        go_wp2
        go_ret
        exact ⟨rfl, rfl⟩
    · have hc : orI x y z = y := by simp [orI, hx, hy]
      rw [hc]
      have hy' : (y != 0) = true := by simpa using hy
      subst hx
      go_enter Tryz.func53, Tryz.ntmps53
      go_wp2
      refine wp_loop_rounds 4 ?_
      rw [rounds_succ]
      go_wp2
      rw [rounds_succ]
      go_wp2
      go_ret
      exact ⟨rfl, rfl⟩
  · have hc : orI x y z = x := by simp [orI, hx]
    rw [hc]
    have hx' : (x != 0) = true := by simpa using hx
    go_enter Tryz.func53, Tryz.ntmps53
    go_wp2
    refine wp_loop_rounds 4 ?_
    rw [rounds_succ]
    go_wp2
    go_ret
    exact ⟨rfl, rfl⟩

end
end Go.Proofs.YtfpfjobknefedaaGreatDoor

namespace Go.Proofs.YtfpfjobknefedaaGreatDoor
open Go.Sx Go.RowKit Go.Sort Go.Shelf
noncomputable section

theorem cell_new (W : World) (c : Array Value) (t : TypeId) (i : Nat) (v : Value) (h : c[i]? = some v) : (W.alloc (.cells c t)).cell? ⟨W.heap.size, i, none⟩ = some v := by
  have h1 : (W.alloc (.cells c t)).heap[W.heap.size]? = some (.cells c t (0, 0)) := by
    show (W.heap.push (.cells c t (0, 0)))[W.heap.size]? = _
    rw [Array.getElem?_push_size]
  unfold World.cell?
  rw [h1]
  exact h

theorem cell_old (W : World) (o : Obj) (b i : Nat) (v : Value) (h : W.cell? ⟨b, i, none⟩ = some v) : (W.alloc o).cell? ⟨b, i, none⟩ = some v := by
  unfold World.cell? at *
  have h1 : b < W.heap.size := by
    by_cases hb : b < W.heap.size
    · exact hb
    · have h9 : W.heap[b]? = none := Array.getElem?_eq_none (Nat.le_of_not_lt hb)
      rw [h9] at h
      cases h
  have h2 : (W.alloc o).heap[b]? = W.heap[b]? := by
    show (W.heap.push o)[b]? = _
    rw [Array.getElem?_push_lt h1, Array.getElem?_eq_getElem h1]
  rw [h2]
  exact h

theorem size_one (W : World) (a : Obj) : (W.alloc a).heap.size = W.heap.size + 1 := by
  show (W.heap.push a).size = _
  rw [Array.size_push]

def cfR (x y : WatchD) : Int := orI (cmpI x.conn y.conn) (cmpI x.sort y.sort) (cmpS x.path y.path)

set_option maxHeartbeats 0 in
set_option maxRecDepth 100000 in
/-- The closure: which ring comes first. -/
theorem cmpRing (k k' z z' : Int) (x y : WatchD) (W : World) : Calls Tryz.prog 52 #[.agg (ringOf k z x).cells.toArray, .agg (ringOf k' z' y).cells.toArray] W fun e w' => e = .returned (.int .i64 (cfR x y)) ∧ ∃ q os', w' = grow (W.drewN q) os' := by
  have c1 := fun W' => cmpInt_calls x.conn y.conn W'
  have c2 := fun W' => cmpU8_calls x.sort y.sort W'
  have c3 := fun W' => cmpStr_calls x.path y.path W'
  unfold cfR
  generalize cmpI x.conn y.conn = r1 at c1 ⊢
  generalize cmpI x.sort y.sort = r2 at c2 ⊢
  generalize cmpS x.path y.path = r3 at c3 ⊢
  obtain ⟨a, b, c⟩ := x
  obtain ⟨a', b', c'⟩ := y
  simp only [ringOf, RingD.cells] at c1 c2 c3 ⊢
  go_enter Tryz.func52, Tryz.ntmps52
  go_wp2
  have f0 := cell_old _ (.cells #[.int .i64 a', .int .u8 k', .int .u8 b', .string c', .int .i64 z'] 55) _ _ _ (cell_new W #[.int .i64 a, .int .u8 k, .int .u8 b, .string c, .int .i64 z] 55 0 _ rfl)
  have f2 := cell_old _ (.cells #[.int .i64 a', .int .u8 k', .int .u8 b', .string c', .int .i64 z'] 55) _ _ _ (cell_new W #[.int .i64 a, .int .u8 k, .int .u8 b, .string c, .int .i64 z] 55 2 _ rfl)
  have f3 := cell_old _ (.cells #[.int .i64 a', .int .u8 k', .int .u8 b', .string c', .int .i64 z'] 55) _ _ _ (cell_new W #[.int .i64 a, .int .u8 k, .int .u8 b, .string c, .int .i64 z] 55 3 _ rfl)
  have g0 := cell_new (W.alloc (.cells #[.int .i64 a, .int .u8 k, .int .u8 b, .string c, .int .i64 z] 55)) #[.int .i64 a', .int .u8 k', .int .u8 b', .string c', .int .i64 z'] 55 0 _ rfl
  have g2 := cell_new (W.alloc (.cells #[.int .i64 a, .int .u8 k, .int .u8 b, .string c, .int .i64 z] 55)) #[.int .i64 a', .int .u8 k', .int .u8 b', .string c', .int .i64 z'] 55 2 _ rfl
  have g3 := cell_new (W.alloc (.cells #[.int .i64 a, .int .u8 k, .int .u8 b, .string c, .int .i64 z] 55)) #[.int .i64 a', .int .u8 k', .int .u8 b', .string c', .int .i64 z'] 55 3 _ rfl
  rw [size_one] at g0 g2 g3
  obtain ⟨os2, hgr⟩ : ∃ os2, grow W os2 = (W.alloc (.cells #[.int .i64 a, .int .u8 k, .int .u8 b, .string c, .int .i64 z] 55)).alloc (.cells #[.int .i64 a', .int .u8 k', .int .u8 b', .string c', .int .i64 z'] 55) := ⟨_, by rw [alloc_eq_grow, alloc_eq_grow, grow_grow]⟩
  generalize (W.alloc (.cells #[.int .i64 a, .int .u8 k, .int .u8 b, .string c, .int .i64 z] 55)).alloc (.cells #[.int .i64 a', .int .u8 k', .int .u8 b', .string c', .int .i64 z'] 55) = w2 at f0 f2 f3 g0 g2 g3 hgr ⊢
  refine wp_region_still_tail 19 (by kernel_rfl) (by kernel_rfl) ?_
  simp only [List.take_succ_cons, List.take_zero, List.drop_succ_cons, List.drop_zero]
  change wpStill _ _ w2.drew _ _ _
  repeat (first | still_step | still_call (c1 _) | still_call (c2 _) | still_call (c3 _))
  refine wpStill_nil ?_
  change wpList _ _ _ _ _ w2.drew
  clear f0 f2 f3 g0 g2 g3 c1 c2 c3
  obtain ⟨os3, hgr⟩ : ∃ os3, (grow W os3).drew = w2.drew := ⟨os2, by rw [hgr]⟩
  generalize w2.drew = w3 at hgr ⊢
  have co := cmpOr_calls r1 r2 r3 w3.heap.size 3 (w3.alloc (.cells #[.int .i64 r1, .int .i64 r2, .int .i64 r3] 3)) (cell_new _ _ _ 0 _ rfl) (cell_new _ _ _ 1 _ rfl) (cell_new _ _ _ 2 _ rfl)
  go_wp2_with (go_at_call 53; refine co.mono ?_; rintro e w' ⟨rfl, rfl⟩)
  go_ret
  exact ⟨rfl, 1, _, by rw [alloc_eq_grow, ← hgr, show (grow W os3).drew = grow (W.drewN 1) os3 from rfl, grow_grow]⟩

end
end Go.Proofs.YtfpfjobknefedaaGreatDoor

namespace Go.Proofs.YtfpfjobknefedaaGreatDoor
open Go.Sx Go.RowKit
noncomputable section
open Classical

def checkS : FSpec := ⟨ByteArray, fun p vs _ => vs = [.string p], fun p _ A v A' => A' = A ∧ v = .bool (pathOk p.data.toList)⟩

theorem check_ok : FOk Tryz.prog 7 checkS := by
  intro p vs A w hA hp
  obtain rfl : vs = [.string p] := hp
  refine goes_of_calls Tryz.func7 ⟨by kernel_rfl, by kernel_rfl⟩ ?_
  intro cs
  obtain ⟨e, w', fr, ⟨k1, b1, b2, b3, _, b5⟩, k3⟩ := check1 p w cs
  have hlt : ∀ k o, A.blk k = some o → k < w.heap.size := fun k o hk => (Array.getElem?_eq_some_iff.1 (hA k o hk)).1
  exact ⟨e, w', fr, ⟨_, k1, A, ⟨rfl, rfl⟩, b1, b3, b2, fun k _ hk => b5 k hk, fun k o hk => (b5 k (hlt k o hk)).trans (hA k o hk), fun k o ho => .inl ⟨o, ho⟩⟩, k3⟩

end
end Go.Proofs.YtfpfjobknefedaaGreatDoor

namespace Go.Proofs.YtfpfjobknefedaaGreatDoor
open Go.Sx Go.RowKit
noncomputable section
open Classical

/-- May a watch be? -/
def mayD (sort : Int) (p : ByteArray) : Bool := decide (1 ≤ sort) && decide (sort ≤ 3) && pathOk p.data.toList

structure TwG where
  t : Nat
  m : Nat
  ws : List WatchD

/-- What a tower's call leaves. -/
structure TwTo (A : Arena) (g : TwG) (ws' : List WatchD) (A' : Arena) : Prop where
  tower : TowerAt A' g.t g.m ws'
  keep : ∀ b o, b ≠ g.m → A.blk b = some o → A'.blk b = some o
  dom : ∀ b, A'.blk b = none → A.blk b = none

theorem TwTo.same {A : Arena} {g : TwG} {ws : List WatchD} (h : TowerAt A g.t g.m ws) : TwTo A g ws A := ⟨h, fun _ _ _ h => h, fun _ h => h⟩

theorem TwTo.of_set {A A' : Arena} {g : TwG} {ws ws' : List WatchD} (h : TowerAt A g.t g.m ws) (hM : MapAt A' g.m (wL ws')) (ho : ∀ b, b ≠ g.m → A'.blk b = A.blk b) (hn : ws'.Nodup) : TwTo A g ws' A' :=
  ⟨h.set hM ho hn, fun b o hb hk => by rw [ho b hb]; exact hk, fun b hb => by
    by_cases e : b = g.m
    · obtain ⟨es, clock, h1, _⟩ := hM
      rw [e, h1] at hb; cases hb
    · rw [ho b e] at hb; exact hb⟩

def bellNewS : FSpec := ⟨Unit, fun _ vs _ => vs = [], fun _ _ A v A' => A.Sub A' ∧ ∃ t m, v = .pointer (some ⟨t, 0, none⟩) ∧ TowerAt A' t m [] ∧ A.blk t = none ∧ A.blk m = none⟩

def alTower : TypeId → Bool := fun t => Nat.beq t 76

set_option maxRecDepth 100000 in
set_option maxHeartbeats 0 in
theorem bellNew_ok : FOk Tryz.prog 9 bellNewS := by
  refine fok_a mixed alTower fun _ vs A hp => ?_
  obtain rfl : vs = [] := hp
  refine ⟨noC, noL, 60, noC_sound _, noL_sound _, fun blk os out tape D hD => ?_⟩
  conv => lhs; whnf
  refine (hD _).2 fun m A1 hm ho hM => ?_
  have hm : A.blk m = none := hm
  have ho : ∀ b, b ≠ m → A1.blk b = A.blk b := ho
  have s1 : A.Sub A1 := fun k o hk => by
    rw [ho k fun e => (by subst e; rw [hm] at hk; cases hk)]
    exact hk
  conv => lhs; whnf
  refine (hD _).2 fun t A2 hN => ?_
  have hN : A1.New A2 t #[.map (some m)] 76 := hN
  obtain ⟨om, hom⟩ : ∃ o, A1.blk m = some o := by
    obtain ⟨es, clock, h1, _⟩ := hM
    exact ⟨_, h1⟩
  have hne : m ≠ t := fun e => by
    have := hN.none_
    rw [← e, hom] at this; cases this
  have htn : A.blk t = none := by
    cases h : A.blk t with
    | none => rfl
    | some o => have := hN.none_; rw [s1 t o h] at this; cases this
  have hend : bellNewS.post () [] A (.pointer (some ⟨t, 0, none⟩)) A2 := ⟨s1.trans hN.sub, t, m, rfl, ⟨CellsAt.new hN, hM.sub fun _ hb => hN.sub _ _ hb, List.nodup_nil, hne⟩, htn, hm⟩
  conv => lhs; whnf
  exact (hD _).2 hend

def mayS : FSpec := ⟨TwG × Int × ByteArray, fun g vs A => vs = [.pointer (some ⟨g.1.t, 0, none⟩), .int .u8 g.2.1, .string g.2.2] ∧ TowerAt A g.1.t g.1.m g.1.ws, fun g _ A v A' => A' = A ∧ v = .bool (mayD g.2.1 g.2.2)⟩

set_option maxRecDepth 100000 in
set_option maxHeartbeats 0 in
theorem may_ok : FOk Tryz.prog 26 mayS := by
  refine fok_v mixed fun ⟨⟨t, m, ws⟩, sort, p⟩ vs A hp => ?_
  obtain ⟨rfl, hT⟩ : vs = [.pointer (some ⟨t, 0, none⟩), .int .u8 sort, .string p] ∧ TowerAt A t m ws := hp
  have hC : CTSound Tryz.prog (lookC [specE 7 checkS] noC) := lookC_sound (noC_sound _) (fun x hx => by
    simp only [List.mem_singleton] at hx
    subst hx; exact specE_ok check_ok)
  refine ⟨_, noL, 60, hC, noL_sound _, fun blk os out tape D hD => ?_⟩
  have htop : A.rd t 0 1 = some [.map (some m)] := hT.top.rd (o := 0) (n := 1) (by show 0 + 1 ≤ 1; omega)
  by_cases h1 : (1 : Int) ≤ sort
  · by_cases h3 : sort ≤ 3
    · conv => lhs; whnf
      repeat (first | refine go_rd htop ?_ | refine go_dec h1 ?_ | refine go_dec h3 ?_
              conv => lhs; whnf)
      refine (hD _).2 ⟨p, rfl, fun v A1 hq => ?_⟩
      obtain ⟨h9, hv⟩ : A1 = A ∧ v = .bool (pathOk p.data.toList) := hq
      subst h9; subst hv
      have hend : mayS.post ((⟨t, m, ws⟩ : TwG), sort, p) [] A1 (.bool (pathOk p.data.toList)) A1 := ⟨rfl, by
        unfold mayD
        rw [decide_eq_true h1, decide_eq_true h3]
        rfl⟩
      conv => lhs; whnf
      exact (hD _).2 hend
    · conv => lhs; whnf
      repeat (first | refine go_rd htop ?_ | refine go_dec h1 ?_ | refine no_dec h3 ?_
              conv => lhs; whnf)
      refine (hD _).2 ⟨rfl, ?_⟩
      unfold mayD
      rw [decide_eq_false h3, Bool.and_false, Bool.false_and]
  · conv => lhs; whnf
    repeat (first | refine go_rd htop ?_ | refine no_dec h1 ?_
            conv => lhs; whnf)
    refine (hD _).2 ⟨rfl, ?_⟩
    unfold mayD
    rw [decide_eq_false h1, Bool.false_and, Bool.false_and]

def bellAddS : FSpec := ⟨TwG × WatchD, fun g vs A => vs = [.pointer (some ⟨g.1.t, 0, none⟩), .int .i64 g.2.conn, .int .u8 g.2.sort, .string g.2.path] ∧ TowerAt A g.1.t g.1.m g.1.ws,
  fun g _ A _ A' => TwTo A g.1 (if mayD g.2.sort g.2.path = true then wPut g.2 g.1.ws else g.1.ws) A'⟩

set_option maxRecDepth 100000 in
set_option maxHeartbeats 0 in
theorem bellAdd_ok : FOk Tryz.prog 10 bellAddS := by
  refine fok_v mixed fun ⟨⟨t, m, ws⟩, ⟨conn, sort, p⟩⟩ vs A hp => ?_
  obtain ⟨rfl, hT⟩ : vs = [.pointer (some ⟨t, 0, none⟩), .int .i64 conn, .int .u8 sort, .string p] ∧ TowerAt A t m ws := hp
  have hC : CTSound Tryz.prog (lookC [specE 26 mayS] noC) := lookC_sound (noC_sound _) (fun x hx => by
    simp only [List.mem_singleton] at hx
    subst hx; exact specE_ok may_ok)
  refine ⟨_, noL, 60, hC, noL_sound _, fun blk os out tape D hD => ?_⟩
  have htop : A.rd t 0 1 = some [.map (some m)] := hT.top.rd (o := 0) (n := 1) (by show 0 + 1 ≤ 1; omega)
  conv => lhs; whnf
  refine (hD _).2 ⟨((⟨t, m, ws⟩ : TwG), sort, p), ⟨rfl, hT⟩, fun v A1 hq => ?_⟩
  obtain ⟨h9, hv⟩ : A1 = A ∧ v = .bool (mayD sort p) := hq
  subst h9
  cases hm : mayD sort p with
  | false =>
    rw [hm] at hv
    subst hv
    have hend : ∀ v, bellAddS.post ((⟨t, m, ws⟩ : TwG), ⟨conn, sort, p⟩) [] A1 v A1 := fun _ => by
      show TwTo A1 _ (if mayD sort p = true then _ else _) A1
      rw [hm, if_neg Bool.false_ne_true]
      exact .same hT
    conv => lhs; whnf
    exact (hD _).2 (hend (.bool false))
  | true =>
    rw [hm] at hv
    subst hv
    conv => lhs; whnf
    repeat (first | refine go_rd htop ?_ | refine go_D hD rfl ?_
            conv => lhs; whnf)
    refine (hD _).2 ⟨by kernel_rfl, _, hT.map, wL_alike ⟨conn, sort, p⟩ ws, fun A2 hM ho => ?_⟩
    have hM : MapAt A2 m (putL (wKey ⟨conn, sort, p⟩) (.int .i64 1) (wL ws)) := hM
    rw [wL_put] at hM
    have hend : ∀ v, bellAddS.post ((⟨t, m, ws⟩ : TwG), ⟨conn, sort, p⟩) [] A1 v A2 := fun _ => by
      show TwTo A1 _ (if mayD sort p = true then _ else _) A2
      rw [hm, if_pos rfl]
      exact .of_set hT hM ho (wPut_nodup hT.nd)
    conv => lhs; whnf
    exact (hD _).2 (hend (.bool false))

def bellCountS : FSpec := ⟨TwG, fun g vs A => vs = [.pointer (some ⟨g.t, 0, none⟩)] ∧ TowerAt A g.t g.m g.ws, fun g _ A v A' => A' = A ∧ v = .int .i64 g.ws.length⟩

set_option maxRecDepth 100000 in
set_option maxHeartbeats 0 in
theorem bellCount_ok : FOk Tryz.prog 13 bellCountS := by
  refine fok_v mixed fun ⟨t, m, ws⟩ vs A hp => ?_
  obtain ⟨rfl, hT⟩ : vs = [.pointer (some ⟨t, 0, none⟩)] ∧ TowerAt A t m ws := hp
  refine ⟨noC, noL, 60, noC_sound _, noL_sound _, fun blk os out tape D hD => ?_⟩
  have htop : A.rd t 0 1 = some [.map (some m)] := hT.top.rd (o := 0) (n := 1) (by show 0 + 1 ≤ 1; omega)
  conv => lhs; whnf
  have hcnt : A.cnt m = some ws.length := by
    rw [cnt_at hT.map]
    unfold wL
    rw [List.length_map]
  repeat (first | refine go_rd htop ?_ | refine go_ct hcnt ?_ | refine go_D hD rfl ?_
          conv => lhs; whnf)
  exact (hD _).2 ⟨rfl, rfl⟩

end
end Go.Proofs.YtfpfjobknefedaaGreatDoor

namespace Go.Sx
noncomputable section
open Classical

/-- A walk that takes some of the watches away: those of sk were met; X: what else may change. -/
structure WalkW (X : Nat → Prop) (A0 A : Arena) (m i : Nat) (ws0 ws sk : List WatchD) (out : WatchD → Bool) : Prop where
  iter : IterAt A i m (wL ws) (sk.map wKey)
  keep : ∀ b o, b ≠ m → ¬ X b → A0.blk b = some o → A.blk b = some o
  dom : ∀ b, A.blk b = none → A0.blk b = none
  left : ws = ws0.filter fun w => !(decide (w ∈ sk) && out w)
  nd : sk.Nodup
  sub : ∀ w ∈ sk, w ∈ ws0
  nd0 : ws0.Nodup
  fresh : A0.blk i = none
  im : i ≠ m

section
variable {X : Nat → Prop} {A0 A A1 A2 A3 : Arena} {m i : Nat} {ws0 ws sk : List WatchD} {out : WatchD → Bool}

theorem WalkW.start (hM : MapAt A0 m (wL ws0)) (hn : ws0.Nodup) (hi : A0.blk i = none) (hA1 : ∀ k, k ≠ i → A1.blk k = A0.blk k) (hI : IterAt A1 i m (wL ws0) []) : WalkW X A0 A1 m i ws0 ws0 [] out where
  iter := hI
  keep := fun b o _ _ hb => by rw [hA1 b fun e => (by rw [e, hi] at hb; cases hb)]; exact hb
  dom := fun b hb => by
    by_cases e : b = i
    · rw [e]; exact hi
    · rw [← hA1 b e]; exact hb
  left := by
    refine (List.filter_eq_self.2 fun w _ => ?_).symm
    simp
  nd := List.nodup_nil
  sub := fun _ h => by cases h
  nd0 := hn
  fresh := hi
  im := fun e => by
    obtain ⟨es, clock, h1, _⟩ := hM
    rw [← e, hi] at h1; cases h1

theorem WalkW.open_ {e : Value × Value} (he : e ∈ wL ws) (hn : e.1 ∉ sk.map wKey) : ∃ w, e = (wKey w, .int .i64 1) ∧ w ∈ ws ∧ w ∉ sk := by
  obtain ⟨w, hw, rfl⟩ := List.mem_map.1 he
  exact ⟨w, rfl, hw, fun h => hn (List.mem_map.2 ⟨w, h, rfl⟩)⟩

theorem WalkW.mem0 (h : WalkW X A0 A m i ws0 ws sk out) {w : WatchD} (hw : w ∈ ws) : w ∈ ws0 := by
  rw [h.left] at hw
  exact (List.mem_filter.1 hw).1

theorem WalkW.nds (h : WalkW X A0 A m i ws0 ws sk out) : ws.Nodup := by
  rw [h.left]
  exact List.Pairwise.filter _ h.nd0

theorem WalkW.snoc (h : WalkW X A0 A m i ws0 ws sk out) {w : WatchD} (hw : w ∈ ws) (hns : w ∉ sk) : (sk ++ [w]).Nodup ∧ (∀ x ∈ sk ++ [w], x ∈ ws0) ∧ sk.length < ws0.length := by
  have h1 : (sk ++ [w]).Nodup := List.nodup_append.2 ⟨h.nd, by simp, fun a ha b hb e => by
    rw [List.mem_singleton] at hb
    subst hb; subst e
    exact hns ha⟩
  have h2 : ∀ x ∈ sk ++ [w], x ∈ ws0 := fun x hx => by
    rcases List.mem_append.1 hx with hx | hx
    · exact h.sub x hx
    · rw [List.mem_singleton] at hx
      subst hx
      exact h.mem0 hw
  refine ⟨h1, h2, ?_⟩
  have := nodup_sub_len h1 h2
  rw [List.length_append, List.length_singleton] at this
  omega

/-- One stays. -/
theorem WalkW.pass (h : WalkW X A0 A m i ws0 ws sk out) {w : WatchD} (hw : w ∈ ws) (hns : w ∉ sk) (hA2 : ∀ b, b ≠ i → A2.blk b = A.blk b) (hI2 : IterAt A2 i m (wL ws) (sk.map wKey ++ [wKey w])) (ho : out w = false) : WalkW X A0 A2 m i ws0 ws (sk ++ [w]) out := by
  obtain ⟨h1, h2, _⟩ := h.snoc hw hns
  refine ⟨by rw [List.map_append]; exact hI2, fun b o hb hX hk => ?_, fun b hb => ?_, ?_, h1, h2, h.nd0, h.fresh, h.im⟩
  · rw [hA2 b fun e => (by rw [e, h.fresh] at hk; cases hk)]; exact h.keep b o hb hX hk
  · by_cases e : b = i
    · rw [e]; exact h.fresh
    · rw [hA2 b e] at hb; exact h.dom b hb
  · rw [h.left]
    refine List.filter_congr fun x hx => ?_
    by_cases e : x = w
    · subst e
      rw [ho]; simp
    · simp [e]

/-- One is taken. -/
theorem WalkW.take (h : WalkW X A0 A m i ws0 ws sk out) {w : WatchD} (hw : w ∈ ws) (hns : w ∉ sk) (hA2 : ∀ b, b ≠ i → A2.blk b = A.blk b) (hI3 : IterAt A3 i m (wL (ws.erase w)) (sk.map wKey ++ [wKey w])) (hk3 : ∀ b o, b ≠ m → ¬ X b → A2.blk b = some o → A3.blk b = some o) (hd3 : ∀ b, A3.blk b = none → A2.blk b = none) (ho : out w = true) : WalkW X A0 A3 m i ws0 (ws.erase w) (sk ++ [w]) out := by
  obtain ⟨h1, h2, _⟩ := h.snoc hw hns
  refine ⟨by rw [List.map_append]; exact hI3, fun b o hb hX hk => ?_, fun b hb => ?_, ?_, h1, h2, h.nd0, h.fresh, h.im⟩
  · refine hk3 b o hb hX ?_
    rw [hA2 b fun e => (by rw [e, h.fresh] at hk; cases hk)]; exact h.keep b o hb hX hk
  · have hb := hd3 b hb
    by_cases e : b = i
    · rw [e]; exact h.fresh
    · rw [hA2 b e] at hb; exact h.dom b hb
  · rw [List.Nodup.erase_eq_filter h.nds, h.left, List.filter_filter]
    refine List.filter_congr fun x hx => ?_
    by_cases e : x = w
    · subst e
      rw [ho]; simp
    · simp [e]

/-- All was met. -/
theorem WalkW.all (h : WalkW X A0 A m i ws0 ws sk out) (hall : ∀ e ∈ wL ws, e.1 ∈ sk.map wKey) : ws = ws0.filter (fun w => !out w) ∧ (sk.filter out).Perm (ws0.filter out) := by
  have hin : ∀ w ∈ ws0, out w = true → w ∈ sk := fun w hw ho => by
    by_cases e : w ∈ sk
    · exact e
    · have : w ∈ ws := by
        rw [h.left]
        exact List.mem_filter.2 ⟨hw, by simp [e]⟩
      obtain ⟨x, hx, e⟩ := List.mem_map.1 (hall _ (List.mem_map.2 ⟨w, this, rfl⟩))
      exact wKey_inj e ▸ hx
  refine ⟨?_, (List.perm_ext_iff_of_nodup (List.Pairwise.filter _ h.nd) (List.Pairwise.filter _ h.nd0)).2 fun w => ?_⟩
  · rw [h.left]
    refine List.filter_congr fun w hw => ?_
    cases ho : out w with
    | false => simp
    | true => simp [hin w hw ho]
  · rw [List.mem_filter, List.mem_filter]
    exact ⟨fun ⟨a, b⟩ => ⟨h.sub w a, b⟩, fun ⟨a, b⟩ => ⟨hin w a b, b⟩⟩

end

end
end Go.Sx

namespace Go.Proofs.YtfpfjobknefedaaGreatDoor
open Go.Sx Go.RowKit
noncomputable section
open Classical

def sortV (k : Int) : Value := .int .u8 k

theorem sort_at {A : Arena} {g o n : Nat} {l : List Int} (h : A.rd g o (n * 1) = some (l.map sortV)) (k : Nat) (hk : k < l.length) (hn : n = l.length) : A.rd g (o + k * 1) 1 = some [sortV l[k]] := by
  rw [rd_at h (i := k * 1) (m := 1) (by omega)]
  congr 1
  refine List.ext_getElem? fun i => ?_
  cases i with
  | zero => simp [hk]
  | succ i =>
    simp
    omega

/-- The first place of it. -/
def sortIndexS : FSpec := ⟨List Int × Int, fun g vs A => ∃ x, vs = [x, sortV g.2] ∧ Sl A 1 g.1.length x (g.1.map sortV) ∧ g.1.length ≤ 1000000,
  fun g _ A v A' => A' = A ∧ ∃ k : Int, v = .int .i64 k ∧ (0 ≤ k ↔ g.2 ∈ g.1)⟩

set_option maxRecDepth 100000 in
set_option maxHeartbeats 0 in
theorem sortIndex_ok : FOk Tryz.prog 67 sortIndexS := by
  refine fok_v mixed fun ⟨l, x⟩ vs A hp => ?_
  simp only [sortIndexS] at hp
  obtain ⟨v, rfl, ⟨ao, c, rfl, hc, _, ha1, ha2, ha3⟩, hl⟩ := hp
  refine ⟨noC, tabO Tryz.prog noC noL 60 [(67, 0)], 60, noC_sound _, tabO_sound mixed (noC_sound _) (noL_sound _) _ _, fun blk os out tape D hD => ?_⟩
  conv => lhs; whnf
  refine (hD _).2 ⟨cnt A 8 [0, 1, 6, 7] [] l.length fun k => ∀ y ∈ l.take k, y ≠ x, ⟨(0 : Nat), ⟨Nat.zero_le _, fun _ h => (by simp at h)⟩, ⟨rfl, trivial⟩, trivial, rfl⟩, fun (k : Nat) hk => ⟨⟨trivial, trivial⟩, trivial, ?_⟩⟩
  obtain ⟨hk, hno⟩ : k ≤ l.length ∧ ∀ y ∈ l.take k, y ≠ x := hk
  conv => lhs; whnf
  refine split_dec (fun hlt => ?_) (fun hlt => ?_)
  rotate_left
  · have hkl : k = l.length := by
      have hlt : ¬ ((k : Int) < (l.length : Int)) := hlt
      omega
    have hend : sortIndexS.post (l, x) [] A (.int .i64 (-1)) A := ⟨rfl, -1, rfl, by
      constructor
      · intro h; omega
      · intro h
        rw [hkl, List.take_length] at hno
        exact absurd rfl (hno _ h)⟩
    conv => lhs; whnf
    exact (hD _).2 hend
  have hlt : (k : Int) < (l.length : Int) := hlt
  have hkl : k < l.length := by omega
  have i0 : (0 : Int) ≤ (k : Int) ∧ (k : Int) < (l.length : Int) := by omega
  obtain ⟨g, o, rfl, hra⟩ := Sl.at_ hc ha1 ha2 ha3 (by omega)
  have h1 := sort_at hra k hkl rfl
  conv => lhs; whnf
  repeat (first | refine go_in i0 ?_ | refine go_rd h1 ?_ | refine go_D hD rfl ?_
          conv => lhs; whnf)
  refine split_dec (fun he => ?_) (fun he => ?_)
  · have he : x = l[k] := he
    have hend : sortIndexS.post (l, x) [] A (.int .i64 k) A := ⟨rfl, k, rfl, by
      constructor
      · intro _
        rw [he]
        exact List.getElem_mem _
      · intro _; omega⟩
    conv => lhs; whnf
    exact (hD _).2 hend
  · have he : ¬ x = l[k] := he
    conv => lhs; whnf
    refine (hD _).2 ⟨(k + 1 : Nat), ⟨⟨hkl, fun y hy => ?_⟩, ⟨inc_slot (by omega), trivial⟩, trivial, rfl⟩, by show l.length - (k + 1) < l.length - k; omega, ⟨same1 rfl rfl, same1 rfl rfl, same1 rfl rfl, same1 rfl rfl, trivial⟩, trivial⟩
    rw [List.take_succ_eq_append_getElem hkl] at hy
    rcases List.mem_append.1 hy with hy | hy
    · exact hno y hy
    · rw [List.mem_singleton] at hy
      subst hy
      exact fun e => he e.symm

def sortHasS : FSpec := ⟨List Int × Int, fun g vs A => ∃ x, vs = [x, sortV g.2] ∧ Sl A 1 g.1.length x (g.1.map sortV) ∧ g.1.length ≤ 1000000, fun g _ A v A' => A' = A ∧ v = .bool (decide (g.2 ∈ g.1))⟩

set_option maxRecDepth 100000 in
set_option maxHeartbeats 0 in
theorem sortHas_ok : FOk Tryz.prog 50 sortHasS := by
  refine fok_v mixed fun ⟨l, x⟩ vs A hp => ?_
  obtain ⟨v, rfl, hp⟩ : ∃ v, vs = [v, sortV x] ∧ Sl A 1 l.length v (l.map sortV) ∧ l.length ≤ 1000000 := hp
  have hC : CTSound Tryz.prog (lookC [specE 67 sortIndexS] noC) := lookC_sound (noC_sound _) (fun x hx => by
    simp only [List.mem_singleton] at hx
    subst hx; exact specE_ok sortIndex_ok)
  refine ⟨_, noL, 60, hC, noL_sound _, fun blk os out tape D hD => ?_⟩
  conv => lhs; whnf
  refine (hD _).2 ⟨(l, x), ⟨v, rfl, hp⟩, fun u A1 hq => ?_⟩
  obtain ⟨h9, k, rfl, hk⟩ : A1 = A ∧ ∃ k : Int, u = .int .i64 k ∧ (0 ≤ k ↔ x ∈ l) := hq
  subst h9
  have hend : sortHasS.post (l, x) [] A1 (.bool (decide (0 ≤ k))) A1 := ⟨rfl, by simp only [hk]⟩
  conv => lhs; whnf
  exact (hD _).2 hend

end
end Go.Proofs.YtfpfjobknefedaaGreatDoor

namespace Go.Proofs.YtfpfjobknefedaaGreatDoor
open Go.Sx Go.RowKit
noncomputable section
open Classical

/-- A block more. -/
def Arena.one (A : Arena) (i : Nat) : Arena := Arena.of fun k => if k = i then some (.map #[] 0) else A.blk k

theorem one_at (A : Arena) (i : Nat) : ∃ o, (Arena.one A i).blk i = some o := ⟨_, if_pos rfl⟩
theorem one_ne {A : Arena} {i k : Nat} (h : k ≠ i) : (Arena.one A i).blk k = A.blk k := if_neg h

theorem grow_one {A1 A : Arena} {es n i : Nat} {e : TypeId} {v : Value} {cs : List Value} (h : GrowR A1 A es e n v cs) (hi : A.blk i = none) : GrowR (Arena.one A1 i) A es e n v cs := by
  obtain ⟨h1, h2 | ⟨g, nc, c, h3, h4, h4', h5, h6, h7⟩⟩ := h
  · exact ⟨h1, .inl h2⟩
  · exact ⟨h1, .inr ⟨g, nc, c, h3, h4, h4', by rw [one_ne fun e => (by rw [e, hi] at h6; cases h6)]; exact h5, h6, h7⟩⟩

theorem grow_less {A1 A : Arena} {es n i : Nat} {e : TypeId} {v : Value} {cs : List Value} (h : GrowR (Arena.one A1 i) A es e n v cs) : GrowR A1 A es e n v cs := by
  obtain ⟨h1, h2 | ⟨g, nc, c, h3, h4, h4', h5, h6, h7⟩⟩ := h
  · exact ⟨h1, .inl h2⟩
  · refine ⟨h1, .inr ⟨g, nc, c, h3, h4, h4', ?_, h6, h7⟩⟩
    rw [← one_ne fun e => (by
      obtain ⟨o, ho⟩ := one_at A1 i
      rw [e, ho] at h5; cases h5)]
    exact h5

theorem grow_stay {A1 A A' : Arena} {es n : Nat} {e : TypeId} {v : Value} {cs : List Value} (h : GrowR A1 A es e n v cs) (hk : ∀ k o, A1.blk k = none → A.blk k = some o → A'.blk k = some o) : GrowR A1 A' es e n v cs := by
  obtain ⟨h1, h2 | ⟨g, nc, c, h3, h4, h4', h5, h6, h7⟩⟩ := h
  · exact ⟨h1, .inl h2⟩
  · exact ⟨h1, .inr ⟨g, nc, c, h3, h4, h4', h5, hk g _ h5 h6, h7⟩⟩

/-- What the closure's variables hold. -/
structure RgAt (A1 A : Arena) (t m bt bo bz : Nat) (ws : List WatchD) (z : Int) (v : Value) (rs : List RingD) : Prop where
  tower : TowerAt A t m ws
  pt : CellsAt A bt [.pointer (some ⟨t, 0, none⟩)]
  po : CellsAt A bo [v]
  pz : CellsAt A bz [.int .i64 z]
  row : GrowR A1 A 5 55 rs.length v (rs.flatMap RingD.cells)
  old : ∀ k, k = t ∨ k = m ∨ k = bt ∨ k = bo ∨ k = bz → ∃ o, A1.blk k = some o
  dom : ∀ k, A.blk k = none → A1.blk k = none
  ne : m ≠ bt ∧ m ≠ bo ∧ m ≠ bz ∧ bo ≠ t ∧ bo ≠ bt ∧ bo ≠ bz

theorem RgAt.more {A1 A A' : Arena} {t m bt bo bz : Nat} {ws : List WatchD} {z : Int} {v : Value} {rs : List RingD} (h : RgAt A1 A t m bt bo bz ws z v rs) (hk : ∀ k, k = t ∨ k = m ∨ k = bt ∨ k = bo ∨ k = bz → A'.blk k = A.blk k) (hn : ∀ k, A1.blk k = none → A.blk k ≠ none → A'.blk k = A.blk k) (hd : ∀ k, A'.blk k = none → A.blk k = none) : RgAt A1 A' t m bt bo bz ws z v rs := by
  refine ⟨h.tower.keep (hk t (by simp)) (hk m (by simp)), h.pt.sub fun o ho => (hk bt (by simp)).trans ho, h.po.sub fun o ho => (hk bo (by simp)).trans ho, h.pz.sub fun o ho => (hk bz (by simp)).trans ho, ?_, h.old, fun k hk' => h.dom k (hd k hk'), h.ne⟩
  obtain ⟨h1, h2 | ⟨g, nc, c, h3, h4, h4', h5, h6, h7⟩⟩ := h.row
  · exact ⟨h1, .inl h2⟩
  · exact ⟨h1, .inr ⟨g, nc, c, h3, h4, h4', h5, by rw [hn g h5 (by rw [h6]; simp)]; exact h6, h7⟩⟩

theorem addrA_inj {a b : Option (Nat × Nat)} (h : addrA a = addrA b) : a = b := by
  cases a with
  | none =>
    cases b with
    | none => rfl
    | some x => cases h
  | some x =>
    cases b with
    | none => cases h
    | some y =>
      obtain ⟨x1, x2⟩ := x
      obtain ⟨y1, y2⟩ := y
      injection h with h
      injection h with h1 h2
      subst h1; subst h2; rfl

/-- The row at a place that is known. -/
theorem grow_at {A1 A : Arena} {es : Nat} {e : TypeId} {n c : Nat} {base : Option (Nat × Nat)} {cs : List Value} (h : GrowR A1 A es e n (.slice (addrA base) n c) cs) :
    (∀ bytes, bytes ≤ 65536 → n ≤ 1000000000 → GrowP A base n c es bytes cs) ∧
    ∀ ys v' A', ys.length = es → (∀ k, A.blk k = none → A1.blk k = none) → Appended A base n c es e cs ys 1 v' A' → GrowR A1 A' es e (n + 1) v' (cs ++ ys) ∧ ∀ k o, A1.blk k = some o → A'.blk k = A.blk k := by
  obtain ⟨b', c', he, _, h1, h2⟩ := h.form
  injection he with e1 _ e2
  have e1 := addrA_inj e1
  subst e1; subst e2
  exact ⟨h1, h2⟩

theorem app_dom {A A' : Arena} {base : Option (Nat × Nat)} {l c es : Nat} {e : TypeId} {xs ys : List Value} {n : Nat} {v : Value} (h : Appended A base l c es e xs ys n v A') : ∀ k, A'.blk k = none → A.blk k = none := fun k hk => by
  rcases h with ⟨_, _, ⟨_, rfl⟩ | ⟨g, o, _, hP⟩⟩ | ⟨_, g, nc, cs, zs, _, _, _, _, hN⟩
  · exact hk
  · exact (hP.dom k).1 hk
  · by_cases e : k = g
    · rw [e, hN.at_] at hk; cases hk
    · rw [hN.other k e] at hk; exact hk

structure RgG where
  A1 : Arena
  S : Arena
  t : Nat
  m : Nat
  bt : Nat
  bo : Nat
  bz : Nat
  ws : List WatchD
  z : Int
  v : Value
  rs : List RingD
  kind : Int
  p : ByteArray
  sorts : List Int

def RgG.out (g : RgG) (w : WatchD) : Bool := decide (w.path = g.p) && decide (w.sort ∈ g.sorts)

def bellRgS : FSpec := ⟨RgG, fun g vs A => ∃ sv, vs = [.int .u8 g.kind, .string g.p, sv, .pointer (some ⟨g.bt, 0, none⟩), .pointer (some ⟨g.bo, 0, none⟩), .pointer (some ⟨g.bz, 0, none⟩)] ∧
    RgAt g.A1 A g.t g.m g.bt g.bo g.bz g.ws g.z g.v g.rs ∧ Sl g.S 1 g.sorts.length sv (g.sorts.map sortV) ∧ g.sorts.length ≤ 1000000 ∧ g.S.Sub A ∧ (∀ k o, g.S.blk k = some o → (∃ o', g.A1.blk k = some o') ∧ k ≠ g.m ∧ k ≠ g.bo) ∧ g.rs.length + g.ws.length ≤ 1000000000,
  fun g _ A _ A' => ∃ (v' : Value) (us : List WatchD), us.Perm (g.ws.filter g.out) ∧ RgAt g.A1 A' g.t g.m g.bt g.bo g.bz (g.ws.filter fun w => !g.out w) g.z v' (g.rs ++ us.map (ringOf g.kind g.z)) ∧
    (∀ k o, g.A1.blk k = some o → k ≠ g.m → k ≠ g.bo → A'.blk k = A.blk k) ∧ ∀ k, A'.blk k = none → A.blk k = none⟩

structure RgL where
  A : Arena
  ws : List WatchD
  sk : List WatchD
  v : Value

def rgInv (g : RgG) (A0 : Arena) (i : Nat) : LInv :=
  { γ := RgL, G := fun s => WalkW (fun k => k = g.bo ∨ g.A1.blk k = none) A0 s.A g.m i g.ws s.ws s.sk g.out ∧ RgAt (Arena.one g.A1 i) s.A g.t g.m g.bt g.bo g.bz s.ws g.z s.v (g.rs ++ (s.sk.filter g.out).map (ringOf g.kind g.z)),
    keepS := [0, 1, 2, 3, 4, 5, 14], keepB := [], sl := fun _ => [], bl := fun _ => [], ar := fun s => s.A, mu := fun s => g.ws.length - s.sk.length }

set_option maxRecDepth 100000 in
set_option maxHeartbeats 0 in
theorem bellRg_ok : FOk Tryz.prog 49 bellRgS := by
  refine fok_v mixed fun ⟨A1, S, t, m, bt, bo, bz, ws, z, v, rs, kind, p, sorts⟩ vs A hp => ?_
  obtain ⟨sv, rfl, hR, hS, hsl, hSA, hSo, hbig⟩ : ∃ sv, vs = [.int .u8 kind, .string p, sv, .pointer (some ⟨bt, 0, none⟩), .pointer (some ⟨bo, 0, none⟩), .pointer (some ⟨bz, 0, none⟩)] ∧
    RgAt A1 A t m bt bo bz ws z v rs ∧ Sl S 1 sorts.length sv (sorts.map sortV) ∧ sorts.length ≤ 1000000 ∧ S.Sub A ∧ (∀ k o, S.blk k = some o → (∃ o', A1.blk k = some o') ∧ k ≠ m ∧ k ≠ bo) ∧ rs.length + ws.length ≤ 1000000000 := hp
  obtain ⟨ao, c, rfl⟩ := hS.form
  have hC : CTSound Tryz.prog (lookC [specE 50 sortHasS] noC) := lookC_sound (noC_sound _) (fun x hx => by
    simp only [List.mem_singleton] at hx
    subst hx; exact specE_ok sortHas_ok)
  refine ⟨_, tabO Tryz.prog _ noL 60 [(49, 0)], 60, hC, tabO_sound mixed hC (noL_sound _) _ _, fun blk os out tape D hD => ?_⟩
  have htop : A.rd t 0 1 = some [.map (some m)] := hR.tower.top.rd (o := 0) (n := 1) (by show 0 + 1 ≤ 1; omega)
  have hpt : A.rd bt 0 1 = some [.pointer (some ⟨t, 0, none⟩)] := hR.pt.rd (o := 0) (n := 1) (by show 0 + 1 ≤ 1; omega)
  conv => lhs; whnf
  repeat (first | refine go_rd htop ?_ | refine go_rd hpt ?_ | refine go_D hD rfl ?_
          conv => lhs; whnf)
  refine (hD _).2 ⟨_, hR.tower.map, wL_nodup hR.tower.nd, fun i A2 hi hA2 hI => ?_⟩
  have hA2 : ∀ k, k ≠ i → A2.blk k = A.blk k := hA2
  have hi : A.blk i = none := hi
  have hI0 : IterAt A2 i m (wL ws) [] := hI
  let g0 : RgG := ⟨A1, S, t, m, bt, bo, bz, ws, z, v, rs, kind, p, sorts⟩
  have hoth : ∀ k o, A.blk k = some o → A2.blk k = some o := fun k o hk => by rw [hA2 k fun e => (by rw [e, hi] at hk; cases hk)]; exact hk
  have hold : ∀ k, k = t ∨ k = m ∨ k = bt ∨ k = bo ∨ k = bz → k ≠ i := fun k hk e => by
    obtain ⟨o, ho⟩ := hR.old k hk
    rw [hR.dom k (by rw [e]; exact hi)] at ho
    cases ho
  have hoth' : ∀ k, k = t ∨ k = m ∨ k = bt ∨ k = bo ∨ k = bz → A2.blk k = A.blk k := fun k hk => hA2 k (hold k hk)
  have hW0 : WalkW (fun k => k = bo ∨ A1.blk k = none) A A2 m i ws ws [] g0.out := .start hR.tower.map hR.tower.nd hi hA2 hI0
  have hR0 : RgAt (Arena.one A1 i) A2 t m bt bo bz ws z v (rs ++ ([].filter g0.out).map (ringOf kind z)) := by
    rw [List.filter_nil, List.map_nil, List.append_nil]
    refine ⟨hR.tower.keep (hoth' t (by simp)) (hoth' m (by simp)), hR.pt.sub fun o ho => hoth _ _ ho, hR.po.sub fun o ho => hoth _ _ ho, hR.pz.sub fun o ho => hoth _ _ ho, (grow_one hR.row hi).sub hoth, fun k hk => ?_, fun k hk => ?_, hR.ne⟩
    · rw [one_ne (hold k hk)]
      exact hR.old k hk
    · have hki : k ≠ i := fun e => by
        obtain ⟨_, _, _, _, _, _, _, _, h6, _⟩ := hI0
        rw [e, h6] at hk; cases hk
      rw [one_ne hki]
      rw [hA2 k hki] at hk
      exact hR.dom k hk
  conv => lhs; whnf
  refine (hD _).2 ⟨rgInv g0 A i, ⟨(⟨A2, ws, [], v⟩ : RgL), ⟨⟨hW0, hR0⟩, trivial, trivial, rfl⟩⟩, fun (s : RgL) hG => ⟨trivial, trivial, ?_⟩⟩
  obtain ⟨As, wk, sk, v1⟩ := s
  obtain ⟨hW, hRs⟩ : WalkW (fun k => k = bo ∨ A1.blk k = none) A As m i ws wk sk g0.out ∧ RgAt (Arena.one A1 i) As t m bt bo bz wk z v1 (rs ++ (sk.filter g0.out).map (ringOf kind z)) := hG
  conv => lhs; whnf
  refine (hD _).2 (.inl ⟨m, _, _, hW.iter, fun e he hn A3 hA3 hI3 hent => ?_, fun hall => ?_⟩)
  · have hA3 : ∀ b, b ≠ i → A3.blk b = As.blk b := hA3
    obtain ⟨w, rfl, hw, hns⟩ := WalkW.open_ he hn
    obtain ⟨c, so, q⟩ := w
    have hlen := (hW.snoc hw hns).2.2
    have hent : A3.ent i = some (.tuple #[.agg #[.int .i64 c, .int .u8 so, .string q], .int .i64 1]) := hent
    have hI3 : IterAt A3 i m (wL wk) (sk.map wKey ++ [wKey ⟨c, so, q⟩]) := hI3
    conv => lhs; whnf
    split
    rotate_left
    · rename_i hv
      exact absurd (hent.symm.trans hv) (by simp)
    rename_i v hv
    obtain rfl := Option.some.inj (hent.symm.trans hv)
    have hi3 : A3.blk i ≠ none := by
      obtain ⟨_, _, _, _, _, _, _, _, h6, _⟩ := hI3
      rw [h6]; simp
    have hR3 := hRs.more (A' := A3) (fun k hk => hA3 k (hold k hk)) (fun k hk _ => hA3 k fun e => (by
      obtain ⟨o, ho⟩ := one_at A1 i
      rw [e, ho] at hk; cases hk)) (fun k hk => by rw [← hA3 k fun e => hi3 (e ▸ hk)]; exact hk)
    have hS3 : S.Sub A3 := fun k o hk => by
      obtain ⟨⟨o', ho'⟩, hkm, hkb⟩ := hSo k o hk
      have hk1 := hSA k o hk
      rw [hA3 k fun e => (by rw [e, hi] at hk1; cases hk1)]
      exact hW.keep k o hkm (fun h => h.elim hkb fun h => by rw [h] at ho'; cases ho') hk1
    have hlt3 : ws.length - (sk ++ [(⟨c, so, q⟩ : WatchD)]).length < ws.length - sk.length := by rw [List.length_append, List.length_singleton]; omega
    conv => lhs; whnf
    have pass : g0.out ⟨c, so, q⟩ = false → (rgInv g0 A i).G (⟨A3, wk, sk ++ [(⟨c, so, q⟩ : WatchD)], v1⟩ : RgL) := fun ho => by
      refine ⟨hW.pass hw hns hA3 hI3 ho, ?_⟩
      show RgAt (Arena.one A1 i) A3 t m bt bo bz wk z v1 (rs ++ ((sk ++ [(⟨c, so, q⟩ : WatchD)]).filter g0.out).map (ringOf kind z))
      rw [List.filter_append, List.filter_cons_of_neg (by rw [ho]; exact Bool.false_ne_true), List.filter_nil, List.append_nil]
      exact hR3
    refine split_b (fun hq => ?_) (fun hq => ?_)
    rotate_left
    · have ho : g0.out ⟨c, so, q⟩ = false := by
        show (decide (q = p) && decide (so ∈ sorts)) = false
        rw [decide_eq_false fun e => (beqL_ff.1 hq) (by rw [e]), Bool.false_and]
      conv => lhs; whnf
      exact (hD _).2 ⟨(⟨A3, wk, sk ++ [(⟨c, so, q⟩ : WatchD)], v1⟩ : RgL), ⟨pass ho, trivial, trivial, rfl⟩, hlt3, ⟨same1 rfl rfl, same1 rfl rfl, same1 rfl rfl, same1 rfl rfl, same1 rfl rfl, same1 rfl rfl, same1 rfl rfl, trivial⟩, trivial⟩
    obtain rfl : q = p := toList_inj (beqL_iff.1 hq)
    conv => lhs; whnf
    refine (hD _).2 ⟨(sorts, so), ⟨_, rfl, hS.sub hS3, hsl⟩, fun v A4 hq4 => ?_⟩
    obtain ⟨h4, hv4⟩ : A4 = A3 ∧ v = .bool (decide (so ∈ sorts)) := hq4
    subst h4; subst hv4
    by_cases hso : so ∈ sorts
    · have hgo : g0.out ⟨c, so, q⟩ = true := by
        show (decide (q = q) && decide (so ∈ sorts)) = true
        rw [decide_eq_true hso, decide_eq_true rfl]; rfl
      rw [decide_eq_true hso]
      obtain ⟨n, hn1, hn2⟩ : ∃ n, n = (rs ++ (sk.filter g0.out).map (ringOf kind z)).length ∧ n ≤ 1000000000 := ⟨_, rfl, by
        have := List.length_filter_le g0.out sk
        rw [List.length_append, List.length_map]; omega⟩
      obtain ⟨cs, hcs⟩ : ∃ cs, cs = (rs ++ (sk.filter g0.out).map (ringOf kind z)).flatMap RingD.cells := ⟨_, rfl⟩
      have hrow := hR3.row
      rw [← hn1, ← hcs] at hrow
      obtain ⟨base, cp, rfl, hbase, hP, hA⟩ := hrow.form
      have hP := hP 40 (by omega) hn2
      have htop4 : A4.rd t 0 1 = some [.map (some m)] := hR3.tower.top.rd (o := 0) (n := 1) (by show 0 + 1 ≤ 1; omega)
      have hpt4 : A4.rd bt 0 1 = some [.pointer (some ⟨t, 0, none⟩)] := hR3.pt.rd (o := 0) (n := 1) (by show 0 + 1 ≤ 1; omega)
      have hpo4 : A4.rd bo 0 1 = some [.slice (addrA base) n cp] := hR3.po.rd (o := 0) (n := 1) (by show 0 + 1 ≤ 1; omega)
      have hpz4 : A4.rd bz 0 1 = some [.int .i64 z] := hR3.pz.rd (o := 0) (n := 1) (by show 0 + 1 ≤ 1; omega)
      have hone : ∀ v ∈ ([.int .i64 c, .int .u8 kind, .int .u8 so, .string q, .int .i64 z] : List Value), v.oneCell' = true := fun v hv => by
        simp only [List.mem_cons, List.not_mem_nil, or_false] at hv
        rcases hv with rfl | rfl | rfl | rfl | rfl <;> rfl
      have hpo9 := hR3.po
      rcases hbase with rfl | ⟨gr, rfl⟩ <;> (conv => lhs; whnf)
      all_goals
        repeat (first | refine go_rd hpo4 ?_ | refine go_rd hpz4 ?_ | refine go_D hD rfl ?_
                conv => lhs; whnf)
        refine (hD _).2 fun gb A5 hN => ?_
        have hN : A4.New A5 gb #[.int .i64 c, .int .u8 kind, .int .u8 so, .string q, .int .i64 z] 55 := hN
        have hrow5 := hrow.sub hN.sub
        obtain ⟨hP5, hA5⟩ := grow_at hrow5
        have hP5 := hP5 40 (by omega) hn2
        have hrd5 : A5.rd gb 0 (1 * 5) = some [.int .i64 c, .int .u8 kind, .int .u8 so, .string q, .int .i64 z] := hN.rd (o := 0) (n := 1 * 5) (by show 0 + 1 * 5 ≤ 5; omega)
        have hd5 : ∀ k, A5.blk k = none → (Arena.one A1 i).blk k = none := fun k hk => hR3.dom k (by
          cases h : A4.blk k with
          | none => rfl
          | some o => rw [hN.sub k o h] at hk; cases hk)
        conv => lhs; whnf
        refine (hD _).2 ⟨cs, [.int .i64 c, .int .u8 kind, .int .u8 so, .string q, .int .i64 z], hP5.rd, ?_, rfl, hone, by show n + 1 ≤ 9223372036854775807; omega, hP5.cap, rfl, hP5.none_, fun g' o' he' hle' _ => hP5.room 5 rfl g' o' he' hle', fun v A6 hAp => ?_⟩
        · show (if 1 * 5 = 0 then some [] else A5.rd gb 0 (1 * 5)) = _
          rw [if_neg (by omega)]; exact hrd5
        obtain ⟨hrow6, hk6⟩ := hA5 _ _ _ rfl hd5 hAp
        have hd6 : ∀ k, A6.blk k = none → A5.blk k = none := app_dom hAp
        obtain ⟨base6, cp6, rfl, _⟩ := hrow6.form
        have s45 : ∀ k o, (Arena.one A1 i).blk k = some o → A5.blk k = A4.blk k := fun k o hk => hN.other k fun e => by
          have := hR3.dom k (by rw [e]; exact hN.none_)
          rw [hk] at this; cases this
        have hk46 : ∀ k o, (Arena.one A1 i).blk k = some o → A6.blk k = A4.blk k := fun k o hk => (hk6 k o hk).trans (s45 k o hk)
        have hpo6 := hpo9.sub (A' := A6) fun o ho => by
          obtain ⟨o', ho'⟩ := hRs.old bo (by simp)
          rw [hk46 bo o' ho']; exact ho
        conv => lhs; whnf
        refine (hD _).2 ⟨hpo6.room (by show 0 + 1 ≤ 1; omega), fun A7 hP7 => ?_⟩
        have hP7 : A6.Put A7 bo 0 [.slice (addrA base6) (n + 1) cp6] := hP7
        have hpo7 : CellsAt A7 bo [.slice (addrA base6) (n + 1) cp6] := hpo6.put hP7 (by show 0 + 1 ≤ 1; omega)
        have hk47 : ∀ k o, (Arena.one A1 i).blk k = some o → k ≠ bo → A7.blk k = A4.blk k := fun k o hk hb => (hP7.other k hb).trans (hk46 k o hk)
        have hbo : ∀ k, k = t ∨ k = m ∨ k = bt ∨ k = bz → A7.blk k = A4.blk k := fun k hk => by
          obtain ⟨o', ho'⟩ := hRs.old k (by rcases hk with h | h | h | h <;> simp [h])
          refine hk47 k o' ho' ?_
          obtain ⟨e1, e2, e3, e4, e5, e6⟩ := hR.ne
          rcases hk with h | h | h | h
          · rw [h]; exact Ne.symm e4
          · rw [h]; exact e2
          · rw [h]; exact Ne.symm e5
          · rw [h]; exact Ne.symm e6
        have htop7 : A7.rd t 0 1 = some [.map (some m)] := (hR3.tower.top.sub (A' := A7) fun o ho => by rw [hbo t (by simp)]; exact ho).rd (o := 0) (n := 1) (by show 0 + 1 ≤ 1; omega)
        have hpt7 : A7.rd bt 0 1 = some [.pointer (some ⟨t, 0, none⟩)] := (hR3.pt.sub (A' := A7) fun o ho => by rw [hbo bt (by simp)]; exact ho).rd (o := 0) (n := 1) (by show 0 + 1 ≤ 1; omega)
        have hI7 : IterAt A7 i m (wL wk) (sk.map wKey ++ [wKey ⟨c, so, q⟩]) := hI3.sub fun b o hb ho => by
          rcases hb with rfl | rfl
          · obtain ⟨o', ho'⟩ := one_at A1 b
            rw [hk47 b o' ho' (Ne.symm (hold bo (by simp)))]; exact ho
          · rw [hbo b (by simp)]; exact ho
        repeat (first | refine go_rd hpt7 ?_ | refine go_rd htop7 ?_ | refine go_D hD rfl ?_
                conv => lhs; whnf)
        refine (hD _).2 ⟨by kernel_rfl, _, hI7.map, wL_alike ⟨c, so, q⟩ wk, fun A8 hM8 ho8 hIt8 => ?_⟩
        have hI8 : IterAt A8 i m (delL (wKey ⟨c, so, q⟩) (wL wk)) (sk.map wKey ++ [wKey ⟨c, so, q⟩]) := hIt8 i _ hI7
        rw [wL_del] at hI8
        have ho8 : ∀ b, b ≠ m → A8.blk b = A7.blk b := ho8
        have hd7 : ∀ k, A8.blk k = none → A4.blk k = none := fun k hk => by
          have h7 : A7.blk k = none := by
            by_cases e : k = m
            · obtain ⟨_, _, h1, _⟩ := hI8.map
              rw [e, h1] at hk; cases hk
            · rw [ho8 k e] at hk; exact hk
          have h5 := hd6 k ((hP7.dom k).1 h7)
          cases h : A4.blk k with
          | none => rfl
          | some o => rw [hN.sub k o h] at h5; cases h5
        have hW8 := hW.take hw hns hA3 hI8 (fun b o hb hX hk => by
          obtain ⟨hX1, hX2⟩ := not_or.1 hX
          have hbi : ∃ o, (Arena.one A1 i).blk b = some o := by
            by_cases e : b = i
            · rw [e]; exact one_at A1 i
            · rw [one_ne e]
              cases h : A1.blk b with
              | none => exact absurd h hX2
              | some o => exact ⟨o, rfl⟩
          obtain ⟨o', ho'⟩ := hbi
          rw [ho8 b hb, hk47 b o' ho' hX1]; exact hk) hd7 hgo
        have hrow8 : GrowR (Arena.one A1 i) A8 5 55 (n + 1) (.slice (addrA base6) (n + 1) cp6) (cs ++ [.int .i64 c, .int .u8 kind, .int .u8 so, .string q, .int .i64 z]) := hrow6.keep fun k hk => by
          have hkm : k ≠ m := fun e => by
            obtain ⟨o', ho'⟩ := hRs.old m (by simp)
            rw [e, ho'] at hk; cases hk
          have hkb : k ≠ bo := fun e => by
            obtain ⟨o', ho'⟩ := hRs.old bo (by simp)
            rw [e, ho'] at hk; cases hk
          rw [ho8 k hkm, hP7.other k hkb]
        have hR8 : RgAt (Arena.one A1 i) A8 t m bt bo bz (wk.erase ⟨c, so, q⟩) z (.slice (addrA base6) (n + 1) cp6) (rs ++ ((sk ++ [(⟨c, so, q⟩ : WatchD)]).filter g0.out).map (ringOf kind z)) := by
          obtain ⟨e1, e2, e3, e4, e5, e6⟩ := hR.ne
          rw [List.filter_append, List.filter_cons_of_pos hgo, List.filter_nil, List.map_append, ← List.append_assoc]
          refine ⟨⟨hR3.tower.top.sub fun o ho => ?_, hI8.map, hW8.nds, hR3.tower.ne⟩, hR3.pt.sub fun o ho => ?_, hpo7.sub fun o ho => ?_, hR3.pz.sub fun o ho => ?_, ?_, hRs.old, fun k hk => hR3.dom k (hd7 k hk), hR.ne⟩
          · rw [ho8 t (Ne.symm hR3.tower.ne), hbo t (by simp)]; exact ho
          · rw [ho8 bt (Ne.symm e1), hbo bt (by simp)]; exact ho
          · rw [ho8 bo (Ne.symm e2)]; exact ho
          · rw [ho8 bz (Ne.symm e3), hbo bz (by simp)]; exact ho
          · rw [List.length_append, List.flatMap_append, ← hn1, ← hcs]
            exact hrow8
        conv => lhs; whnf
        exact (hD _).2 ⟨(⟨A8, wk.erase ⟨c, so, q⟩, sk ++ [(⟨c, so, q⟩ : WatchD)], .slice (addrA base6) (n + 1) cp6⟩ : RgL), ⟨⟨hW8, hR8⟩, trivial, trivial, rfl⟩, hlt3, ⟨same1 rfl rfl, same1 rfl rfl, same1 rfl rfl, same1 rfl rfl, same1 rfl rfl, same1 rfl rfl, same1 rfl rfl, trivial⟩, trivial⟩
    · have ho : g0.out ⟨c, so, q⟩ = false := by
        show (decide (q = q) && decide (so ∈ sorts)) = false
        rw [decide_eq_false hso, Bool.and_false]
      rw [decide_eq_false hso]
      conv => lhs; whnf
      exact (hD _).2 ⟨(⟨A4, wk, sk ++ [(⟨c, so, q⟩ : WatchD)], v1⟩ : RgL), ⟨pass ho, trivial, trivial, rfl⟩, hlt3, ⟨same1 rfl rfl, same1 rfl rfl, same1 rfl rfl, same1 rfl rfl, same1 rfl rfl, same1 rfl rfl, same1 rfl rfl, trivial⟩, trivial⟩
  · obtain ⟨h1, h2⟩ := hW.all hall
    have hend : ∀ u, bellRgS.post g0 [] A u As := fun u => by
      refine ⟨v1, sk.filter g0.out, h2, ?_, fun k o hk hkm hkb => ?_, hW.dom⟩
      · show RgAt A1 As t m bt bo bz (ws.filter fun w => !g0.out w) z v1 (rs ++ (sk.filter g0.out).map (ringOf kind z))
        rw [← h1]
        exact ⟨hRs.tower, hRs.pt, hRs.po, hRs.pz, grow_less hRs.row, hR.old, fun k hk => hR.dom k (hW.dom k hk), hR.ne⟩
      · cases hA : A.blk k with
        | none =>
          have := hR.dom k hA
          rw [this] at hk; cases hk
        | some o' => exact hW.keep k o' hkm (fun h => h.elim hkb fun h => by rw [h] at hk; cases hk) hA
    conv => lhs; whnf
    exact (hD _).2 (hend (.bool false))

end
end Go.Proofs.YtfpfjobknefedaaGreatDoor

namespace Go.Proofs.YtfpfjobknefedaaGreatDoor
open Go.Sx Go.RowKit Go.Sort Go.Shelf
noncomputable section
open Classical

def srRen : Go.Shelf.Ren := ⟨fun | 6 => 51 | 15 => 65 | 14 => 68 | 28 => 84 | 29 => 85 | 20 => 86 | 21 => 87 | 22 => 88 | 23 => 89 | 24 => 90 | 25 => 91 | 26 => 92 | 27 => 93 | 46 => 112 | 47 => 108 | 48 => 109 | 49 => 113 | 50 => 114 | 57 => 121 | n => n, fun | 22 => 45 | 24 => 55 | 25 => 118 | 3 => 3 | 39 => 128 | 0 => 0 | 53 => 150 | 55 => 152 | 4 => 4 | 46 => 143 | 45 => 142 | 50 => 147 | 5 => 5 | 9 => 9 | 66 => 164 | 70 => 168 | 76 => 176 | 77 => 177 | n => n, fun | n => n⟩
theorem srLays : SlLaysF0.n6 Tryz.prog srRen where
  mixed := by kernel_rfl
  f6 := ⟨"slices.SortFunc[[]beadle/bell.Ring,beadle/bell.Ring]", by decide, Tryz.func51.trans (congrArg some (by kernel_rfl))⟩
  f14 := ⟨"slices.pdqsortCmpFunc[beadle/bell.Ring]", by decide, Tryz.func68.trans (congrArg some (by kernel_rfl))⟩
  f15 := Tryz.func65.trans (congrArg some (by kernel_rfl))
  f20 := ⟨"slices.insertionSortCmpFunc[beadle/bell.Ring]", by decide, Tryz.func86.trans (congrArg some (by kernel_rfl))⟩
  f21 := ⟨"slices.heapSortCmpFunc[beadle/bell.Ring]", by decide, Tryz.func87.trans (congrArg some (by kernel_rfl))⟩
  f22 := ⟨"slices.breakPatternsCmpFunc[beadle/bell.Ring]", by decide, Tryz.func88.trans (congrArg some (by kernel_rfl))⟩
  f23 := ⟨"slices.choosePivotCmpFunc[beadle/bell.Ring]", by decide, Tryz.func89.trans (congrArg some (by kernel_rfl))⟩
  f24 := ⟨"slices.reverseRangeCmpFunc[beadle/bell.Ring]", by decide, Tryz.func90.trans (congrArg some (by kernel_rfl))⟩
  f25 := ⟨"slices.partialInsertionSortCmpFunc[beadle/bell.Ring]", by decide, Tryz.func91.trans (congrArg some (by kernel_rfl))⟩
  f26 := ⟨"slices.partitionEqualCmpFunc[beadle/bell.Ring]", by decide, Tryz.func92.trans (congrArg some (by kernel_rfl))⟩
  f27 := ⟨"slices.partitionCmpFunc[beadle/bell.Ring]", by decide, Tryz.func93.trans (congrArg some (by kernel_rfl))⟩
  f28 := Tryz.func84.trans (congrArg some (by kernel_rfl))
  f29 := Tryz.func85.trans (congrArg some (by kernel_rfl))
  f46 := ⟨"slices.siftDownCmpFunc[beadle/bell.Ring]", by decide, Tryz.func112.trans (congrArg some (by kernel_rfl))⟩
  f47 := Tryz.func108.trans (congrArg some (by kernel_rfl))
  f48 := Tryz.func109.trans (congrArg some (by kernel_rfl))
  f49 := ⟨"slices.medianAdjacentCmpFunc[beadle/bell.Ring]", by decide, Tryz.func113.trans (congrArg some (by kernel_rfl))⟩
  f50 := ⟨"slices.medianCmpFunc[beadle/bell.Ring]", by decide, Tryz.func114.trans (congrArg some (by kernel_rfl))⟩
  f57 := ⟨"slices.order2CmpFunc[beadle/bell.Ring]", by decide, Tryz.func121.trans (congrArg some (by kernel_rfl))⟩
  t0 := Tryz.underlying0
  a0 := Tryz.isAgg0
  z0 := Tryz.sizeOf0
  v0 := Tryz.zeroValue0
  t3 := Tryz.underlying3
  a3 := Tryz.isAgg3
  z3 := Tryz.sizeOf3
  v3 := Tryz.zeroValue3
  t4 := Tryz.underlying4
  a4 := Tryz.isAgg4
  z4 := Tryz.sizeOf4
  v4 := Tryz.zeroValue4
  t5 := Tryz.underlying5
  a5 := Tryz.isAgg5
  z5 := Tryz.sizeOf5
  v5 := Tryz.zeroValue5
  t9 := Tryz.underlying9
  a9 := Tryz.isAgg9
  z9 := Tryz.sizeOf9
  v9 := Tryz.zeroValue9
  t22 := Tryz.underlying45
  a22 := Tryz.isAgg45
  z22 := Tryz.sizeOf45
  v22 := Tryz.zeroValue45
  t25 := Tryz.underlying118
  a25 := Tryz.isAgg118
  z25 := Tryz.sizeOf118
  v25 := Tryz.zeroValue118
  t39 := Tryz.underlying128
  a39 := Tryz.isAgg128
  z39 := Tryz.sizeOf128
  v39 := Tryz.zeroValue128
  t45 := Tryz.underlying142
  a45 := Tryz.isAgg142
  z45 := Tryz.sizeOf142
  v45 := Tryz.zeroValue142
  t46 := Tryz.underlying143
  a46 := Tryz.isAgg143
  z46 := Tryz.sizeOf143
  v46 := Tryz.zeroValue143
  t50 := Tryz.underlying147
  a50 := Tryz.isAgg147
  z50 := Tryz.sizeOf147
  v50 := Tryz.zeroValue147
  t53 := Tryz.underlying150
  a53 := Tryz.isAgg150
  z53 := Tryz.sizeOf150
  v53 := Tryz.zeroValue150
  t55 := Tryz.underlying152
  a55 := Tryz.isAgg152
  z55 := Tryz.sizeOf152
  v55 := Tryz.zeroValue152
  t66 := Tryz.underlying164
  a66 := Tryz.isAgg164
  z66 := Tryz.sizeOf164
  v66 := Tryz.zeroValue164
  t70 := Tryz.underlying168
  a70 := Tryz.isAgg168
  z70 := Tryz.sizeOf168
  v70 := Tryz.zeroValue168
  t76 := Tryz.underlying176
  a76 := Tryz.isAgg176
  z76 := Tryz.sizeOf176
  v76 := Tryz.zeroValue176
  t77 := Tryz.underlying177
  a77 := Tryz.isAgg177
  z77 := Tryz.sizeOf177
  v77 := Tryz.zeroValue177

instance : Inhabited WatchD := ⟨⟨0, 0, ⟨#[]⟩⟩⟩

theorem cmpI_neg {x y : Int} : cmpI x y < 0 ↔ x < y := by
  unfold cmpI
  by_cases h : x < y
  · simp [h]
  · by_cases h2 : y < x <;> simp [h, h2]

theorem cmpI_zero {x y : Int} : cmpI x y = 0 ↔ x = y := by
  unfold cmpI
  by_cases h : x < y
  · simp [h]; omega
  · by_cases h2 : y < x
    · simp [h, h2]; omega
    · simp [h, h2]; omega

theorem cmpS_neg {x y : ByteArray} : cmpS x y < 0 ↔ ltL x.data.toList y.data.toList = true := by
  unfold cmpS
  by_cases h : ltL x.data.toList y.data.toList = true
  · simp [h]
  · by_cases h2 : x = y
    · subst h2
      simp [ltL_irrefl]
    · simp [h, h2]

theorem cfR_neg (x y : WatchD) : cfR x y < 0 ↔ wLt x y := by
  unfold cfR orI wLt
  by_cases h1 : x.conn = y.conn
  · rw [if_neg (by simpa using cmpI_zero.2 h1)]
    by_cases h2 : x.sort = y.sort
    · rw [if_neg (by simpa using cmpI_zero.2 h2), cmpS_neg]
      simp [h1, h2]
    · rw [if_pos (fun e => h2 (cmpI_zero.1 e)), cmpI_neg]
      simp [h1, h2]
  · rw [if_pos (fun e => h1 (cmpI_zero.1 e)), cmpI_neg]
    simp [h1]

theorem ltOf_cfR (x y : WatchD) : ltOf cfR x y = decide (wLt x y) := by
  unfold ltOf
  exact decide_eq_decide.2 (cfR_neg x y)

theorem swo_cfR : SWO (ltOf cfR) := ⟨fun x => by
  rw [ltOf_cfR]; exact decide_eq_false (wLt_irrefl x), fun x y z h1 h2 => by
  rw [ltOf_cfR, decide_eq_true_eq] at *
  exact wLt_trans h1 h2, fun x y z h1 h2 => by
  rw [ltOf_cfR, decide_eq_false_iff_not] at *
  intro h
  by_cases e : wLt y x
  · exact h2 (wLt_trans e h)
  · have := wLt_total h1 e
    subst this
    exact h2 h⟩

def ringV : Value := .func (.func 52) #[] #[]

/-- Cells of a watch's ring. -/
def rC (k : WatchD → Int) (z : Int) (w : WatchD) : List Value := (ringOf (k w) z w).cells

theorem sortW_eq (us : List WatchD) : (us.mergeSort fun x y => !(ltOf cfR) y x) = sortW us := by
  unfold sortW
  congr 1
  funext x y
  rw [ltOf_cfR]

/-- A row of rings is sorted where it lies. -/
def sortRing0 : FSpec := ⟨Nat × (WatchD → Int) × Int × List WatchD, fun g vs A => (g.2.2.2 = [] ∧ ∃ p cap, vs = [.slice p 0 cap, ringV]) ∨
    (g.2.2.2 ≠ [] ∧ g.2.2.2.length < 4611686018427387904 ∧ A.Room g.1 0 (g.2.2.2.length * 5) ∧ A.rd g.1 0 (g.2.2.2.length * 5) = some (g.2.2.2.flatMap (rC g.2.1 g.2.2.1)) ∧ ∃ cap, vs = [.slice (some ⟨g.1, 0, none⟩) g.2.2.2.length cap, ringV]),
  fun g _ A _ A' => (g.2.2.2 = [] → A' = A) ∧ (g.2.2.2 ≠ [] → A.Put A' g.1 0 ((sortW g.2.2.2).flatMap (rC g.2.1 g.2.2.1)))⟩

theorem sortRing0_ok : FOk Tryz.prog 51 sortRing0 := by
  intro ⟨g, kf, z, ks⟩ vs A w hA hp
  refine goes_of_calls Tryz.func51 ⟨by kernel_rfl, by kernel_rfl⟩ ?_
  rcases hp with ⟨h0, p, cap, rfl⟩ | ⟨h0, hlt, ⟨c, t, fz, hb, hle, hfz⟩, hr, cap, rfl⟩
  · intro cs
    obtain ⟨e, w', fr, ⟨k1, k2⟩, k3⟩ := AnyF.slices_SortFunc_none srLays p cap ringV w cs
    subst k2
    exact ⟨e, w', fr, ⟨_, k1, A, ⟨fun _ => rfl, fun h => absurd h0 h⟩, rfl, rfl, rfl, fun _ _ _ => rfl, hA, fun k o ho => .inl ⟨o, ho⟩⟩, k3⟩
  · dsimp only at h0 hlt hle hr hb hfz
    have hw := hA _ _ hb
    have hsz : g < w.heap.size := (Array.getElem?_eq_some_iff.1 hw).1
    have hk5 : ∀ x : WatchD, (rC kf z x).length = 5 := fun _ => rfl
    have hfl := flatK_list (rC kf z) 5 hk5 (by omega) ks
    have hfs : (flatK (rC kf z) 5 ks.toArray).size = ks.length * 5 := by rw [size_flatK]; simp
    have hH : HoldsK (rC kf z) 5 w g 0 ks.toArray := fun j hj => by
      have hj' : j < ks.length * 5 := by rw [hfs] at hj; exact hj
      constructor
      · have hr' : (c.toList.drop 0).take (ks.length * 5) = ks.flatMap (rC kf z) := by
          rw [A.rdeq] at hr
          unfold rdOf at hr
          rw [hb] at hr
          simp only at hr
          rw [if_pos (by omega)] at hr
          injection hr
        have h3 : ((c.toList.drop 0).take (ks.length * 5))[j]? = (flatK (rC kf z) 5 ks.toArray).toList[j]? := by rw [hr', hfl]
        rw [List.drop_zero, List.getElem?_take, if_pos hj'] at h3
        unfold World.cell?
        rw [hw]
        simp only [Option.isSome_none, Bool.false_eq_true, if_false, Nat.zero_add]
        rw [← Array.getElem?_toList, h3, Array.getElem?_toList, Array.getElem?_eq_getElem hj, getElem!_pos (flatK (rC kf z) 5 ks.toArray) j hj]
        rfl
      · unfold World.frozen?
        rw [hw]
        have h9 := hfz.not (0 + j) (by omega)
        obtain ⟨lo, hi⟩ := fz
        dsimp only at h9 ⊢
        rw [← Bool.decide_and]
        exact decide_eq_false h9
    intro cs
    have hcon := AnyQ.slices_SortFunc_total srLays 5 Tryz.isAgg55 Tryz.sizeOf55 (rC kf z) hk5 (fun x v hv => by
      simp only [rC, RingD.cells, List.mem_cons, List.not_mem_nil, or_false] at hv
      rcases hv with rfl | rfl | rfl | rfl | rfl <;> rfl) cfR swo_cfR 52 #[] g 0 cap ks.toArray w
      (enters_of Tryz.func52 (by kernel_rfl) rfl)
      (fun m os dk _ x y => cmpRing (kf x) (kf y) z z x y _) hH hsz (by simpa using hlt) (fun x y h1 h2 => by
        rw [ltOf_cfR, decide_eq_false_iff_not] at h1 h2
        exact wLt_total h1 h2)
    rw [List.size_toArray] at hcon
    obtain ⟨e, w', fr, ⟨k1, n, os, k2⟩, k3⟩ := hcon cs
    have k2 : w' = grow (putRow id (Sort.ahead w n) g 0 (flatK (rC kf z) 5 (ks.mergeSort fun x y => !(ltOf cfR) y x).toArray)) os := k2
    rw [sortW_eq] at k2
    obtain ⟨A', hP, hM⟩ := put_moves id hA hb (by rw [size_flatK, List.size_toArray, sortW_length]; omega) k2
    rw [List.map_id, flatK_list (rC kf z) 5 hk5 (by omega)] at hP
    exact ⟨e, w', fr, ⟨_, k1, A', ⟨fun h => absurd h h0, fun _ => hP⟩, hM⟩, k3⟩

structure SrG where
  A1 : Arena
  k : WatchD → Int
  z : Int
  us : List WatchD
  v : Value

theorem rC_len (k : WatchD → Int) (z : Int) : ∀ l : List WatchD, (l.flatMap (rC k z)).length = l.length * 5
  | [] => rfl
  | x :: l => by rw [List.flatMap_cons, List.length_append, rC_len k z l, List.length_cons, Nat.succ_mul]; show 5 + _ = _; omega

/-- A row that was made by appending is sorted. -/
def sortRingS : FSpec := ⟨SrG, fun g vs A => vs = [g.v, ringV] ∧ GrowR g.A1 A 5 55 g.us.length g.v (g.us.flatMap (rC g.k g.z)) ∧ g.us.length < 4611686018427387904,
  fun g _ A _ A' => GrowR g.A1 A' 5 55 g.us.length g.v ((sortW g.us).flatMap (rC g.k g.z)) ∧ (∀ k o, g.A1.blk k = some o → A'.blk k = A.blk k) ∧ ∀ k, A'.blk k = none → A.blk k = none⟩

theorem sortRing_ok : FOk Tryz.prog 51 sortRingS := by
  intro ⟨A1, kf, z, us, v⟩ vs A w hA hp
  obtain ⟨rfl, hG, hlt⟩ : vs = [v, ringV] ∧ GrowR A1 A 5 55 us.length v (us.flatMap (rC kf z)) ∧ us.length < 4611686018427387904 := hp
  by_cases h0 : us = []
  · subst h0
    obtain ⟨base, cp, rfl, _⟩ := hG.form
    refine (sortRing0_ok (0, kf, z, []) _ A w hA (.inl ⟨rfl, _, cp, rfl⟩)).mono (fun u w' ⟨A', hq, hM⟩ => ⟨A', ?_, hM⟩) fun _ _ h => h
    obtain rfl : A' = A := hq.1 rfl
    refine ⟨?_, fun _ _ _ => rfl, fun _ h => h⟩
    show GrowR A1 A' 5 _ _ _ ((sortW []).flatMap (rC kf z))
    rw [show sortW [] = [] from List.mergeSort_nil]
    exact hG
  · obtain ⟨hl, ⟨h1, _⟩ | ⟨g, nc, c, rfl, hle, hpos, hg, hb, hsz, ht⟩⟩ := hG
    · exact absurd (List.length_eq_zero_iff.1 h1) h0
    · have h5 := Nat.mul_le_mul_right 5 hle
      refine (sortRing0_ok (g, kf, z, us) _ A w hA (.inr ⟨h0, hlt, ⟨c, _, (0, 0), hb, by show 0 + us.length * 5 ≤ _; omega, .inl rfl⟩, by show A.rd g 0 (us.length * 5) = _; rw [rd_mk hb (by omega), List.drop_zero, ht], nc, rfl⟩)).mono (fun u w' ⟨A', hq, hM⟩ => ⟨A', ?_, hM⟩) fun _ _ h => h
      have hP : A.Put A' g 0 ((sortW us).flatMap (rC kf z)) := hq.2 h0
      have hsl := rC_len kf z (sortW us)
      rw [sortW_length] at hsl
      refine ⟨⟨hsl, .inr ?_⟩, fun k o hk => hP.other k fun e => (by rw [e, hg] at hk; cases hk), fun k hk => (hP.dom k).1 hk⟩
      obtain ⟨c0, t0, fz0, c', k1, k2, k3⟩ := hP.at_
      rw [hb] at k1
      injection k1 with k1
      injection k1 with k1 k1' k1''
      subst k1; subst k1'; subst k1''
      refine ⟨g, nc, c', rfl, hle, hpos, hg, k2, ?_, ?_⟩
      · rw [← Array.length_toList, k3]
        simp only [List.length_append, List.length_take, List.length_drop, hsl, Array.length_toList]
        omega
      · rw [k3]
        simp [hsl]

end
end Go.Proofs.YtfpfjobknefedaaGreatDoor

namespace Go.Proofs.YtfpfjobknefedaaGreatDoor
open Go.Sx Go.RowKit
noncomputable section
open Classical

def alChange : TypeId → Bool := fun t => Nat.beq t 39 || (Nat.beq t 45 || Nat.beq t 31)

def bellChangeS : FSpec := ⟨TwG × DeedH × Int, fun g vs A => ∃ a1 l1 k1 a2 l2 k2 a3 l3 k3, vs = [.pointer (some ⟨g.1.t, 0, none⟩), deedV (g.2.1.cells (.slice a1 l1 k1) (.slice a2 l2 k2) (.slice a3 l3 k3)), .int .i64 g.2.2] ∧ TowerAt A g.1.t g.1.m g.1.ws ∧ WOk g.1.ws ∧ g.1.ws.length ≤ 1000000,
  fun g _ A v A' => TwTo A g.1 (unrung g.2.1.kind g.2.1.path g.1.ws) A' ∧ GrowR A A' 5 55 (chRings g.2.1.kind g.2.1.path g.2.2 g.1.ws).length v ((chRings g.2.1.kind g.2.1.path g.2.2 g.1.ws).flatMap RingD.cells)⟩

/-- Blocks that are the row's, or nobody's, are hidden. -/
def Arena.hide (A1 A A' : Arena) : Arena := Arena.of fun k => if A1.blk k = none ∧ A.blk k ≠ none then none else A'.blk k

theorem RgAt.next {A1 A A' : Arena} {t m bt bo bz : Nat} {ws : List WatchD} {z : Int} {v : Value} {rs : List RingD} (h : RgAt A1 A t m bt bo bz ws z v rs) {gs : Nat} {c : Array Value} {ty : TypeId} (hN : A.New A' gs c ty) :
    ∃ A2, RgAt A2 A' t m bt bo bz ws z v rs ∧ (∃ o, A2.blk gs = some o) ∧ ∀ k o, A1.blk k = some o → ∃ o', A2.blk k = some o' := by
  have hs := hN.sub
  have up : ∀ k o, A1.blk k = some o → ∃ o', (Arena.hide A1 A A').blk k = some o' := fun k o hk => by
    cases hA : A.blk k with
    | none => rw [h.dom k hA] at hk; cases hk
    | some o' => exact ⟨o', (if_neg (by rw [hk]; simp)).trans (hs k o' hA)⟩
  refine ⟨Arena.hide A1 A A', ⟨?_, h.pt.sub fun o ho => hs _ _ ho, h.po.sub fun o ho => hs _ _ ho, h.pz.sub fun o ho => hs _ _ ho, ?_, fun k hk => ?_, fun k hk => ?_, h.ne⟩, ⟨_, (if_neg (by rw [hN.none_]; simp)).trans hN.at_⟩, up⟩
  · exact ⟨h.tower.top.sub fun o ho => hs _ _ ho, h.tower.map.sub fun o ho => hs _ _ ho, h.tower.nd, h.tower.ne⟩
  · obtain ⟨h1, h2 | ⟨g, nc, c, h3, h4, h4', h5, h6, h7⟩⟩ := h.row
    · exact ⟨h1, .inl h2⟩
    · exact ⟨h1, .inr ⟨g, nc, c, h3, h4, h4', if_pos ⟨h5, by rw [h6]; simp⟩, hs _ _ h6, h7⟩⟩
  · obtain ⟨o, ho⟩ := h.old k hk
    exact up k o ho
  · show (if A1.blk k = none ∧ A.blk k ≠ none then none else A'.blk k) = none
    rw [hk]; simp

/-- What lay there lies there. -/
structure RgTo (A A1 Ac : Arena) (m : Nat) : Prop where
  keep : ∀ k o, A.blk k = some o → k ≠ m → Ac.blk k = some o
  kn : ∀ k o, A.blk k = some o → ∃ o', A1.blk k = some o'

theorem RgTo.call {A A1 A2 Ac Ad Ae : Arena} {m bo gs : Nat} {c : Array Value} {ty : TypeId} (h : RgTo A A1 Ac m) (hbo : A.blk bo = none) (hN : Ac.New Ad gs c ty) (hk : ∀ k o, A1.blk k = some o → ∃ o', A2.blk k = some o') (hf : ∀ k o, A2.blk k = some o → k ≠ m → k ≠ bo → Ae.blk k = Ad.blk k) : RgTo A A2 Ae m := by
  refine ⟨fun k o ho hkm => ?_, fun k o ho => ?_⟩
  · obtain ⟨o1, h1⟩ := h.kn k o ho
    obtain ⟨o2, h2⟩ := hk k o1 h1
    rw [hf k o2 h2 hkm fun e => (by rw [e, hbo] at ho; cases ho)]
    exact hN.sub k o (h.keep k o ho hkm)
  · obtain ⟨o1, h1⟩ := h.kn k o ho
    exact hk k o1 h1

theorem sorts_sl {A : Arena} {gs n : Nat} {ty : TypeId} {l : List Int} {c : Array Value} (hc : c.toList = l.map sortV) (h : A.blk gs = some (.cells c ty (0, 0))) (hn : l.length = n) :
    Sl (Arena.of fun k => if k = gs then A.blk gs else none) 1 l.length (.slice (some ⟨gs, 0, none⟩) n n) (l.map sortV) := by
  subst hn
  have hcl : c.size = l.length := by rw [← Array.length_toList, hc, List.length_map]
  refine Sl.row (Nat.le_refl _) ?_
  rw [rd_mk (c := c) (t := ty) (fz := (0, 0)) ((if_pos rfl).trans h) (by omega), List.drop_zero, hc]
  rw [List.take_of_length_le (by simp)]

def outP (p : ByteArray) (l : List Int) (w : WatchD) : Bool := decide (w.path = p) && decide (w.sort ∈ l)

/-- The closure is called. -/
theorem rg_call {A A1 Ac Ad : Arena} {t m bt bo bz gs : Nat} {ws : List WatchD} {z : Int} {v : Value} {rs : List RingD} {c : Array Value} {ty : TypeId} {n : Nat} (hR : RgAt A1 Ac t m bt bo bz ws z v rs) (hT : RgTo A A1 Ac m) (hbo : A.blk bo = none) (hN : Ac.New Ad gs c ty) (kind : Int) (p : ByteArray) (l : List Int) (hc : c.toList = l.map sortV) (hn : l.length = n) (hl : l.length ≤ 1000000) (hbig : rs.length + ws.length ≤ 1000000000) :
    ∃ g : RgG, bellRgS.pre g [.int .u8 kind, .string p, .slice (some ⟨gs, 0, none⟩) n n, .pointer (some ⟨bt, 0, none⟩), .pointer (some ⟨bo, 0, none⟩), .pointer (some ⟨bz, 0, none⟩)] Ad ∧
      ∀ vs u Ae, bellRgS.post g vs Ad u Ae → ∃ A2 v' us, List.Perm us (ws.filter (outP p l)) ∧ RgAt A2 Ae t m bt bo bz (ws.filter fun w => !outP p l w) z v' (rs ++ us.map (ringOf kind z)) ∧ RgTo A A2 Ae m := by
  obtain ⟨A2, hR2, ⟨og, hog⟩, hup⟩ := hR.next hN
  have hgb : ∀ k, k = m ∨ k = bo → gs ≠ k := fun k hk e => by
    obtain ⟨o, ho⟩ := hR.old k (by rcases hk with h | h <;> simp [h])
    rw [hR.dom k (by rw [← e]; exact hN.none_)] at ho
    cases ho
  refine ⟨⟨A2, Arena.of fun k => if k = gs then Ad.blk gs else none, t, m, bt, bo, bz, ws, z, v, rs, kind, p, l⟩, ⟨_, rfl, hR2, sorts_sl hc hN.at_ hn, hl, fun k o hk => ?_, fun k o hk => ?_, hbig⟩, fun vs u Ae hq => ?_⟩
  · have hk : (if k = gs then Ad.blk gs else none) = some o := hk
    split at hk
    · rename_i e; rw [e]; exact hk
    · cases hk
  · have hk : (if k = gs then Ad.blk gs else none) = some o := hk
    split at hk
    · rename_i e
      subst e
      exact ⟨⟨og, hog⟩, hgb m (.inl rfl), hgb bo (.inr rfl)⟩
    · cases hk
  · obtain ⟨v', us, h1, h2, h3, _⟩ := hq
    exact ⟨A2, v', us, h1, h2, hT.call hbo hN hup h3⟩

theorem filter_two {α : Type} (f g : α → Bool) : ∀ l : List α, (l.filter f ++ (l.filter fun x => !f x).filter g).Perm (l.filter fun x => f x || g x)
  | [] => .refl _
  | x :: l => by
    have ih := filter_two f g l
    cases hf : f x with
    | true =>
      rw [List.filter_cons_of_pos hf, List.filter_cons_of_neg (by simp [hf]), List.filter_cons_of_pos (by simp [hf])]
      exact ih.cons x
    | false =>
      rw [List.filter_cons_of_neg (by simp [hf]), List.filter_cons_of_pos (a := x) (p := fun x => !f x) (by simp [hf])]
      cases hg : g x with
      | true =>
        rw [List.filter_cons_of_pos hg, List.filter_cons_of_pos (by simp [hg])]
        exact List.perm_middle.trans (ih.cons x)
      | false =>
        rw [List.filter_cons_of_neg (by simp [hg]), List.filter_cons_of_neg (by simp [hf, hg])]
        exact ih

/-- What stands at the end. -/
theorem change_end {A A1 Ac Ad : Arena} {t m bt bo bz : Nat} {ws ws' us : List WatchD} {z : Int} {v : Value} {rs : List RingD} {kind : Int} {p : ByteArray} (hR : RgAt A1 Ac t m bt bo bz ws' z v rs) (h : RgTo A A1 Ac m)
    (hws : ws' = unrung kind p ws) (hus : us.Perm (rung kind p ws)) (hG : GrowR A1 Ad 5 55 us.length v ((sortW us).flatMap (rC (rungK kind p) z))) (hk : ∀ k o, A1.blk k = some o → Ad.blk k = Ac.blk k) (hd : ∀ k, Ad.blk k = none → Ac.blk k = none) :
    TwTo A ⟨t, m, ws⟩ (unrung kind p ws) Ad ∧ GrowR A Ad 5 55 (chRings kind p z ws).length v ((chRings kind p z ws).flatMap RingD.cells) := by
  subst hws
  have hk' : ∀ k, k = t ∨ k = m ∨ k = bt ∨ k = bo ∨ k = bz → Ad.blk k = Ac.blk k := fun k hk' => by
    obtain ⟨o, ho⟩ := hR.old k hk'
    exact hk k o ho
  have hdn : ∀ k, A1.blk k = none → A.blk k = none := fun k hk => by
    cases hA : A.blk k with
    | none => rfl
    | some o =>
      obtain ⟨o', ho'⟩ := h.kn k o hA
      rw [hk] at ho'; cases ho'
  refine ⟨⟨hR.tower.keep (hk' t (by simp)) (hk' m (by simp)), fun b o hb ho => ?_, fun b hb => hdn b (hR.dom b (hd b hb))⟩, ?_⟩
  · obtain ⟨o', ho'⟩ := h.kn b o ho
    rw [hk b o' ho']
    exact h.keep b o ho hb
  · have e1 : (chRings kind p z ws).flatMap RingD.cells = (sortW us).flatMap (rC (rungK kind p) z) := by
      rw [chRings, List.flatMap_map, ← sortW_of_perm hus]
      rfl
    have e2 : (chRings kind p z ws).length = us.length := by
      rw [chRings, List.length_map, sortW_length, hus.length_eq]
    rw [e1, e2]
    obtain ⟨h1, h2 | ⟨g, nc, c, h3, h4, h4', h5, h6, h7⟩⟩ := hG
    · exact ⟨h1, .inl h2⟩
    · exact ⟨h1, .inr ⟨g, nc, c, h3, h4, h4', hdn g h5, h6, h7⟩⟩

theorem two_perm {us1 us2 : List WatchD} {f g : WatchD → Bool} {ws : List WatchD} (h1 : us1.Perm (ws.filter f)) (h2 : us2.Perm ((ws.filter fun w => !f w).filter g)) {r : WatchD → Bool} (hr : ∀ w ∈ ws, (f w || g w) = r w) : (us1 ++ us2).Perm (ws.filter r) := by
  rw [← List.filter_congr hr]
  exact (h1.append h2).trans (filter_two f g ws)

theorem two_left {f g : WatchD → Bool} {ws : List WatchD} {r : WatchD → Bool} (hr : ∀ w ∈ ws, (f w || g w) = !r w) : ((ws.filter fun w => !f w).filter fun w => !g w) = ws.filter r := by
  rw [List.filter_filter]
  refine List.filter_congr fun w hw => ?_
  have := hr w hw
  cases hf : f w <;> cases hg : g w <;> cases hr2 : r w <;> simp_all

theorem rings_of {us : List WatchD} {k : Int} {z : Int} {kf : WatchD → Int} (h : ∀ w ∈ us, kf w = k) : (us.map (ringOf k z)).flatMap RingD.cells = us.flatMap (rC kf z) := by
  rw [List.flatMap_map]
  induction us with
  | nil => rfl
  | cons x us ih =>
    rw [List.flatMap_cons, List.flatMap_cons, ih fun w hw => h w (List.mem_cons_of_mem _ hw)]
    unfold rC
    rw [h x (by simp)]

theorem rung_one {p : ByteArray} {w : WatchD} : (outP p [2] w || outP (parentP p) [3] w) = !decide (rungK 1 p w = 0) := by
  unfold outP rungK
  by_cases h1 : w.path = p <;> by_cases h2 : w.sort = 2 <;> by_cases h3 : w.sort = 3 <;> by_cases h4 : w.path = parentP p <;> simp_all

theorem rung_two {p : ByteArray} {w : WatchD} (h : 1 ≤ w.sort ∧ w.sort ≤ 3) : (outP p [1, 2, 3] w || outP (parentP p) [3] w) = !decide (rungK 2 p w = 0) := by
  unfold outP rungK
  have h5 : w.sort = 1 ∨ w.sort = 2 ∨ w.sort = 3 := by omega
  by_cases h1 : w.path = p <;> by_cases h4 : w.path = parentP p <;> rcases h5 with h5 | h5 | h5 <;> simp_all

theorem rung_three {p : ByteArray} {w : WatchD} (h : 1 ≤ w.sort ∧ w.sort ≤ 3) : outP p [1, 2] w = !decide (rungK 3 p w = 0) := by
  unfold outP rungK
  have h5 : w.sort = 1 ∨ w.sort = 2 ∨ w.sort = 3 := by omega
  by_cases h1 : w.path = p <;> rcases h5 with h5 | h5 | h5 <;> simp_all

theorem kind_one {p : ByteArray} {w : WatchD} (h : outP p [2] w = true) : rungK 1 p w = 1 := by
  unfold outP at h
  unfold rungK
  simp_all

theorem kind_one2 {p : ByteArray} {w : WatchD} (h : outP (parentP p) [3] w = true) : rungK 1 p w = 4 := by
  unfold outP at h
  unfold rungK
  simp only [List.mem_singleton, Bool.and_eq_true, decide_eq_true_eq] at h
  rw [if_pos rfl, if_neg (by omega), if_pos ⟨h.2, h.1⟩]

theorem kind_two {p : ByteArray} {w : WatchD} (h : outP p [1, 2, 3] w = true) : rungK 2 p w = 2 := by
  unfold outP at h
  unfold rungK
  simp_all

theorem kind_two2 {p : ByteArray} {w : WatchD} (h0 : outP p [1, 2, 3] w = false) (h : outP (parentP p) [3] w = true) : rungK 2 p w = 4 := by
  unfold outP at h h0
  unfold rungK
  simp only [List.mem_singleton, Bool.and_eq_true, decide_eq_true_eq] at h
  have h1 : ¬ w.path = p := fun e => by
    rw [decide_eq_true e, decide_eq_true (by simp [h.2])] at h0
    cases h0
  rw [if_neg (by omega), if_pos rfl, if_neg h1, if_pos ⟨h.2, h.1⟩]

theorem kind_three {p : ByteArray} {w : WatchD} (h : outP p [1, 2] w = true) : rungK 3 p w = 3 := by
  unfold outP at h
  unfold rungK
  simp only [List.mem_cons, List.not_mem_nil, or_false, Bool.and_eq_true, decide_eq_true_eq] at h
  rw [if_neg (by omega), if_neg (by omega), if_pos rfl, if_pos ⟨h.1, by omega⟩]

/-- All is rung: what is left is the sort. -/
theorem tail_ready {A A1 Ac : Arena} {t m bt bo bz : Nat} {ws ws' us : List WatchD} {z : Int} {v : Value} {rs : List RingD} {kind : Int} {p : ByteArray} (hl : ws.length ≤ 1000000) (hR : RgAt A1 Ac t m bt bo bz ws' z v rs) (h : RgTo A A1 Ac m)
    (hws : ws' = unrung kind p ws) (hus : us.Perm (rung kind p ws)) (hlen : rs.length = us.length) (hcel : rs.flatMap RingD.cells = us.flatMap (rC (rungK kind p) z)) :
    ∃ n base cp, v = .slice (addrA base) n cp ∧ (base = none ∨ ∃ g, base = some (g, 0)) ∧ Ac.rd bo 0 1 = some [.slice (addrA base) n cp] ∧ ∃ g : SrG, sortRingS.pre g [.slice (addrA base) n cp, ringV] Ac ∧
      ∀ vs u Ad, sortRingS.post g vs Ac u Ad → Ad.rd bo 0 1 = some [.slice (addrA base) n cp] ∧
        (TwTo A ⟨t, m, ws⟩ (unrung kind p ws) Ad ∧ GrowR A Ad 5 55 (chRings kind p z ws).length (.slice (addrA base) n cp) ((chRings kind p z ws).flatMap RingD.cells)) := by
  have hrow := hR.row
  rw [hlen, hcel] at hrow
  obtain ⟨base, cp, rfl, hb, _⟩ := hrow.form
  have hle : us.length ≤ 1000000 := by
    have h1 := hus.length_eq
    have h2 : (rung kind p ws).length ≤ ws.length := List.length_filter_le _ _
    omega
  refine ⟨us.length, base, cp, rfl, hb, hR.po.rd (o := 0) (n := 1) (by show 0 + 1 ≤ 1; omega), ⟨A1, rungK kind p, z, us, .slice (addrA base) us.length cp⟩, ⟨rfl, hrow, by show us.length < _; omega⟩, fun vs u Ad hq => ?_⟩
  obtain ⟨k1, k2, k3⟩ := hq
  obtain ⟨o9, ho9⟩ := hR.old bo (by simp)
  exact ⟨(hR.po.sub (A' := Ad) fun o ho => by rw [k2 bo o9 ho9]; exact ho).rd (o := 0) (n := 1) (by show 0 + 1 ≤ 1; omega), change_end hR h hws hus k1 k2 k3⟩

set_option maxRecDepth 100000 in
set_option maxHeartbeats 0 in
theorem bellChange_ok : FOk Tryz.prog 28 bellChangeS := by
  refine fok_a mixed alChange fun ⟨⟨t, m, ws⟩, h, z⟩ vs A hp => ?_
  obtain ⟨a1, l1, k1, a2, l2, k2, a3, l3, k3, rfl, hT, hok, hlen⟩ : ∃ a1 l1 k1 a2 l2 k2 a3 l3 k3, vs = [.pointer (some ⟨t, 0, none⟩), deedV (h.cells (.slice a1 l1 k1) (.slice a2 l2 k2) (.slice a3 l3 k3)), .int .i64 z] ∧ TowerAt A t m ws ∧ WOk ws ∧ ws.length ≤ 1000000 := hp
  have hC : CTSound Tryz.prog (lookC [specE 49 bellRgS, specE 51 sortRingS, specE 33 parentS] noC) := lookC_sound (noC_sound _) (fun x hx => by
    simp only [List.mem_cons, List.not_mem_nil, or_false] at hx
    rcases hx with rfl | rfl | rfl
    · exact specE_ok bellRg_ok
    · exact specE_ok sortRing_ok
    · exact specE_ok parent_ok)
  obtain ⟨zxid, kind, ses, turn, xid, time, path, data, owner, ver, cver, tmo, err, cfg, mem⟩ := h
  refine ⟨_, noL, 60, hC, noL_sound _, fun blk os out tape D hD => ?_⟩
  conv => lhs; whnf
  refine (hD _).2 fun bt A1 hN1 => ?_
  have hN1 : A.New A1 bt #[.pointer (some ⟨t, 0, none⟩)] 39 := hN1
  conv => lhs; whnf
  refine (hD _).2 fun bz A2 hN2 => ?_
  have hN2 : A1.New A2 bz #[.int .i64 z] 31 := hN2
  conv => lhs; whnf
  refine (hD _).2 fun bo A3 hN3 => ?_
  have hN3 : A2.New A3 bo #[.slice none 0 0] 45 := hN3
  have hneq : ∀ {X : Arena} {a b : Nat} {o : Obj}, X.blk a = some o → X.blk b = none → a ≠ b := fun h1 h2 e => by rw [e, h2] at h1; cases h1
  obtain ⟨ot, hot⟩ := hT.top.dom
  obtain ⟨em, cm, hom, _⟩ := hT.map
  have s1 := hN1.sub
  have s2 := s1.trans hN2.sub
  have s3 := s2.trans hN3.sub
  have hbo : A.blk bo = none := by
    cases h : A.blk bo with
    | none => rfl
    | some o => have := hN3.none_; rw [s2 _ _ h] at this; cases this
  have hR0 : RgAt A3 A3 t m bt bo bz ws z (.slice none 0 0) [] := by
    refine ⟨⟨hT.top.sub fun o ho => s3 _ _ ho, hT.map.sub fun o ho => s3 _ _ ho, hT.nd, hT.ne⟩, (CellsAt.new hN1).sub fun o ho => hN3.sub _ _ (hN2.sub _ _ ho), CellsAt.new hN3, (CellsAt.new hN2).sub fun o ho => hN3.sub _ _ ho, GrowR.nil _ _ _ _, fun k hk => ?_, fun _ h => h, ?_⟩
    · rcases hk with rfl | rfl | rfl | rfl | rfl
      · exact ⟨_, s3 _ _ hot⟩
      · exact ⟨_, s3 _ _ hom⟩
      · exact ⟨_, hN3.sub _ _ (hN2.sub _ _ hN1.at_)⟩
      · exact ⟨_, hN3.at_⟩
      · exact ⟨_, hN3.sub _ _ hN2.at_⟩
    · exact ⟨hneq hom hN1.none_, hneq (s2 _ _ hom) hN3.none_, hneq (s1 _ _ hom) hN2.none_, (hneq (s2 _ _ hot) hN3.none_).symm, (hneq (hN2.sub _ _ hN1.at_) hN3.none_).symm, (hneq hN2.at_ hN3.none_).symm⟩
  have hT0 : RgTo A A3 A3 m := ⟨fun k o ho _ => s3 k o ho, fun k o ho => ⟨o, s3 k o ho⟩⟩
  conv => lhs; whnf
  refine split_dec (fun h1 => ?_) (fun h1 => ?_)
  · obtain rfl : kind = 1 := h1
    conv => lhs; whnf
    refine (hD _).2 fun gs A4 hN4 => ?_
    have hN4 : A3.New A4 gs #[.int .u8 2] 28 := hN4
    obtain ⟨g1, hp1, hq1⟩ := rg_call hR0 hT0 hbo hN4 1 path [2] rfl rfl (by decide) (by show 0 + ws.length ≤ _; omega)
    conv => lhs; whnf
    refine (hD _).2 ⟨g1, hp1, fun u A5 hq => ?_⟩
    obtain ⟨E5, v5, us1, hu1, hR5, hT5⟩ := hq1 _ u A5 hq
    conv => lhs; whnf
    refine (hD _).2 ⟨path, rfl, fun u A6 hq => ?_⟩
    obtain ⟨h6, hv⟩ : A6 = A5 ∧ u = .string (parentP path) := hq
    subst h6; subst hv
    conv => lhs; whnf
    refine (hD _).2 fun gs2 A7 hN7 => ?_
    have hN7 : A6.New A7 gs2 #[.int .u8 3] 28 := hN7
    have hbig7 : ([] ++ us1.map (ringOf 1 z)).length + (ws.filter fun w => !outP path [2] w).length ≤ 1000000000 := by
      have h1 := hu1.length_eq
      have h2 := List.length_filter_le (outP path [2]) ws
      have h3 := List.length_filter_le (fun w => !outP path [2] w) ws
      rw [List.nil_append, List.length_map]
      omega
    obtain ⟨g2, hp2, hq2⟩ := rg_call hR5 hT5 hbo hN7 4 (parentP path) [3] rfl rfl (by decide) hbig7
    conv => lhs; whnf
    refine (hD _).2 ⟨g2, hp2, fun u A8 hq => ?_⟩
    obtain ⟨E8, v8, us2, hu2, hR8, hT8⟩ := hq2 _ u A8 hq
    have hcel : (([] ++ us1.map (ringOf 1 z)) ++ us2.map (ringOf 4 z)).flatMap RingD.cells = (us1 ++ us2).flatMap (rC (rungK 1 path) z) := by
      rw [List.nil_append, List.flatMap_append, List.flatMap_append, rings_of (kf := rungK 1 path) fun w hw => ?_, rings_of (kf := rungK 1 path) fun w hw => ?_]
      · exact kind_one2 (List.mem_filter.1 (hu2.mem_iff.1 hw)).2
      · exact kind_one (List.mem_filter.1 (hu1.mem_iff.1 hw)).2
    obtain ⟨n9, base9, cp9, rfl, hb9, hrd9, g9, hp9, hq9⟩ := tail_ready hlen hR8 hT8 (two_left fun _ _ => rung_one) (two_perm hu1 hu2 fun _ _ => rung_one) (by simp) hcel
    rcases hb9 with rfl | ⟨gr9, rfl⟩ <;> (conv => lhs; whnf)
    all_goals
      repeat (first | refine go_rd hrd9 ?_ | refine go_D hD rfl ?_
              conv => lhs; whnf)
      refine (hD _).2 ⟨g9, hp9, fun u A9 hq => ?_⟩
      obtain ⟨hrd0, hend⟩ := hq9 _ u A9 hq
      conv => lhs; whnf
      repeat (first | refine go_rd hrd0 ?_ | refine go_D hD rfl ?_
              conv => lhs; whnf)
      exact (hD _).2 hend
  · conv => lhs; whnf
    refine split_dec (fun h2 => ?_) (fun h2 => ?_)
    · obtain rfl : kind = 2 := h2
      conv => lhs; whnf
      refine (hD _).2 fun gs A4 hN4 => ?_
      have hN4 : A3.New A4 gs #[.int .u8 1, .int .u8 2, .int .u8 3] 28 := hN4
      obtain ⟨g1, hp1, hq1⟩ := rg_call hR0 hT0 hbo hN4 2 path [1, 2, 3] rfl rfl (by decide) (by show 0 + ws.length ≤ _; omega)
      conv => lhs; whnf
      refine (hD _).2 ⟨g1, hp1, fun u A5 hq => ?_⟩
      obtain ⟨E5, v5, us1, hu1, hR5, hT5⟩ := hq1 _ u A5 hq
      conv => lhs; whnf
      refine (hD _).2 ⟨path, rfl, fun u A6 hq => ?_⟩
      obtain ⟨h6, hv⟩ : A6 = A5 ∧ u = .string (parentP path) := hq
      subst h6; subst hv
      conv => lhs; whnf
      refine (hD _).2 fun gs2 A7 hN7 => ?_
      have hN7 : A6.New A7 gs2 #[.int .u8 3] 28 := hN7
      have hbig7 : ([] ++ us1.map (ringOf 2 z)).length + (ws.filter fun w => !outP path [1, 2, 3] w).length ≤ 1000000000 := by
        have h1 := hu1.length_eq
        have h2 := List.length_filter_le (outP path [1, 2, 3]) ws
        have h3 := List.length_filter_le (fun w => !outP path [1, 2, 3] w) ws
        rw [List.nil_append, List.length_map]
        omega
      obtain ⟨g2, hp2, hq2⟩ := rg_call hR5 hT5 hbo hN7 4 (parentP path) [3] rfl rfl (by decide) hbig7
      conv => lhs; whnf
      refine (hD _).2 ⟨g2, hp2, fun u A8 hq => ?_⟩
      obtain ⟨E8, v8, us2, hu2, hR8, hT8⟩ := hq2 _ u A8 hq
      have hcel : (([] ++ us1.map (ringOf 2 z)) ++ us2.map (ringOf 4 z)).flatMap RingD.cells = (us1 ++ us2).flatMap (rC (rungK 2 path) z) := by
        rw [List.nil_append, List.flatMap_append, List.flatMap_append, rings_of (kf := rungK 2 path) fun w hw => ?_, rings_of (kf := rungK 2 path) fun w hw => ?_]
        · have h2 := List.mem_filter.1 (hu2.mem_iff.1 hw)
          exact kind_two2 (by simpa using (List.mem_filter.1 h2.1).2) h2.2
        · exact kind_two (List.mem_filter.1 (hu1.mem_iff.1 hw)).2
      obtain ⟨n9, base9, cp9, rfl, hb9, hrd9, g9, hp9, hq9⟩ := tail_ready hlen hR8 hT8 (two_left fun w hw => rung_two (hok w hw)) (two_perm hu1 hu2 fun w hw => rung_two (hok w hw)) (by simp) hcel
      rcases hb9 with rfl | ⟨gr9, rfl⟩ <;> (conv => lhs; whnf)
      all_goals
        repeat (first | refine go_rd hrd9 ?_ | refine go_D hD rfl ?_
                conv => lhs; whnf)
        refine (hD _).2 ⟨g9, hp9, fun u A9 hq => ?_⟩
        obtain ⟨hrd0, hend⟩ := hq9 _ u A9 hq
        conv => lhs; whnf
        repeat (first | refine go_rd hrd0 ?_ | refine go_D hD rfl ?_
                conv => lhs; whnf)
        exact (hD _).2 hend
    · conv => lhs; whnf
      refine split_dec (fun h3 => ?_) (fun h3 => ?_)
      · obtain rfl : kind = 3 := h3
        conv => lhs; whnf
        refine (hD _).2 fun gs A4 hN4 => ?_
        have hN4 : A3.New A4 gs #[.int .u8 1, .int .u8 2] 28 := hN4
        obtain ⟨g1, hp1, hq1⟩ := rg_call hR0 hT0 hbo hN4 3 path [1, 2] rfl rfl (by decide) (by show 0 + ws.length ≤ _; omega)
        conv => lhs; whnf
        refine (hD _).2 ⟨g1, hp1, fun u A5 hq => ?_⟩
        obtain ⟨E5, v5, us1, hu1, hR5, hT5⟩ := hq1 _ u A5 hq
        have hcel : ([] ++ us1.map (ringOf 3 z)).flatMap RingD.cells = us1.flatMap (rC (rungK 3 path) z) := by
          rw [List.nil_append, rings_of (kf := rungK 3 path) fun w hw => ?_]
          exact kind_three (List.mem_filter.1 (hu1.mem_iff.1 hw)).2
        have hus : us1.Perm (rung 3 path ws) := by
          unfold rung
          rw [← List.filter_congr fun w hw => rung_three (hok w hw)]
          exact hu1
        have hws : (ws.filter fun w => !outP path [1, 2] w) = unrung 3 path ws := List.filter_congr fun w hw => by rw [rung_three (hok w hw), Bool.not_not]
        obtain ⟨n9, base9, cp9, rfl, hb9, hrd9, g9, hp9, hq9⟩ := tail_ready hlen hR5 hT5 hws hus (by simp) hcel
        rcases hb9 with rfl | ⟨gr9, rfl⟩ <;> (conv => lhs; whnf)
        all_goals
          repeat (first | refine go_rd hrd9 ?_ | refine go_D hD rfl ?_
                  conv => lhs; whnf)
          refine (hD _).2 ⟨g9, hp9, fun u A9 hq => ?_⟩
          obtain ⟨hrd0, hend⟩ := hq9 _ u A9 hq
          conv => lhs; whnf
          repeat (first | refine go_rd hrd0 ?_ | refine go_D hD rfl ?_
                  conv => lhs; whnf)
          exact (hD _).2 hend
      · have hk : ∀ w, rungK kind path w = 0 := fun w => by
          unfold rungK
          rw [if_neg h1, if_neg h2, if_neg h3]
        have hws : ws = unrung kind path ws := (List.filter_eq_self.2 fun w _ => decide_eq_true (hk w)).symm
        have hus : List.Perm [] (rung kind path ws) := by
          have : rung kind path ws = [] := List.filter_eq_nil_iff.2 fun w _ => by rw [decide_eq_true (hk w)]; simp
          rw [this]
        obtain ⟨n9, base9, cp9, e9, hb9, hrd9, g9, hp9, hq9⟩ := tail_ready hlen hR0 hT0 hws hus rfl rfl
        injection e9 with e1 e2 e3
        obtain rfl : base9 = none := (addrA_inj (a := none) e1).symm
        subst e2; subst e3
        clear hb9
        conv => lhs; whnf
        repeat (first | refine go_rd hrd9 ?_ | refine go_D hD rfl ?_
                conv => lhs; whnf)
        refine (hD _).2 ⟨g9, hp9, fun u A9 hq => ?_⟩
        obtain ⟨hrd0, hend⟩ := hq9 _ u A9 hq
        conv => lhs; whnf
        repeat (first | refine go_rd hrd0 ?_ | refine go_D hD rfl ?_
                conv => lhs; whnf)
        exact (hD _).2 hend

end
end Go.Proofs.YtfpfjobknefedaaGreatDoor

namespace Go.Sx
noncomputable section

/-- What an append of m elements to it asks. -/
structure GrowM (A : Arena) (base : Option (Nat × Nat)) (n m c es bytes : Nat) (cs : List Value) : Prop where
  rd : baseRd A base (n * es) = some cs
  cap : c < n + m → Builtin.nextslicecap (n + m) c * bytes ≤ 281474976710656
  none_ : base = none → n = 0 ∧ c = 0
  room : ∀ (k : Nat), k = m * es → ∀ g o, base = some (g, o) → n + m ≤ c → A.Room g (o + n * es) k

theorem GrowR.formN {A1 A : Arena} {es : Nat} {e : TypeId} {n : Nat} {v : Value} {cs : List Value} (h : GrowR A1 A es e n v cs) :
    ∃ base c, v = .slice (addrA base) n c ∧ (base = none ∨ ∃ g, base = some (g, 0)) ∧ (∀ m bytes, bytes ≤ 65536 → n + m ≤ 1000000000 → GrowM A base n m c es bytes cs) ∧
    ∀ m ys v' A', ys.length = m * es → (∀ k, A.blk k = none → A1.blk k = none) → Appended A base n c es e cs ys m v' A' → GrowR A1 A' es e (n + m) v' (cs ++ ys) ∧ ∀ k o, A1.blk k = some o → A'.blk k = A.blk k := by
  obtain ⟨hl, ⟨rfl, rfl⟩ | ⟨g, nc, c, rfl, hn, hpos, hg, hb, hsz, ht⟩⟩ := h
  · have hcs : cs = [] := List.length_eq_zero_iff.1 (by rw [hl]; simp)
    subst hcs
    refine ⟨none, 0, rfl, .inl rfl, fun m bytes hby hn => ⟨by simp [baseRd], fun h => ?_, fun _ => ⟨rfl, rfl⟩, fun _ _ _ _ h => (by cases h)⟩, fun m ys v' A' hy hd ha => ?_⟩
    · have := nextcap_le h
      calc _ ≤ (2 * (0 + m) + 768) * 65536 := Nat.mul_le_mul this hby
        _ ≤ _ := by omega
    · rcases ha with ⟨h0, rfl, h3⟩ | ⟨hlt, g, nc, c, zs, rfl, hnc, hc, hz, hN⟩
      · have hm : m = 0 := by omega
        subst hm
        have hys : ys = [] := List.length_eq_zero_iff.1 (by rw [hy]; simp)
        subst hys
        rcases h3 with ⟨_, rfl⟩ | ⟨g, o, h, _⟩
        · exact ⟨GrowR.nil _ _ _ _, fun _ _ _ => rfl⟩
        · cases h
      · refine ⟨⟨by simp [hy], .inr ⟨g, nc, c, rfl, hnc, by omega, hd g hN.none_, hN.at_, ?_, ?_⟩⟩, fun k o hk => hN.other k fun e => (by subst e; rw [hd _ hN.none_] at hk; cases hk)⟩
        · rw [← Array.length_toList, hc]
          simp only [List.nil_append, List.length_append, hy, hz, Nat.zero_add]
          rw [← Nat.add_mul]; congr 1; omega
        · rw [hc, Nat.zero_add, List.nil_append, List.take_append_of_le_length (by omega), List.take_of_length_le (by omega)]
  · have hle : n * es ≤ nc * es := Nat.mul_le_mul_right _ hn
    refine ⟨some (g, 0), nc, rfl, .inr ⟨g, rfl⟩, fun m bytes hby hnb => ⟨?_, fun h => ?_, fun h => (by cases h), fun k hk g' o' h hlt => ?_⟩, fun m ys v' A' hy hd ha => ?_⟩
    · show (if n * es = 0 then some [] else A.rd g 0 (n * es)) = some cs
      by_cases h0 : n * es = 0
      · rw [if_pos h0]
        rw [h0] at hl; rw [List.length_eq_zero_iff.1 hl]
      · rw [if_neg h0, rd_mk hb (by omega)]; simp [ht]
    · have := nextcap_le h
      calc _ ≤ (2 * (n + m) + 768) * 65536 := Nat.mul_le_mul this hby
        _ ≤ _ := by omega
    · injection h with h; injection h with h1 h2; subst h1; subst h2; subst hk
      refine ⟨c, e, (0, 0), hb, ?_, .inl rfl⟩
      have := Nat.mul_le_mul_right es hlt
      rw [Nat.add_mul] at this; omega
    · rcases ha with ⟨h0, rfl, h3⟩ | ⟨h0, g', nc', c', zs, rfl, hnc, hc, hz, hN⟩
      · obtain ⟨c', k1, k2, k3⟩ : ∃ c', A'.blk g = some (.cells c' e (0, 0)) ∧ (∀ k, k ≠ g → A'.blk k = A.blk k) ∧ c'.toList = c.toList.take (n * es) ++ ys ++ c.toList.drop (n * es + ys.length) := by
          rcases h3 with ⟨rfl, rfl⟩ | ⟨g', o', h, hP⟩
          · exact ⟨c, hb, fun _ _ => rfl, by simp⟩
          · injection h with h; injection h with h1 h2; subst h1; subst h2
            obtain ⟨c0, t0, fz0, c', k1, k2, k3⟩ := hP.at_
            rw [hb] at k1
            injection k1 with k1; injection k1 with k1 k1' k1''
            subst k1; subst k1'; subst k1''
            exact ⟨c', k2, hP.other, by rw [k3]; simp⟩
        have hlen : n * es + m * es ≤ nc * es := by rw [← Nat.add_mul]; exact Nat.mul_le_mul_right _ h0
        have hcl : (cs ++ ys).length = (n + m) * es := by rw [List.length_append, hl, hy, Nat.add_mul]
        refine ⟨⟨hcl, .inr ⟨g, nc, c', rfl, h0, hpos, hg, k1, ?_, ?_⟩⟩, fun k o hk => k2 k fun e => (by subst e; rw [hg] at hk; cases hk)⟩
        · rw [← Array.length_toList, k3]
          simp only [List.length_append, List.length_take, List.length_drop, Array.length_toList, hsz, hy]
          omega
        · rw [k3, ht, List.take_append_of_le_length (by omega), List.take_of_length_le (by omega)]
      · have hcl : (cs ++ ys).length = (n + m) * es := by rw [List.length_append, hl, hy, Nat.add_mul]
        refine ⟨⟨hcl, .inr ⟨g', nc', c', rfl, hnc, by omega, hd g' hN.none_, hN.at_, ?_, ?_⟩⟩, fun k o hk => hN.other k fun e => (by subst e; rw [hd _ hN.none_] at hk; cases hk)⟩
        · rw [← Array.length_toList, hc]
          simp only [List.length_append, hl, hy, hz]
          rw [← Nat.add_mul, ← Nat.add_mul]; congr 1; omega
        · rw [hc, List.take_append_of_le_length (by omega), List.take_of_length_le (by omega)]

theorem addrA_inj {b b' : Option (Nat × Nat)} (h : addrA b = addrA b') : b = b' := by
  cases b with
  | none => cases b' with
    | none => rfl
    | some y => cases h
  | some x => cases b' with
    | none => cases h
    | some y =>
      obtain ⟨g, o⟩ := x
      obtain ⟨g', o'⟩ := y
      injection h with h
      injection h with h1 h2
      rw [h1, h2]

/-- The same, where the slice is spelled out. -/
theorem GrowR.formB {A1 A : Arena} {es : Nat} {e : TypeId} {n c : Nat} {base : Option (Nat × Nat)} {cs : List Value} (h : GrowR A1 A es e n (.slice (addrA base) n c) cs) :
    (∀ m bytes, bytes ≤ 65536 → n + m ≤ 1000000000 → GrowM A base n m c es bytes cs) ∧
    ∀ m ys v' A', ys.length = m * es → (∀ k, A.blk k = none → A1.blk k = none) → Appended A base n c es e cs ys m v' A' → GrowR A1 A' es e (n + m) v' (cs ++ ys) ∧ ∀ k o, A1.blk k = some o → A'.blk k = A.blk k := by
  obtain ⟨b', c', hv, _, h1, h2⟩ := h.formN
  injection hv with hv1 hv2 hv3
  have e := addrA_inj hv1
  subst e; subst hv3
  exact ⟨h1, h2⟩

theorem GrowR.cap_le {A1 A : Arena} {es : Nat} {e : TypeId} {n m c : Nat} {ao : Option Addr} {cs : List Value} (h : GrowR A1 A es e n (.slice ao m c) cs) : n ≤ c := by
  obtain ⟨_, ⟨rfl, h⟩ | ⟨g, nc, _, h, hn, _⟩⟩ := h
  · omega
  · injection h with h1 h2 h3
    omega

/-- What lies at the front of a row. -/
theorem src_take {A : Arena} {g o n q : Nat} {α : Type} {f : α → Value} {l : List α} (h : A.rd g 0 (n * 1) = some (l.map f)) (hq : q ≤ n) (ho : o = 0) : (if q = 0 then some [] else A.rd g o (q * 1)) = some ((l.take q).map f) := by
  subst ho
  by_cases h0 : q = 0
  · rw [if_pos h0, h0, List.take_zero]; rfl
  · rw [if_neg h0]
    have := rd_at h (i := 0) (m := q * 1) (by omega)
    rw [Nat.add_zero, List.drop_zero, Nat.mul_one, ← List.map_take] at this
    rw [Nat.mul_one]
    exact this

/-- What lies behind. -/
theorem src_drop {A : Arena} {g o n q : Nat} {α : Type} {f : α → Value} {l : List α} (h : A.rd g 0 (n * 1) = some (l.map f)) (hn : n = l.length) (ho : q < n → o = q) : (if n - q = 0 then some [] else A.rd g o ((n - q) * 1)) = some ((l.drop q).map f) := by
  by_cases h0 : n - q = 0
  · rw [if_pos h0, List.drop_eq_nil_of_le (by omega)]; rfl
  · rw [if_neg h0, ho (by omega)]
    have := rd_at h (i := q) (m := (n - q) * 1) (by omega)
    rw [Nat.zero_add] at this
    rw [this, ← List.map_drop, List.take_of_length_le (by rw [List.length_map, List.length_drop]; omega)]

/-- A row made by append, as a slice. -/
theorem GrowR.sl {A1 A : Arena} {es : Nat} {e : TypeId} {n : Nat} {v : Value} {cs : List Value} (h : GrowR A1 A es e n v cs) : Sl A es n v cs := by
  obtain ⟨h1, ⟨rfl, rfl⟩ | ⟨g, nc, c, rfl, h4, h4', h5, h6, h7, h8⟩⟩ := h
  · have hc : cs = [] := List.length_eq_zero_iff.1 (by rw [h1]; simp)
    subst hc
    exact Sl.nil _ _
  · have hle : n * es ≤ nc * es := Nat.mul_le_mul_right _ h4
    refine Sl.row h4 ?_
    rw [rd_mk h6 (by omega), List.drop_zero, h8]

end
end Go.Sx
