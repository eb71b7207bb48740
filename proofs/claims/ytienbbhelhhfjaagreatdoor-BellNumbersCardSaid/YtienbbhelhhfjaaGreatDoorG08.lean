/-
  Walks over maps of the arena: what was met, what is left.
  Walks over a tower's map that take some of its watches away.
  Contracts: slices.Contains at sorts of watches.
  Contracts: bell: the closure that rings for a change's own path, for its parent.
  Contracts: slices.SortFunc at rings, by the kit's law of it over any program.
  Members as plain data.
  Deeds as plain data; what it means that cells of an arena read as one.
  Contracts: bell: change.
  Contracts: may a config be?
  Is a deed right? The words.
-/
import Derived.Test.YtienbbhelhhfjaaGreatDoorG07
import Derived.Test.YtienbbhelhhfjaaGreatDoorG06
namespace Go.Sx
noncomputable section

theorem nodup_sub_len {α : Type} : ∀ {l k : List α}, l.Nodup → (∀ x ∈ l, x ∈ k) → l.length ≤ k.length
  | [], _, _, _ => Nat.zero_le _
  | x :: xs, k, hn, hs => by
    rw [List.nodup_cons] at hn
    obtain ⟨a, b, rfl⟩ := List.append_of_mem (hs x (by simp))
    have := nodup_sub_len (k := a ++ b) hn.2 fun y hy => (by
      have := hs y (List.mem_cons_of_mem _ hy)
      simp only [List.mem_append, List.mem_cons] at this ⊢
      rcases this with h | rfl | h
      · exact .inl h
      · exact absurd hy hn.1
      · exact .inr h)
    simp only [List.length_append, List.length_cons] at this ⊢
    omega

theorem keys_nodup {κ α : Type} {l : List (κ × α)} (h : (l.map (·.1)).Nodup) : l.Nodup :=
  (List.pairwise_map.1 h).imp fun hab e => hab (by rw [e])

/-- A walk over the map in block m, whose entries are l: those of sk were met. -/
structure MWalk {κ α : Type} (kv : κ → Value) (f : α → Value) (A A1 As : Arena) (i m : Nat) (l sk : List (κ × α)) : Prop where
  old : A.Sub As
  dom : ∀ k, As.blk k = none → A1.blk k = none
  it : IterAt As i m (l.map fun e => (kv e.1, f e.2)) (sk.map fun e => kv e.1)
  nd : (sk.map (·.1)).Nodup
  mem : ∀ e ∈ sk, e ∈ l
  fresh : A.blk i = none
  sub1 : A.Sub A1
  iex : ∃ o, A1.blk i = some o
  mex : ∃ o, A1.blk m = some o

section
variable {κ α : Type} {kv : κ → Value} {f : α → Value} {A A1 As A' : Arena} {i m : Nat} {l sk : List (κ × α)}

theorem MWalk.start (hi : A.blk i = none) (hA1 : ∀ k, k ≠ i → A1.blk k = A.blk k) (hI : IterAt A1 i m (l.map fun e => (kv e.1, f e.2)) []) : MWalk kv f A A1 A1 i m l [] where
  old := fun k o hk => by rw [hA1 k fun e => by subst e; rw [hi] at hk; cases hk]; exact hk
  dom := fun _ h => h
  it := hI
  nd := List.nodup_nil
  mem := fun _ h => by cases h
  fresh := hi
  sub1 := fun k o hk => by rw [hA1 k fun e => by subst e; rw [hi] at hk; cases hk]; exact hk
  iex := by
    obtain ⟨es, clock, seen, h1, h2, h3, h4, h5, h6, h7⟩ := hI
    exact ⟨_, h6⟩
  mex := by
    obtain ⟨es, clock, seen, h1, h2, h3, h4, h5, h6, h7⟩ := hI
    exact ⟨_, h1⟩

/-- A walk over a map of an elder part of memory. -/
theorem MWalk.start' {C : Arena} (hCA : C.Sub A) (hm : ∃ o, C.blk m = some o) (hi : A.blk i = none) (hA1 : ∀ k, k ≠ i → A1.blk k = A.blk k) (hI : IterAt A1 i m (l.map fun e => (kv e.1, f e.2)) []) :
    MWalk kv f C (Arena.of fun k => if k = i then A1.blk k else C.blk k) A1 i m l [] := by
  have hiC : C.blk i = none := by
    cases h : C.blk i with
    | none => rfl
    | some o => have := hCA _ _ h; rw [hi] at this; cases this
  have hold : C.Sub A1 := fun k o hk => by
    rw [hA1 k fun e => by subst e; rw [hiC] at hk; cases hk]; exact hCA k o hk
  refine ⟨hold, fun k hk => ?_, hI, List.nodup_nil, fun _ h => (by cases h), hiC, fun k o hk => ?_, ?_, ?_⟩
  · show (if k = i then A1.blk k else C.blk k) = none
    by_cases e : k = i
    · rw [if_pos e]; exact hk
    · rw [if_neg e]
      cases h : C.blk k with
      | none => rfl
      | some o => have := hold _ _ h; rw [hk] at this; cases this
  · show (if k = i then A1.blk k else C.blk k) = some o
    rw [if_neg fun e => by subst e; rw [hiC] at hk; cases hk]; exact hk
  · obtain ⟨es, clock, seen, h1, h2, h3, h4, h5, h6, h7⟩ := hI
    exact ⟨_, (if_pos rfl).trans h6⟩
  · obtain ⟨o, ho⟩ := hm
    exact ⟨o, (if_neg fun e => by subst e; rw [hiC] at ho; cases ho).trans ho⟩

theorem MWalk.dom1 (h : MWalk kv f A A1 As i m l sk) : ∀ k, As.blk k = none → A.blk k = none := fun k hk => by
  cases hA : A.blk k with
  | none => rfl
  | some o => rw [h.old k o hA] at hk; cases hk

theorem MWalk.im (h : MWalk kv f A A1 As i m l sk) (hm : ∃ o, A.blk m = some o) : i ≠ m := fun e => by
  obtain ⟨o, ho⟩ := hm
  rw [← e, h.fresh] at ho; cases ho

/-- The next one. -/
theorem MWalk.next (h : MWalk kv f A A1 As i m l sk) {e : Value × Value} (he : e ∈ l.map fun e => (kv e.1, f e.2)) (hn : e.1 ∉ sk.map fun e => kv e.1)
    (hA2 : ∀ b, b ≠ i → A'.blk b = As.blk b) (hI2 : IterAt A' i m (l.map fun e => (kv e.1, f e.2)) ((sk.map fun e => kv e.1) ++ [e.1])) :
    ∃ x ∈ l, e = (kv x.1, f x.2) ∧ x.1 ∉ sk.map (·.1) ∧ MWalk kv f A A1 A' i m l (sk ++ [x]) ∧ sk.length < l.length := by
  obtain ⟨x, hx, rfl⟩ := List.mem_map.1 he
  have hns : x.1 ∉ sk.map (·.1) := fun hh => by
    obtain ⟨y, hy, e⟩ := List.mem_map.1 hh
    exact hn (List.mem_map.2 ⟨y, hy, by rw [e]⟩)
  have hnd : ((sk ++ [x]).map (·.1)).Nodup := by
    rw [List.map_append]
    refine List.nodup_append.2 ⟨h.nd, by simp, fun a ha b hb => ?_⟩
    simp only [List.map_cons, List.map_nil, List.mem_singleton] at hb
    subst hb
    exact fun e => hns (e ▸ ha)
  have hmem : ∀ e ∈ sk ++ [x], e ∈ l := fun e he => by
    rcases List.mem_append.1 he with he | he
    · exact h.mem e he
    · simp only [List.mem_singleton] at he; subst he; exact hx
  have hlen := nodup_sub_len (keys_nodup hnd) hmem
  rw [List.length_append, List.length_singleton] at hlen
  refine ⟨x, hx, rfl, hns, { h with old := fun k o hk => ?_, dom := fun k hk => ?_, it := ?_, nd := hnd, mem := hmem }, by omega⟩
  · rw [hA2 k fun e => by subst e; rw [h.fresh] at hk; cases hk]; exact h.old k o hk
  · by_cases e : k = i
    · subst e
      obtain ⟨es, clock, seen, h1, h2, h3, h4, h5, h6, h7⟩ := hI2
      rw [h6] at hk; cases hk
    · rw [hA2 k e] at hk; exact h.dom k hk
  · rw [List.map_append]; exact hI2

theorem MWalk.more (h : MWalk kv f A A1 As i m l sk) (hk : ∀ k o, A1.blk k = some o → A'.blk k = As.blk k) : MWalk kv f A A1 A' i m l sk :=
  { h with
    old := fun k o ho => by rw [hk k o (h.sub1 k o ho)]; exact h.old k o ho
    dom := fun k hn => by
      cases h1 : A1.blk k with
      | none => rfl
      | some o => rw [hk k o h1] at hn; rw [h.dom k hn] at h1; cases h1
    it := h.it.sub fun b o hb ho => by
      rcases hb with rfl | rfl
      · rw [hk _ _ h.iex.choose_spec]; exact ho
      · rw [hk _ _ h.mex.choose_spec]; exact ho }

theorem MWalk.sub (h : MWalk kv f A A1 As i m l sk) (hs : As.Sub A') : MWalk kv f A A1 A' i m l sk :=
  { h with
    old := h.old.trans hs
    dom := fun k hk => h.dom k (by
      cases h8 : As.blk k with
      | none => rfl
      | some o => rw [hs k o h8] at hk; cases hk)
    it := h.it.sub fun b o _ hb => hs b o hb }

/-- All was met. -/
theorem MWalk.done (h : MWalk kv f A A1 As i m l sk) (inj : ∀ a b, kv a = kv b → a = b) (hl : (l.map (·.1)).Nodup) (hall : ∀ e ∈ l.map fun e => (kv e.1, f e.2), e.1 ∈ sk.map fun e => kv e.1) : sk.Perm l := by
  refine (List.perm_ext_iff_of_nodup (keys_nodup h.nd) (keys_nodup hl)).2 fun x => ⟨h.mem x, fun hx => ?_⟩
  obtain ⟨y, hy, e⟩ := List.mem_map.1 (hall _ (List.mem_map.2 ⟨x, hx, rfl⟩))
  have e1 : y.1 = x.1 := inj _ _ e
  have hyl := h.mem y hy
  have : y = x := by
    obtain ⟨a, b, rfl⟩ := List.append_of_mem hx
    rw [List.map_append, List.map_cons] at hl
    obtain ⟨_, h2, h3⟩ := List.nodup_append.1 hl
    rw [List.nodup_cons] at h2
    rcases List.mem_append.1 hyl with h4 | h4
    · exact absurd e1 (h3 _ (List.mem_map.2 ⟨y, h4, rfl⟩) _ (by simp))
    · rcases List.mem_cons.1 h4 with h4 | h4
      · exact h4
      · exact absurd (List.mem_map.2 ⟨y, h4, e1⟩) h2.1
  exact this ▸ hy

theorem MWalk.le (h : MWalk kv f A A1 As i m l sk) : sk.length ≤ l.length := nodup_sub_len (keys_nodup h.nd) h.mem

/-- The walk may begin. -/
theorem walk_nodup (inj : ∀ a b, kv a = kv b → a = b) (hl : (l.map (·.1)).Nodup) : ((l.map fun e => (kv e.1, f e.2)).map (·.1)).Nodup := by
  rw [List.map_map]
  refine List.pairwise_map.2 ((List.pairwise_map.1 hl).imp fun hab e => hab (inj _ _ e))

end

end
end Go.Sx

namespace Go.Sx
noncomputable section
open Classical

/-- A walk that takes some of the watches away: those of sk were met; X: what else may change. -/
structure WalkW (X : Nat → Prop) (A0 A : Arena) (m i : Nat) (ws0 ws sk : List WatchD) (out : WatchD → Bool) : Prop where
  iter : IterAt A i m (wL ws) (sk.map wKey)
  keep : ∀ b o, b ≠ m → ¬ X b → A0.blk b = some o → A.blk b = some o
  dom : ∀ b, A.blk b = none → A0.blk b = none
  left : ws = ws0.filter fun w => !(decide (w ∈ sk) && out w)
  nd : sk.Nodup
  sub : ∀ w ∈ sk, w ∈ ws0
  nd0 : ws0.Nodup
  fresh : A0.blk i = none
  im : i ≠ m

section
variable {X : Nat → Prop} {A0 A A1 A2 A3 : Arena} {m i : Nat} {ws0 ws sk : List WatchD} {out : WatchD → Bool}

theorem WalkW.start (hM : MapAt A0 m (wL ws0)) (hn : ws0.Nodup) (hi : A0.blk i = none) (hA1 : ∀ k, k ≠ i → A1.blk k = A0.blk k) (hI : IterAt A1 i m (wL ws0) []) : WalkW X A0 A1 m i ws0 ws0 [] out where
  iter := hI
  keep := fun b o _ _ hb => by rw [hA1 b fun e => (by rw [e, hi] at hb; cases hb)]; exact hb
  dom := fun b hb => by
    by_cases e : b = i
    · rw [e]; exact hi
    · rw [← hA1 b e]; exact hb
  left := by
    refine (List.filter_eq_self.2 fun w _ => ?_).symm
    simp
  nd := List.nodup_nil
  sub := fun _ h => by cases h
  nd0 := hn
  fresh := hi
  im := fun e => by
    obtain ⟨es, clock, h1, _⟩ := hM
    rw [← e, hi] at h1; cases h1

theorem WalkW.open_ {e : Value × Value} (he : e ∈ wL ws) (hn : e.1 ∉ sk.map wKey) : ∃ w, e = (wKey w, .int .i64 1) ∧ w ∈ ws ∧ w ∉ sk := by
  obtain ⟨w, hw, rfl⟩ := List.mem_map.1 he
  exact ⟨w, rfl, hw, fun h => hn (List.mem_map.2 ⟨w, h, rfl⟩)⟩

theorem WalkW.mem0 (h : WalkW X A0 A m i ws0 ws sk out) {w : WatchD} (hw : w ∈ ws) : w ∈ ws0 := by
  rw [h.left] at hw
  exact (List.mem_filter.1 hw).1

theorem WalkW.nds (h : WalkW X A0 A m i ws0 ws sk out) : ws.Nodup := by
  rw [h.left]
  exact List.Pairwise.filter _ h.nd0

theorem WalkW.snoc (h : WalkW X A0 A m i ws0 ws sk out) {w : WatchD} (hw : w ∈ ws) (hns : w ∉ sk) : (sk ++ [w]).Nodup ∧ (∀ x ∈ sk ++ [w], x ∈ ws0) ∧ sk.length < ws0.length := by
  have h1 : (sk ++ [w]).Nodup := List.nodup_append.2 ⟨h.nd, by simp, fun a ha b hb e => by
    rw [List.mem_singleton] at hb
    subst hb; subst e
    exact hns ha⟩
  have h2 : ∀ x ∈ sk ++ [w], x ∈ ws0 := fun x hx => by
    rcases List.mem_append.1 hx with hx | hx
    · exact h.sub x hx
    · rw [List.mem_singleton] at hx
      subst hx
      exact h.mem0 hw
  refine ⟨h1, h2, ?_⟩
  have := nodup_sub_len h1 h2
  rw [List.length_append, List.length_singleton] at this
  omega

/-- One stays. -/
theorem WalkW.pass (h : WalkW X A0 A m i ws0 ws sk out) {w : WatchD} (hw : w ∈ ws) (hns : w ∉ sk) (hA2 : ∀ b, b ≠ i → A2.blk b = A.blk b) (hI2 : IterAt A2 i m (wL ws) (sk.map wKey ++ [wKey w])) (ho : out w = false) : WalkW X A0 A2 m i ws0 ws (sk ++ [w]) out := by
  obtain ⟨h1, h2, _⟩ := h.snoc hw hns
  refine ⟨by rw [List.map_append]; exact hI2, fun b o hb hX hk => ?_, fun b hb => ?_, ?_, h1, h2, h.nd0, h.fresh, h.im⟩
  · rw [hA2 b fun e => (by rw [e, h.fresh] at hk; cases hk)]; exact h.keep b o hb hX hk
  · by_cases e : b = i
    · rw [e]; exact h.fresh
    · rw [hA2 b e] at hb; exact h.dom b hb
  · rw [h.left]
    refine List.filter_congr fun x hx => ?_
    by_cases e : x = w
    · subst e
      rw [ho]; simp
    · simp [e]

/-- One is taken. -/
theorem WalkW.take (h : WalkW X A0 A m i ws0 ws sk out) {w : WatchD} (hw : w ∈ ws) (hns : w ∉ sk) (hA2 : ∀ b, b ≠ i → A2.blk b = A.blk b) (hI3 : IterAt A3 i m (wL (ws.erase w)) (sk.map wKey ++ [wKey w])) (hk3 : ∀ b o, b ≠ m → ¬ X b → A2.blk b = some o → A3.blk b = some o) (hd3 : ∀ b, A3.blk b = none → A2.blk b = none) (ho : out w = true) : WalkW X A0 A3 m i ws0 (ws.erase w) (sk ++ [w]) out := by
  obtain ⟨h1, h2, _⟩ := h.snoc hw hns
  refine ⟨by rw [List.map_append]; exact hI3, fun b o hb hX hk => ?_, fun b hb => ?_, ?_, h1, h2, h.nd0, h.fresh, h.im⟩
  · refine hk3 b o hb hX ?_
    rw [hA2 b fun e => (by rw [e, h.fresh] at hk; cases hk)]; exact h.keep b o hb hX hk
  · have hb := hd3 b hb
    by_cases e : b = i
    · rw [e]; exact h.fresh
    · rw [hA2 b e] at hb; exact h.dom b hb
  · rw [List.Nodup.erase_eq_filter h.nds, h.left, List.filter_filter]
    refine List.filter_congr fun x hx => ?_
    by_cases e : x = w
    · subst e
      rw [ho]; simp
    · simp [e]

/-- All was met. -/
theorem WalkW.all (h : WalkW X A0 A m i ws0 ws sk out) (hall : ∀ e ∈ wL ws, e.1 ∈ sk.map wKey) : ws = ws0.filter (fun w => !out w) ∧ (sk.filter out).Perm (ws0.filter out) := by
  have hin : ∀ w ∈ ws0, out w = true → w ∈ sk := fun w hw ho => by
    by_cases e : w ∈ sk
    · exact e
    · have : w ∈ ws := by
        rw [h.left]
        exact List.mem_filter.2 ⟨hw, by simp [e]⟩
      obtain ⟨x, hx, e⟩ := List.mem_map.1 (hall _ (List.mem_map.2 ⟨w, this, rfl⟩))
      exact wKey_inj e ▸ hx
  refine ⟨?_, (List.perm_ext_iff_of_nodup (List.Pairwise.filter _ h.nd) (List.Pairwise.filter _ h.nd0)).2 fun w => ?_⟩
  · rw [h.left]
    refine List.filter_congr fun w hw => ?_
    cases ho : out w with
    | false => simp
    | true => simp [hin w hw ho]
  · rw [List.mem_filter, List.mem_filter]
    exact ⟨fun ⟨a, b⟩ => ⟨h.sub w a, b⟩, fun ⟨a, b⟩ => ⟨hin w a b, b⟩⟩

end

end
end Go.Sx

namespace Go.Proofs.YtienbbhelhhfjaaGreatDoor
open Go.Sx Go.RowKit
noncomputable section
open Classical

def sortV (k : Int) : Value := .int .u8 k

theorem sort_at {A : Arena} {g o n : Nat} {l : List Int} (h : A.rd g o (n * 1) = some (l.map sortV)) (k : Nat) (hk : k < l.length) (hn : n = l.length) : A.rd g (o + k * 1) 1 = some [sortV l[k]] := by
  rw [rd_at h (i := k * 1) (m := 1) (by omega)]
  congr 1
  refine List.ext_getElem? fun i => ?_
  cases i with
  | zero => simp [hk]
  | succ i =>
    simp
    omega

/-- The first place of it. -/
def sortIndexS : FSpec := ⟨List Int × Int, fun g vs A => ∃ x, vs = [x, sortV g.2] ∧ Sl A 1 g.1.length x (g.1.map sortV) ∧ g.1.length ≤ 1000000,
  fun g _ A v A' => A' = A ∧ ∃ k : Int, v = .int .i64 k ∧ (0 ≤ k ↔ g.2 ∈ g.1)⟩

set_option maxRecDepth 100000 in
set_option maxHeartbeats 0 in
theorem sortIndex_ok : FOk Tryz.prog 59 sortIndexS := by
  refine fok_v mixed fun ⟨l, x⟩ vs A hp => ?_
  simp only [sortIndexS] at hp
  obtain ⟨v, rfl, ⟨ao, c, rfl, hc, _, ha1, ha2, ha3⟩, hl⟩ := hp
  refine ⟨noC, tabO Tryz.prog noC noL 60 [(59, 0)], 60, noC_sound _, tabO_sound mixed (noC_sound _) (noL_sound _) _ _, fun blk os out tape D hD => ?_⟩
  conv => lhs; whnf
  refine (hD _).2 ⟨cnt A 8 [0, 1, 6, 7] [] l.length fun k => ∀ y ∈ l.take k, y ≠ x, ⟨(0 : Nat), ⟨Nat.zero_le _, fun _ h => (by simp at h)⟩, ⟨rfl, trivial⟩, trivial, rfl⟩, fun (k : Nat) hk => ⟨⟨trivial, trivial⟩, trivial, ?_⟩⟩
  obtain ⟨hk, hno⟩ : k ≤ l.length ∧ ∀ y ∈ l.take k, y ≠ x := hk
  conv => lhs; whnf
  refine split_dec (fun hlt => ?_) (fun hlt => ?_)
  rotate_left
  · have hkl : k = l.length := by
      have hlt : ¬ ((k : Int) < (l.length : Int)) := hlt
      omega
    have hend : sortIndexS.post (l, x) [] A (.int .i64 (-1)) A := ⟨rfl, -1, rfl, by
      constructor
      · intro h; omega
      · intro h
        rw [hkl, List.take_length] at hno
        exact absurd rfl (hno _ h)⟩
    conv => lhs; whnf
    exact (hD _).2 hend
  have hlt : (k : Int) < (l.length : Int) := hlt
  have hkl : k < l.length := by omega
  have i0 : (0 : Int) ≤ (k : Int) ∧ (k : Int) < (l.length : Int) := by omega
  obtain ⟨g, o, rfl, hra⟩ := Sl.at_ hc ha1 ha2 ha3 (by omega)
  have h1 := sort_at hra k hkl rfl
  conv => lhs; whnf
  repeat (first | refine go_in i0 ?_ | refine go_rd h1 ?_ | refine go_D hD rfl ?_
          conv => lhs; whnf)
  refine split_dec (fun he => ?_) (fun he => ?_)
  · have he : x = l[k] := he
    have hend : sortIndexS.post (l, x) [] A (.int .i64 k) A := ⟨rfl, k, rfl, by
      constructor
      · intro _
        rw [he]
        exact List.getElem_mem _
      · intro _; omega⟩
    conv => lhs; whnf
    exact (hD _).2 hend
  · have he : ¬ x = l[k] := he
    conv => lhs; whnf
    refine (hD _).2 ⟨(k + 1 : Nat), ⟨⟨hkl, fun y hy => ?_⟩, ⟨inc_slot (by omega), trivial⟩, trivial, rfl⟩, by show l.length - (k + 1) < l.length - k; omega, ⟨same1 rfl rfl, same1 rfl rfl, same1 rfl rfl, same1 rfl rfl, trivial⟩, trivial⟩
    rw [List.take_succ_eq_append_getElem hkl] at hy
    rcases List.mem_append.1 hy with hy | hy
    · exact hno y hy
    · rw [List.mem_singleton] at hy
      subst hy
      exact fun e => he e.symm

def sortHasS : FSpec := ⟨List Int × Int, fun g vs A => ∃ x, vs = [x, sortV g.2] ∧ Sl A 1 g.1.length x (g.1.map sortV) ∧ g.1.length ≤ 1000000, fun g _ A v A' => A' = A ∧ v = .bool (decide (g.2 ∈ g.1))⟩

set_option maxRecDepth 100000 in
set_option maxHeartbeats 0 in
theorem sortHas_ok : FOk Tryz.prog 35 sortHasS := by
  refine fok_v mixed fun ⟨l, x⟩ vs A hp => ?_
  obtain ⟨v, rfl, hp⟩ : ∃ v, vs = [v, sortV x] ∧ Sl A 1 l.length v (l.map sortV) ∧ l.length ≤ 1000000 := hp
  have hC : CTSound Tryz.prog (lookC [specE 59 sortIndexS] noC) := lookC_sound (noC_sound _) (fun x hx => by
    simp only [List.mem_singleton] at hx
    subst hx; exact specE_ok sortIndex_ok)
  refine ⟨_, noL, 60, hC, noL_sound _, fun blk os out tape D hD => ?_⟩
  conv => lhs; whnf
  refine (hD _).2 ⟨(l, x), ⟨v, rfl, hp⟩, fun u A1 hq => ?_⟩
  obtain ⟨h9, k, rfl, hk⟩ : A1 = A ∧ ∃ k : Int, u = .int .i64 k ∧ (0 ≤ k ↔ x ∈ l) := hq
  subst h9
  have hend : sortHasS.post (l, x) [] A1 (.bool (decide (0 ≤ k))) A1 := ⟨rfl, by simp only [hk]⟩
  conv => lhs; whnf
  exact (hD _).2 hend

end
end Go.Proofs.YtienbbhelhhfjaaGreatDoor

namespace Go.Proofs.YtienbbhelhhfjaaGreatDoor
open Go.Sx Go.RowKit
noncomputable section
open Classical

/-- A block more. -/
def Arena.one (A : Arena) (i : Nat) : Arena := Arena.of fun k => if k = i then some (.map #[] 0) else A.blk k

theorem one_at (A : Arena) (i : Nat) : ∃ o, (Arena.one A i).blk i = some o := ⟨_, if_pos rfl⟩
theorem one_ne {A : Arena} {i k : Nat} (h : k ≠ i) : (Arena.one A i).blk k = A.blk k := if_neg h

theorem grow_one {A1 A : Arena} {es n i : Nat} {e : TypeId} {v : Value} {cs : List Value} (h : GrowR A1 A es e n v cs) (hi : A.blk i = none) : GrowR (Arena.one A1 i) A es e n v cs := by
  obtain ⟨h1, h2 | ⟨g, nc, c, h3, h4, h4', h5, h6, h7⟩⟩ := h
  · exact ⟨h1, .inl h2⟩
  · exact ⟨h1, .inr ⟨g, nc, c, h3, h4, h4', by rw [one_ne fun e => (by rw [e, hi] at h6; cases h6)]; exact h5, h6, h7⟩⟩

theorem grow_less {A1 A : Arena} {es n i : Nat} {e : TypeId} {v : Value} {cs : List Value} (h : GrowR (Arena.one A1 i) A es e n v cs) : GrowR A1 A es e n v cs := by
  obtain ⟨h1, h2 | ⟨g, nc, c, h3, h4, h4', h5, h6, h7⟩⟩ := h
  · exact ⟨h1, .inl h2⟩
  · refine ⟨h1, .inr ⟨g, nc, c, h3, h4, h4', ?_, h6, h7⟩⟩
    rw [← one_ne fun e => (by
      obtain ⟨o, ho⟩ := one_at A1 i
      rw [e, ho] at h5; cases h5)]
    exact h5

theorem grow_stay {A1 A A' : Arena} {es n : Nat} {e : TypeId} {v : Value} {cs : List Value} (h : GrowR A1 A es e n v cs) (hk : ∀ k o, A1.blk k = none → A.blk k = some o → A'.blk k = some o) : GrowR A1 A' es e n v cs := by
  obtain ⟨h1, h2 | ⟨g, nc, c, h3, h4, h4', h5, h6, h7⟩⟩ := h
  · exact ⟨h1, .inl h2⟩
  · exact ⟨h1, .inr ⟨g, nc, c, h3, h4, h4', h5, hk g _ h5 h6, h7⟩⟩

/-- What the closure's variables hold. -/
structure RgAt (A1 A : Arena) (t m bt bo bz : Nat) (ws : List WatchD) (z : Int) (v : Value) (rs : List RingD) : Prop where
  tower : TowerAt A t m ws
  pt : CellsAt A bt [.pointer (some ⟨t, 0, none⟩)]
  po : CellsAt A bo [v]
  pz : CellsAt A bz [.int .i64 z]
  row : GrowR A1 A 5 51 rs.length v (rs.flatMap RingD.cells)
  old : ∀ k, k = t ∨ k = m ∨ k = bt ∨ k = bo ∨ k = bz → ∃ o, A1.blk k = some o
  dom : ∀ k, A.blk k = none → A1.blk k = none
  ne : m ≠ bt ∧ m ≠ bo ∧ m ≠ bz ∧ bo ≠ t ∧ bo ≠ bt ∧ bo ≠ bz

theorem RgAt.more {A1 A A' : Arena} {t m bt bo bz : Nat} {ws : List WatchD} {z : Int} {v : Value} {rs : List RingD} (h : RgAt A1 A t m bt bo bz ws z v rs) (hk : ∀ k, k = t ∨ k = m ∨ k = bt ∨ k = bo ∨ k = bz → A'.blk k = A.blk k) (hn : ∀ k, A1.blk k = none → A.blk k ≠ none → A'.blk k = A.blk k) (hd : ∀ k, A'.blk k = none → A.blk k = none) : RgAt A1 A' t m bt bo bz ws z v rs := by
  refine ⟨h.tower.keep (hk t (by simp)) (hk m (by simp)), h.pt.sub fun o ho => (hk bt (by simp)).trans ho, h.po.sub fun o ho => (hk bo (by simp)).trans ho, h.pz.sub fun o ho => (hk bz (by simp)).trans ho, ?_, h.old, fun k hk' => h.dom k (hd k hk'), h.ne⟩
  obtain ⟨h1, h2 | ⟨g, nc, c, h3, h4, h4', h5, h6, h7⟩⟩ := h.row
  · exact ⟨h1, .inl h2⟩
  · exact ⟨h1, .inr ⟨g, nc, c, h3, h4, h4', h5, by rw [hn g h5 (by rw [h6]; simp)]; exact h6, h7⟩⟩

theorem addrA_inj {a b : Option (Nat × Nat)} (h : addrA a = addrA b) : a = b := by
  cases a with
  | none =>
    cases b with
    | none => rfl
    | some x => cases h
  | some x =>
    cases b with
    | none => cases h
    | some y =>
      obtain ⟨x1, x2⟩ := x
      obtain ⟨y1, y2⟩ := y
      injection h with h
      injection h with h1 h2
      subst h1; subst h2; rfl

/-- The row at a place that is known. -/
theorem grow_at {A1 A : Arena} {es : Nat} {e : TypeId} {n c : Nat} {base : Option (Nat × Nat)} {cs : List Value} (h : GrowR A1 A es e n (.slice (addrA base) n c) cs) :
    (∀ bytes, bytes ≤ 65536 → n ≤ 1000000000 → GrowP A base n c es bytes cs) ∧
    ∀ ys v' A', ys.length = es → (∀ k, A.blk k = none → A1.blk k = none) → Appended A base n c es e cs ys 1 v' A' → GrowR A1 A' es e (n + 1) v' (cs ++ ys) ∧ ∀ k o, A1.blk k = some o → A'.blk k = A.blk k := by
  obtain ⟨b', c', he, _, h1, h2⟩ := h.form
  injection he with e1 _ e2
  have e1 := addrA_inj e1
  subst e1; subst e2
  exact ⟨h1, h2⟩

theorem app_dom {A A' : Arena} {base : Option (Nat × Nat)} {l c es : Nat} {e : TypeId} {xs ys : List Value} {n : Nat} {v : Value} (h : Appended A base l c es e xs ys n v A') : ∀ k, A'.blk k = none → A.blk k = none := fun k hk => by
  rcases h with ⟨_, _, ⟨_, rfl⟩ | ⟨g, o, _, hP⟩⟩ | ⟨_, g, nc, cs, zs, _, _, _, _, hN⟩
  · exact hk
  · exact (hP.dom k).1 hk
  · by_cases e : k = g
    · rw [e, hN.at_] at hk; cases hk
    · rw [hN.other k e] at hk; exact hk

structure RgG where
  A1 : Arena
  S : Arena
  t : Nat
  m : Nat
  bt : Nat
  bo : Nat
  bz : Nat
  ws : List WatchD
  z : Int
  v : Value
  rs : List RingD
  kind : Int
  p : ByteArray
  sorts : List Int

def RgG.out (g : RgG) (w : WatchD) : Bool := decide (w.path = g.p) && decide (w.sort ∈ g.sorts)

def bellRgS : FSpec := ⟨RgG, fun g vs A => ∃ sv, vs = [.int .u8 g.kind, .string g.p, sv, .pointer (some ⟨g.bt, 0, none⟩), .pointer (some ⟨g.bo, 0, none⟩), .pointer (some ⟨g.bz, 0, none⟩)] ∧
    RgAt g.A1 A g.t g.m g.bt g.bo g.bz g.ws g.z g.v g.rs ∧ Sl g.S 1 g.sorts.length sv (g.sorts.map sortV) ∧ g.sorts.length ≤ 1000000 ∧ g.S.Sub A ∧ (∀ k o, g.S.blk k = some o → (∃ o', g.A1.blk k = some o') ∧ k ≠ g.m ∧ k ≠ g.bo) ∧ g.rs.length + g.ws.length ≤ 1000000000,
  fun g _ A _ A' => ∃ (v' : Value) (us : List WatchD), us.Perm (g.ws.filter g.out) ∧ RgAt g.A1 A' g.t g.m g.bt g.bo g.bz (g.ws.filter fun w => !g.out w) g.z v' (g.rs ++ us.map (ringOf g.kind g.z)) ∧
    (∀ k o, g.A1.blk k = some o → k ≠ g.m → k ≠ g.bo → A'.blk k = A.blk k) ∧ ∀ k, A'.blk k = none → A.blk k = none⟩

structure RgL where
  A : Arena
  ws : List WatchD
  sk : List WatchD
  v : Value

def rgInv (g : RgG) (A0 : Arena) (i : Nat) : LInv :=
  { γ := RgL, G := fun s => WalkW (fun k => k = g.bo ∨ g.A1.blk k = none) A0 s.A g.m i g.ws s.ws s.sk g.out ∧ RgAt (Arena.one g.A1 i) s.A g.t g.m g.bt g.bo g.bz s.ws g.z s.v (g.rs ++ (s.sk.filter g.out).map (ringOf g.kind g.z)),
    keepS := [0, 1, 2, 3, 4, 5, 14], keepB := [], sl := fun _ => [], bl := fun _ => [], ar := fun s => s.A, mu := fun s => g.ws.length - s.sk.length }

set_option maxRecDepth 100000 in
set_option maxHeartbeats 0 in
theorem bellRg_ok : FOk Tryz.prog 34 bellRgS := by
  refine fok_v mixed fun ⟨A1, S, t, m, bt, bo, bz, ws, z, v, rs, kind, p, sorts⟩ vs A hp => ?_
  obtain ⟨sv, rfl, hR, hS, hsl, hSA, hSo, hbig⟩ : ∃ sv, vs = [.int .u8 kind, .string p, sv, .pointer (some ⟨bt, 0, none⟩), .pointer (some ⟨bo, 0, none⟩), .pointer (some ⟨bz, 0, none⟩)] ∧
    RgAt A1 A t m bt bo bz ws z v rs ∧ Sl S 1 sorts.length sv (sorts.map sortV) ∧ sorts.length ≤ 1000000 ∧ S.Sub A ∧ (∀ k o, S.blk k = some o → (∃ o', A1.blk k = some o') ∧ k ≠ m ∧ k ≠ bo) ∧ rs.length + ws.length ≤ 1000000000 := hp
  obtain ⟨ao, c, rfl⟩ := hS.form
  have hC : CTSound Tryz.prog (lookC [specE 35 sortHasS] noC) := lookC_sound (noC_sound _) (fun x hx => by
    simp only [List.mem_singleton] at hx
    subst hx; exact specE_ok sortHas_ok)
  refine ⟨_, tabO Tryz.prog _ noL 60 [(34, 0)], 60, hC, tabO_sound mixed hC (noL_sound _) _ _, fun blk os out tape D hD => ?_⟩
  have htop : A.rd t 0 1 = some [.map (some m)] := hR.tower.top.rd (o := 0) (n := 1) (by show 0 + 1 ≤ 1; omega)
  have hpt : A.rd bt 0 1 = some [.pointer (some ⟨t, 0, none⟩)] := hR.pt.rd (o := 0) (n := 1) (by show 0 + 1 ≤ 1; omega)
  conv => lhs; whnf
  repeat (first | refine go_rd htop ?_ | refine go_rd hpt ?_ | refine go_D hD rfl ?_
          conv => lhs; whnf)
  refine (hD _).2 ⟨_, hR.tower.map, wL_nodup hR.tower.nd, fun i A2 hi hA2 hI => ?_⟩
  have hA2 : ∀ k, k ≠ i → A2.blk k = A.blk k := hA2
  have hi : A.blk i = none := hi
  have hI0 : IterAt A2 i m (wL ws) [] := hI
  let g0 : RgG := ⟨A1, S, t, m, bt, bo, bz, ws, z, v, rs, kind, p, sorts⟩
  have hoth : ∀ k o, A.blk k = some o → A2.blk k = some o := fun k o hk => by rw [hA2 k fun e => (by rw [e, hi] at hk; cases hk)]; exact hk
  have hold : ∀ k, k = t ∨ k = m ∨ k = bt ∨ k = bo ∨ k = bz → k ≠ i := fun k hk e => by
    obtain ⟨o, ho⟩ := hR.old k hk
    rw [hR.dom k (by rw [e]; exact hi)] at ho
    cases ho
  have hoth' : ∀ k, k = t ∨ k = m ∨ k = bt ∨ k = bo ∨ k = bz → A2.blk k = A.blk k := fun k hk => hA2 k (hold k hk)
  have hW0 : WalkW (fun k => k = bo ∨ A1.blk k = none) A A2 m i ws ws [] g0.out := .start hR.tower.map hR.tower.nd hi hA2 hI0
  have hR0 : RgAt (Arena.one A1 i) A2 t m bt bo bz ws z v (rs ++ ([].filter g0.out).map (ringOf kind z)) := by
    rw [List.filter_nil, List.map_nil, List.append_nil]
    refine ⟨hR.tower.keep (hoth' t (by simp)) (hoth' m (by simp)), hR.pt.sub fun o ho => hoth _ _ ho, hR.po.sub fun o ho => hoth _ _ ho, hR.pz.sub fun o ho => hoth _ _ ho, (grow_one hR.row hi).sub hoth, fun k hk => ?_, fun k hk => ?_, hR.ne⟩
    · rw [one_ne (hold k hk)]
      exact hR.old k hk
    · have hki : k ≠ i := fun e => by
        obtain ⟨_, _, _, _, _, _, _, _, h6, _⟩ := hI0
        rw [e, h6] at hk; cases hk
      rw [one_ne hki]
      rw [hA2 k hki] at hk
      exact hR.dom k hk
  conv => lhs; whnf
  refine (hD _).2 ⟨rgInv g0 A i, ⟨(⟨A2, ws, [], v⟩ : RgL), ⟨⟨hW0, hR0⟩, trivial, trivial, rfl⟩⟩, fun (s : RgL) hG => ⟨trivial, trivial, ?_⟩⟩
  obtain ⟨As, wk, sk, v1⟩ := s
  obtain ⟨hW, hRs⟩ : WalkW (fun k => k = bo ∨ A1.blk k = none) A As m i ws wk sk g0.out ∧ RgAt (Arena.one A1 i) As t m bt bo bz wk z v1 (rs ++ (sk.filter g0.out).map (ringOf kind z)) := hG
  conv => lhs; whnf
  refine (hD _).2 (.inl ⟨m, _, _, hW.iter, fun e he hn A3 hA3 hI3 hent => ?_, fun hall => ?_⟩)
  · have hA3 : ∀ b, b ≠ i → A3.blk b = As.blk b := hA3
    obtain ⟨w, rfl, hw, hns⟩ := WalkW.open_ he hn
    obtain ⟨c, so, q⟩ := w
    have hlen := (hW.snoc hw hns).2.2
    have hent : A3.ent i = some (.tuple #[.agg #[.int .i64 c, .int .u8 so, .string q], .int .i64 1]) := hent
    have hI3 : IterAt A3 i m (wL wk) (sk.map wKey ++ [wKey ⟨c, so, q⟩]) := hI3
    conv => lhs; whnf
    split
    rotate_left
    · rename_i hv
      exact absurd (hent.symm.trans hv) (by simp)
    rename_i v hv
    obtain rfl := Option.some.inj (hent.symm.trans hv)
    have hi3 : A3.blk i ≠ none := by
      obtain ⟨_, _, _, _, _, _, _, _, h6, _⟩ := hI3
      rw [h6]; simp
    have hR3 := hRs.more (A' := A3) (fun k hk => hA3 k (hold k hk)) (fun k hk _ => hA3 k fun e => (by
      obtain ⟨o, ho⟩ := one_at A1 i
      rw [e, ho] at hk; cases hk)) (fun k hk => by rw [← hA3 k fun e => hi3 (e ▸ hk)]; exact hk)
    have hS3 : S.Sub A3 := fun k o hk => by
      obtain ⟨⟨o', ho'⟩, hkm, hkb⟩ := hSo k o hk
      have hk1 := hSA k o hk
      rw [hA3 k fun e => (by rw [e, hi] at hk1; cases hk1)]
      exact hW.keep k o hkm (fun h => h.elim hkb fun h => by rw [h] at ho'; cases ho') hk1
    have hlt3 : ws.length - (sk ++ [(⟨c, so, q⟩ : WatchD)]).length < ws.length - sk.length := by rw [List.length_append, List.length_singleton]; omega
    conv => lhs; whnf
    have pass : g0.out ⟨c, so, q⟩ = false → (rgInv g0 A i).G (⟨A3, wk, sk ++ [(⟨c, so, q⟩ : WatchD)], v1⟩ : RgL) := fun ho => by
      refine ⟨hW.pass hw hns hA3 hI3 ho, ?_⟩
      show RgAt (Arena.one A1 i) A3 t m bt bo bz wk z v1 (rs ++ ((sk ++ [(⟨c, so, q⟩ : WatchD)]).filter g0.out).map (ringOf kind z))
      rw [List.filter_append, List.filter_cons_of_neg (by rw [ho]; exact Bool.false_ne_true), List.filter_nil, List.append_nil]
      exact hR3
    refine split_b (fun hq => ?_) (fun hq => ?_)
    rotate_left
    · have ho : g0.out ⟨c, so, q⟩ = false := by
        show (decide (q = p) && decide (so ∈ sorts)) = false
        rw [decide_eq_false fun e => (beqL_ff.1 hq) (by rw [e]), Bool.false_and]
      conv => lhs; whnf
      exact (hD _).2 ⟨(⟨A3, wk, sk ++ [(⟨c, so, q⟩ : WatchD)], v1⟩ : RgL), ⟨pass ho, trivial, trivial, rfl⟩, hlt3, ⟨same1 rfl rfl, same1 rfl rfl, same1 rfl rfl, same1 rfl rfl, same1 rfl rfl, same1 rfl rfl, same1 rfl rfl, trivial⟩, trivial⟩
    obtain rfl : q = p := toList_inj (beqL_iff.1 hq)
    conv => lhs; whnf
    refine (hD _).2 ⟨(sorts, so), ⟨_, rfl, hS.sub hS3, hsl⟩, fun v A4 hq4 => ?_⟩
    obtain ⟨h4, hv4⟩ : A4 = A3 ∧ v = .bool (decide (so ∈ sorts)) := hq4
    subst h4; subst hv4
    by_cases hso : so ∈ sorts
    · have hgo : g0.out ⟨c, so, q⟩ = true := by
        show (decide (q = q) && decide (so ∈ sorts)) = true
        rw [decide_eq_true hso, decide_eq_true rfl]; rfl
      rw [decide_eq_true hso]
      obtain ⟨n, hn1, hn2⟩ : ∃ n, n = (rs ++ (sk.filter g0.out).map (ringOf kind z)).length ∧ n ≤ 1000000000 := ⟨_, rfl, by
        have := List.length_filter_le g0.out sk
        rw [List.length_append, List.length_map]; omega⟩
      obtain ⟨cs, hcs⟩ : ∃ cs, cs = (rs ++ (sk.filter g0.out).map (ringOf kind z)).flatMap RingD.cells := ⟨_, rfl⟩
      have hrow := hR3.row
      rw [← hn1, ← hcs] at hrow
      obtain ⟨base, cp, rfl, hbase, hP, hA⟩ := hrow.form
      have hP := hP 40 (by omega) hn2
      have htop4 : A4.rd t 0 1 = some [.map (some m)] := hR3.tower.top.rd (o := 0) (n := 1) (by show 0 + 1 ≤ 1; omega)
      have hpt4 : A4.rd bt 0 1 = some [.pointer (some ⟨t, 0, none⟩)] := hR3.pt.rd (o := 0) (n := 1) (by show 0 + 1 ≤ 1; omega)
      have hpo4 : A4.rd bo 0 1 = some [.slice (addrA base) n cp] := hR3.po.rd (o := 0) (n := 1) (by show 0 + 1 ≤ 1; omega)
      have hpz4 : A4.rd bz 0 1 = some [.int .i64 z] := hR3.pz.rd (o := 0) (n := 1) (by show 0 + 1 ≤ 1; omega)
      have hone : ∀ v ∈ ([.int .i64 c, .int .u8 kind, .int .u8 so, .string q, .int .i64 z] : List Value), v.oneCell' = true := fun v hv => by
        simp only [List.mem_cons, List.not_mem_nil, or_false] at hv
        rcases hv with rfl | rfl | rfl | rfl | rfl <;> rfl
      have hpo9 := hR3.po
      rcases hbase with rfl | ⟨gr, rfl⟩ <;> (conv => lhs; whnf)
      all_goals
        repeat (first | refine go_rd hpo4 ?_ | refine go_rd hpz4 ?_ | refine go_D hD rfl ?_
                conv => lhs; whnf)
        refine (hD _).2 fun gb A5 hN => ?_
        have hN : A4.New A5 gb #[.int .i64 c, .int .u8 kind, .int .u8 so, .string q, .int .i64 z] 51 := hN
        have hrow5 := hrow.sub hN.sub
        obtain ⟨hP5, hA5⟩ := grow_at hrow5
        have hP5 := hP5 40 (by omega) hn2
        have hrd5 : A5.rd gb 0 (1 * 5) = some [.int .i64 c, .int .u8 kind, .int .u8 so, .string q, .int .i64 z] := hN.rd (o := 0) (n := 1 * 5) (by show 0 + 1 * 5 ≤ 5; omega)
        have hd5 : ∀ k, A5.blk k = none → (Arena.one A1 i).blk k = none := fun k hk => hR3.dom k (by
          cases h : A4.blk k with
          | none => rfl
          | some o => rw [hN.sub k o h] at hk; cases hk)
        conv => lhs; whnf
        refine (hD _).2 ⟨cs, [.int .i64 c, .int .u8 kind, .int .u8 so, .string q, .int .i64 z], hP5.rd, ?_, rfl, hone, by show n + 1 ≤ 9223372036854775807; omega, hP5.cap, rfl, hP5.none_, fun g' o' he' hle' _ => hP5.room 5 rfl g' o' he' hle', fun v A6 hAp => ?_⟩
        · show (if 1 * 5 = 0 then some [] else A5.rd gb 0 (1 * 5)) = _
          rw [if_neg (by omega)]; exact hrd5
        obtain ⟨hrow6, hk6⟩ := hA5 _ _ _ rfl hd5 hAp
        have hd6 : ∀ k, A6.blk k = none → A5.blk k = none := app_dom hAp
        obtain ⟨base6, cp6, rfl, _⟩ := hrow6.form
        have s45 : ∀ k o, (Arena.one A1 i).blk k = some o → A5.blk k = A4.blk k := fun k o hk => hN.other k fun e => by
          have := hR3.dom k (by rw [e]; exact hN.none_)
          rw [hk] at this; cases this
        have hk46 : ∀ k o, (Arena.one A1 i).blk k = some o → A6.blk k = A4.blk k := fun k o hk => (hk6 k o hk).trans (s45 k o hk)
        have hpo6 := hpo9.sub (A' := A6) fun o ho => by
          obtain ⟨o', ho'⟩ := hRs.old bo (by simp)
          rw [hk46 bo o' ho']; exact ho
        conv => lhs; whnf
        refine (hD _).2 ⟨hpo6.room (by show 0 + 1 ≤ 1; omega), fun A7 hP7 => ?_⟩
        have hP7 : A6.Put A7 bo 0 [.slice (addrA base6) (n + 1) cp6] := hP7
        have hpo7 : CellsAt A7 bo [.slice (addrA base6) (n + 1) cp6] := hpo6.put hP7 (by show 0 + 1 ≤ 1; omega)
        have hk47 : ∀ k o, (Arena.one A1 i).blk k = some o → k ≠ bo → A7.blk k = A4.blk k := fun k o hk hb => (hP7.other k hb).trans (hk46 k o hk)
        have hbo : ∀ k, k = t ∨ k = m ∨ k = bt ∨ k = bz → A7.blk k = A4.blk k := fun k hk => by
          obtain ⟨o', ho'⟩ := hRs.old k (by rcases hk with h | h | h | h <;> simp [h])
          refine hk47 k o' ho' ?_
          obtain ⟨e1, e2, e3, e4, e5, e6⟩ := hR.ne
          rcases hk with h | h | h | h
          · rw [h]; exact Ne.symm e4
          · rw [h]; exact e2
          · rw [h]; exact Ne.symm e5
          · rw [h]; exact Ne.symm e6
        have htop7 : A7.rd t 0 1 = some [.map (some m)] := (hR3.tower.top.sub (A' := A7) fun o ho => by rw [hbo t (by simp)]; exact ho).rd (o := 0) (n := 1) (by show 0 + 1 ≤ 1; omega)
        have hpt7 : A7.rd bt 0 1 = some [.pointer (some ⟨t, 0, none⟩)] := (hR3.pt.sub (A' := A7) fun o ho => by rw [hbo bt (by simp)]; exact ho).rd (o := 0) (n := 1) (by show 0 + 1 ≤ 1; omega)
        have hI7 : IterAt A7 i m (wL wk) (sk.map wKey ++ [wKey ⟨c, so, q⟩]) := hI3.sub fun b o hb ho => by
          rcases hb with rfl | rfl
          · obtain ⟨o', ho'⟩ := one_at A1 b
            rw [hk47 b o' ho' (Ne.symm (hold bo (by simp)))]; exact ho
          · rw [hbo b (by simp)]; exact ho
        repeat (first | refine go_rd hpt7 ?_ | refine go_rd htop7 ?_ | refine go_D hD rfl ?_
                conv => lhs; whnf)
        refine (hD _).2 ⟨by kernel_rfl, _, hI7.map, wL_alike ⟨c, so, q⟩ wk, fun A8 hM8 ho8 hIt8 => ?_⟩
        have hI8 : IterAt A8 i m (delL (wKey ⟨c, so, q⟩) (wL wk)) (sk.map wKey ++ [wKey ⟨c, so, q⟩]) := hIt8 i _ hI7
        rw [wL_del] at hI8
        have ho8 : ∀ b, b ≠ m → A8.blk b = A7.blk b := ho8
        have hd7 : ∀ k, A8.blk k = none → A4.blk k = none := fun k hk => by
          have h7 : A7.blk k = none := by
            by_cases e : k = m
            · obtain ⟨_, _, h1, _⟩ := hI8.map
              rw [e, h1] at hk; cases hk
            · rw [ho8 k e] at hk; exact hk
          have h5 := hd6 k ((hP7.dom k).1 h7)
          cases h : A4.blk k with
          | none => rfl
          | some o => rw [hN.sub k o h] at h5; cases h5
        have hW8 := hW.take hw hns hA3 hI8 (fun b o hb hX hk => by
          obtain ⟨hX1, hX2⟩ := not_or.1 hX
          have hbi : ∃ o, (Arena.one A1 i).blk b = some o := by
            by_cases e : b = i
            · rw [e]; exact one_at A1 i
            · rw [one_ne e]
              cases h : A1.blk b with
              | none => exact absurd h hX2
              | some o => exact ⟨o, rfl⟩
          obtain ⟨o', ho'⟩ := hbi
          rw [ho8 b hb, hk47 b o' ho' hX1]; exact hk) hd7 hgo
        have hrow8 : GrowR (Arena.one A1 i) A8 5 51 (n + 1) (.slice (addrA base6) (n + 1) cp6) (cs ++ [.int .i64 c, .int .u8 kind, .int .u8 so, .string q, .int .i64 z]) := hrow6.keep fun k hk => by
          have hkm : k ≠ m := fun e => by
            obtain ⟨o', ho'⟩ := hRs.old m (by simp)
            rw [e, ho'] at hk; cases hk
          have hkb : k ≠ bo := fun e => by
            obtain ⟨o', ho'⟩ := hRs.old bo (by simp)
            rw [e, ho'] at hk; cases hk
          rw [ho8 k hkm, hP7.other k hkb]
        have hR8 : RgAt (Arena.one A1 i) A8 t m bt bo bz (wk.erase ⟨c, so, q⟩) z (.slice (addrA base6) (n + 1) cp6) (rs ++ ((sk ++ [(⟨c, so, q⟩ : WatchD)]).filter g0.out).map (ringOf kind z)) := by
          obtain ⟨e1, e2, e3, e4, e5, e6⟩ := hR.ne
          rw [List.filter_append, List.filter_cons_of_pos hgo, List.filter_nil, List.map_append, ← List.append_assoc]
          refine ⟨⟨hR3.tower.top.sub fun o ho => ?_, hI8.map, hW8.nds, hR3.tower.ne⟩, hR3.pt.sub fun o ho => ?_, hpo7.sub fun o ho => ?_, hR3.pz.sub fun o ho => ?_, ?_, hRs.old, fun k hk => hR3.dom k (hd7 k hk), hR.ne⟩
          · rw [ho8 t (Ne.symm hR3.tower.ne), hbo t (by simp)]; exact ho
          · rw [ho8 bt (Ne.symm e1), hbo bt (by simp)]; exact ho
          · rw [ho8 bo (Ne.symm e2)]; exact ho
          · rw [ho8 bz (Ne.symm e3), hbo bz (by simp)]; exact ho
          · rw [List.length_append, List.flatMap_append, ← hn1, ← hcs]
            exact hrow8
        conv => lhs; whnf
        exact (hD _).2 ⟨(⟨A8, wk.erase ⟨c, so, q⟩, sk ++ [(⟨c, so, q⟩ : WatchD)], .slice (addrA base6) (n + 1) cp6⟩ : RgL), ⟨⟨hW8, hR8⟩, trivial, trivial, rfl⟩, hlt3, ⟨same1 rfl rfl, same1 rfl rfl, same1 rfl rfl, same1 rfl rfl, same1 rfl rfl, same1 rfl rfl, same1 rfl rfl, trivial⟩, trivial⟩
    · have ho : g0.out ⟨c, so, q⟩ = false := by
        show (decide (q = q) && decide (so ∈ sorts)) = false
        rw [decide_eq_false hso, Bool.and_false]
      rw [decide_eq_false hso]
      conv => lhs; whnf
      exact (hD _).2 ⟨(⟨A4, wk, sk ++ [(⟨c, so, q⟩ : WatchD)], v1⟩ : RgL), ⟨pass ho, trivial, trivial, rfl⟩, hlt3, ⟨same1 rfl rfl, same1 rfl rfl, same1 rfl rfl, same1 rfl rfl, same1 rfl rfl, same1 rfl rfl, same1 rfl rfl, trivial⟩, trivial⟩
  · obtain ⟨h1, h2⟩ := hW.all hall
    have hend : ∀ u, bellRgS.post g0 [] A u As := fun u => by
      refine ⟨v1, sk.filter g0.out, h2, ?_, fun k o hk hkm hkb => ?_, hW.dom⟩
      · show RgAt A1 As t m bt bo bz (ws.filter fun w => !g0.out w) z v1 (rs ++ (sk.filter g0.out).map (ringOf kind z))
        rw [← h1]
        exact ⟨hRs.tower, hRs.pt, hRs.po, hRs.pz, grow_less hRs.row, hR.old, fun k hk => hR.dom k (hW.dom k hk), hR.ne⟩
      · cases hA : A.blk k with
        | none =>
          have := hR.dom k hA
          rw [this] at hk; cases hk
        | some o' => exact hW.keep k o' hkm (fun h => h.elim hkb fun h => by rw [h] at hk; cases hk) hA
    conv => lhs; whnf
    exact (hD _).2 (hend (.bool false))

end
end Go.Proofs.YtienbbhelhhfjaaGreatDoor

namespace Go.Proofs.YtienbbhelhhfjaaGreatDoor
open Go.Sx Go.RowKit Go.Sort Go.Shelf
noncomputable section
open Classical

def srRen : Go.Shelf.Ren := ⟨fun | 6 => 37 | 15 => 62 | 14 => 61 | 28 => 89 | 29 => 90 | 20 => 81 | 21 => 82 | 22 => 83 | 23 => 84 | 24 => 85 | 25 => 86 | 26 => 87 | 27 => 88 | 46 => 102 | 47 => 103 | 48 => 104 | 49 => 105 | 50 => 106 | 57 => 115 | n => n, fun | 22 => 42 | 24 => 51 | 25 => 95 | 3 => 3 | 39 => 106 | 0 => 0 | 53 => 141 | 55 => 143 | 4 => 4 | 46 => 134 | 45 => 133 | 50 => 138 | 5 => 5 | 9 => 9 | 66 => 150 | 70 => 154 | 76 => 159 | 77 => 160 | n => n, fun | n => n⟩
theorem srLays : SlLaysF0.n6 Tryz.prog srRen where
  mixed := by kernel_rfl
  f6 := ⟨"slices.SortFunc[[]beadle/bell.Ring,beadle/bell.Ring]", by decide, Tryz.func37.trans (congrArg some (by kernel_rfl))⟩
  f14 := ⟨"slices.pdqsortCmpFunc[beadle/bell.Ring]", by decide, Tryz.func61.trans (congrArg some (by kernel_rfl))⟩
  f15 := Tryz.func62.trans (congrArg some (by kernel_rfl))
  f20 := ⟨"slices.insertionSortCmpFunc[beadle/bell.Ring]", by decide, Tryz.func81.trans (congrArg some (by kernel_rfl))⟩
  f21 := ⟨"slices.heapSortCmpFunc[beadle/bell.Ring]", by decide, Tryz.func82.trans (congrArg some (by kernel_rfl))⟩
  f22 := ⟨"slices.breakPatternsCmpFunc[beadle/bell.Ring]", by decide, Tryz.func83.trans (congrArg some (by kernel_rfl))⟩
  f23 := ⟨"slices.choosePivotCmpFunc[beadle/bell.Ring]", by decide, Tryz.func84.trans (congrArg some (by kernel_rfl))⟩
  f24 := ⟨"slices.reverseRangeCmpFunc[beadle/bell.Ring]", by decide, Tryz.func85.trans (congrArg some (by kernel_rfl))⟩
  f25 := ⟨"slices.partialInsertionSortCmpFunc[beadle/bell.Ring]", by decide, Tryz.func86.trans (congrArg some (by kernel_rfl))⟩
  f26 := ⟨"slices.partitionEqualCmpFunc[beadle/bell.Ring]", by decide, Tryz.func87.trans (congrArg some (by kernel_rfl))⟩
  f27 := ⟨"slices.partitionCmpFunc[beadle/bell.Ring]", by decide, Tryz.func88.trans (congrArg some (by kernel_rfl))⟩
  f28 := Tryz.func89.trans (congrArg some (by kernel_rfl))
  f29 := Tryz.func90.trans (congrArg some (by kernel_rfl))
  f46 := ⟨"slices.siftDownCmpFunc[beadle/bell.Ring]", by decide, Tryz.func102.trans (congrArg some (by kernel_rfl))⟩
  f47 := Tryz.func103.trans (congrArg some (by kernel_rfl))
  f48 := Tryz.func104.trans (congrArg some (by kernel_rfl))
  f49 := ⟨"slices.medianAdjacentCmpFunc[beadle/bell.Ring]", by decide, Tryz.func105.trans (congrArg some (by kernel_rfl))⟩
  f50 := ⟨"slices.medianCmpFunc[beadle/bell.Ring]", by decide, Tryz.func106.trans (congrArg some (by kernel_rfl))⟩
  f57 := ⟨"slices.order2CmpFunc[beadle/bell.Ring]", by decide, Tryz.func115.trans (congrArg some (by kernel_rfl))⟩
  t0 := Tryz.underlying0
  a0 := Tryz.isAgg0
  z0 := Tryz.sizeOf0
  v0 := Tryz.zeroValue0
  t3 := Tryz.underlying3
  a3 := Tryz.isAgg3
  z3 := Tryz.sizeOf3
  v3 := Tryz.zeroValue3
  t4 := Tryz.underlying4
  a4 := Tryz.isAgg4
  z4 := Tryz.sizeOf4
  v4 := Tryz.zeroValue4
  t5 := Tryz.underlying5
  a5 := Tryz.isAgg5
  z5 := Tryz.sizeOf5
  v5 := Tryz.zeroValue5
  t9 := Tryz.underlying9
  a9 := Tryz.isAgg9
  z9 := Tryz.sizeOf9
  v9 := Tryz.zeroValue9
  t22 := Tryz.underlying42
  a22 := Tryz.isAgg42
  z22 := Tryz.sizeOf42
  v22 := Tryz.zeroValue42
  t25 := Tryz.underlying95
  a25 := Tryz.isAgg95
  z25 := Tryz.sizeOf95
  v25 := Tryz.zeroValue95
  t39 := Tryz.underlying106
  a39 := Tryz.isAgg106
  z39 := Tryz.sizeOf106
  v39 := Tryz.zeroValue106
  t45 := Tryz.underlying133
  a45 := Tryz.isAgg133
  z45 := Tryz.sizeOf133
  v45 := Tryz.zeroValue133
  t46 := Tryz.underlying134
  a46 := Tryz.isAgg134
  z46 := Tryz.sizeOf134
  v46 := Tryz.zeroValue134
  t50 := Tryz.underlying138
  a50 := Tryz.isAgg138
  z50 := Tryz.sizeOf138
  v50 := Tryz.zeroValue138
  t53 := Tryz.underlying141
  a53 := Tryz.isAgg141
  z53 := Tryz.sizeOf141
  v53 := Tryz.zeroValue141
  t55 := Tryz.underlying143
  a55 := Tryz.isAgg143
  z55 := Tryz.sizeOf143
  v55 := Tryz.zeroValue143
  t66 := Tryz.underlying150
  a66 := Tryz.isAgg150
  z66 := Tryz.sizeOf150
  v66 := Tryz.zeroValue150
  t70 := Tryz.underlying154
  a70 := Tryz.isAgg154
  z70 := Tryz.sizeOf154
  v70 := Tryz.zeroValue154
  t76 := Tryz.underlying159
  a76 := Tryz.isAgg159
  z76 := Tryz.sizeOf159
  v76 := Tryz.zeroValue159
  t77 := Tryz.underlying160
  a77 := Tryz.isAgg160
  z77 := Tryz.sizeOf160
  v77 := Tryz.zeroValue160

instance : Inhabited WatchD := ⟨⟨0, 0, ⟨#[]⟩⟩⟩

theorem cmpI_neg {x y : Int} : cmpI x y < 0 ↔ x < y := by
  unfold cmpI
  by_cases h : x < y
  · simp [h]
  · by_cases h2 : y < x <;> simp [h, h2]

theorem cmpI_zero {x y : Int} : cmpI x y = 0 ↔ x = y := by
  unfold cmpI
  by_cases h : x < y
  · simp [h]; omega
  · by_cases h2 : y < x
    · simp [h, h2]; omega
    · simp [h, h2]; omega

theorem cmpS_neg {x y : ByteArray} : cmpS x y < 0 ↔ ltL x.data.toList y.data.toList = true := by
  unfold cmpS
  by_cases h : ltL x.data.toList y.data.toList = true
  · simp [h]
  · by_cases h2 : x = y
    · subst h2
      simp [ltL_irrefl]
    · simp [h, h2]

theorem cfR_neg (x y : WatchD) : cfR x y < 0 ↔ wLt x y := by
  unfold cfR orI wLt
  by_cases h1 : x.conn = y.conn
  · rw [if_neg (by simpa using cmpI_zero.2 h1)]
    by_cases h2 : x.sort = y.sort
    · rw [if_neg (by simpa using cmpI_zero.2 h2), cmpS_neg]
      simp [h1, h2]
    · rw [if_pos (fun e => h2 (cmpI_zero.1 e)), cmpI_neg]
      simp [h1, h2]
  · rw [if_pos (fun e => h1 (cmpI_zero.1 e)), cmpI_neg]
    simp [h1]

theorem ltOf_cfR (x y : WatchD) : ltOf cfR x y = decide (wLt x y) := by
  unfold ltOf
  exact decide_eq_decide.2 (cfR_neg x y)

theorem swo_cfR : SWO (ltOf cfR) := ⟨fun x => by
  rw [ltOf_cfR]; exact decide_eq_false (wLt_irrefl x), fun x y z h1 h2 => by
  rw [ltOf_cfR, decide_eq_true_eq] at *
  exact wLt_trans h1 h2, fun x y z h1 h2 => by
  rw [ltOf_cfR, decide_eq_false_iff_not] at *
  intro h
  by_cases e : wLt y x
  · exact h2 (wLt_trans e h)
  · have := wLt_total h1 e
    subst this
    exact h2 h⟩

def ringV : Value := .func (.func 38) #[] #[]

/-- Cells of a watch's ring. -/
def rC (k : WatchD → Int) (z : Int) (w : WatchD) : List Value := (ringOf (k w) z w).cells

theorem sortW_eq (us : List WatchD) : (us.mergeSort fun x y => !(ltOf cfR) y x) = sortW us := by
  unfold sortW
  congr 1
  funext x y
  rw [ltOf_cfR]

/-- A row of rings is sorted where it lies. -/
def sortRing0 : FSpec := ⟨Nat × (WatchD → Int) × Int × List WatchD, fun g vs A => (g.2.2.2 = [] ∧ ∃ p cap, vs = [.slice p 0 cap, ringV]) ∨
    (g.2.2.2 ≠ [] ∧ g.2.2.2.length < 4611686018427387904 ∧ A.Room g.1 0 (g.2.2.2.length * 5) ∧ A.rd g.1 0 (g.2.2.2.length * 5) = some (g.2.2.2.flatMap (rC g.2.1 g.2.2.1)) ∧ ∃ cap, vs = [.slice (some ⟨g.1, 0, none⟩) g.2.2.2.length cap, ringV]),
  fun g _ A _ A' => (g.2.2.2 = [] → A' = A) ∧ (g.2.2.2 ≠ [] → A.Put A' g.1 0 ((sortW g.2.2.2).flatMap (rC g.2.1 g.2.2.1)))⟩

theorem sortRing0_ok : FOk Tryz.prog 37 sortRing0 := by
  intro ⟨g, kf, z, ks⟩ vs A w hA hp
  refine goes_of_calls Tryz.func37 ⟨by kernel_rfl, by kernel_rfl⟩ ?_
  rcases hp with ⟨h0, p, cap, rfl⟩ | ⟨h0, hlt, ⟨c, t, fz, hb, hle, hfz⟩, hr, cap, rfl⟩
  · intro cs
    obtain ⟨e, w', fr, ⟨k1, k2⟩, k3⟩ := AnyF.slices_SortFunc_none srLays p cap ringV w cs
    subst k2
    exact ⟨e, w', fr, ⟨_, k1, A, ⟨fun _ => rfl, fun h => absurd h0 h⟩, rfl, rfl, rfl, fun _ _ _ => rfl, hA, fun k o ho => .inl ⟨o, ho⟩⟩, k3⟩
  · dsimp only at h0 hlt hle hr hb hfz
    have hw := hA _ _ hb
    have hsz : g < w.heap.size := (Array.getElem?_eq_some_iff.1 hw).1
    have hk5 : ∀ x : WatchD, (rC kf z x).length = 5 := fun _ => rfl
    have hfl := flatK_list (rC kf z) 5 hk5 (by omega) ks
    have hfs : (flatK (rC kf z) 5 ks.toArray).size = ks.length * 5 := by rw [size_flatK]; simp
    have hH : HoldsK (rC kf z) 5 w g 0 ks.toArray := fun j hj => by
      have hj' : j < ks.length * 5 := by rw [hfs] at hj; exact hj
      constructor
      · have hr' : (c.toList.drop 0).take (ks.length * 5) = ks.flatMap (rC kf z) := by
          rw [A.rdeq] at hr
          unfold rdOf at hr
          rw [hb] at hr
          simp only at hr
          rw [if_pos (by omega)] at hr
          injection hr
        have h3 : ((c.toList.drop 0).take (ks.length * 5))[j]? = (flatK (rC kf z) 5 ks.toArray).toList[j]? := by rw [hr', hfl]
        rw [List.drop_zero, List.getElem?_take, if_pos hj'] at h3
        unfold World.cell?
        rw [hw]
        simp only [Option.isSome_none, Bool.false_eq_true, if_false, Nat.zero_add]
        rw [← Array.getElem?_toList, h3, Array.getElem?_toList, Array.getElem?_eq_getElem hj, getElem!_pos (flatK (rC kf z) 5 ks.toArray) j hj]
        rfl
      · unfold World.frozen?
        rw [hw]
        have h9 := hfz.not (0 + j) (by omega)
        obtain ⟨lo, hi⟩ := fz
        dsimp only at h9 ⊢
        rw [← Bool.decide_and]
        exact decide_eq_false h9
    intro cs
    have hcon := AnyQ.slices_SortFunc_total srLays 5 Tryz.isAgg51 Tryz.sizeOf51 (rC kf z) hk5 (fun x v hv => by
      simp only [rC, RingD.cells, List.mem_cons, List.not_mem_nil, or_false] at hv
      rcases hv with rfl | rfl | rfl | rfl | rfl <;> rfl) cfR swo_cfR 38 #[] g 0 cap ks.toArray w
      (enters_of Tryz.func38 (by kernel_rfl) rfl)
      (fun m os dk _ x y => cmpRing (kf x) (kf y) z z x y _) hH hsz (by simpa using hlt) (fun x y h1 h2 => by
        rw [ltOf_cfR, decide_eq_false_iff_not] at h1 h2
        exact wLt_total h1 h2)
    rw [List.size_toArray] at hcon
    obtain ⟨e, w', fr, ⟨k1, n, os, k2⟩, k3⟩ := hcon cs
    have k2 : w' = grow (putRow id (Sort.ahead w n) g 0 (flatK (rC kf z) 5 (ks.mergeSort fun x y => !(ltOf cfR) y x).toArray)) os := k2
    rw [sortW_eq] at k2
    obtain ⟨A', hP, hM⟩ := put_moves id hA hb (by rw [size_flatK, List.size_toArray, sortW_length]; omega) k2
    rw [List.map_id, flatK_list (rC kf z) 5 hk5 (by omega)] at hP
    exact ⟨e, w', fr, ⟨_, k1, A', ⟨fun h => absurd h h0, fun _ => hP⟩, hM⟩, k3⟩

structure SrG where
  A1 : Arena
  k : WatchD → Int
  z : Int
  us : List WatchD
  v : Value

theorem rC_len (k : WatchD → Int) (z : Int) : ∀ l : List WatchD, (l.flatMap (rC k z)).length = l.length * 5
  | [] => rfl
  | x :: l => by rw [List.flatMap_cons, List.length_append, rC_len k z l, List.length_cons, Nat.succ_mul]; show 5 + _ = _; omega

/-- A row that was made by appending is sorted. -/
def sortRingS : FSpec := ⟨SrG, fun g vs A => vs = [g.v, ringV] ∧ GrowR g.A1 A 5 51 g.us.length g.v (g.us.flatMap (rC g.k g.z)) ∧ g.us.length < 4611686018427387904,
  fun g _ A _ A' => GrowR g.A1 A' 5 51 g.us.length g.v ((sortW g.us).flatMap (rC g.k g.z)) ∧ (∀ k o, g.A1.blk k = some o → A'.blk k = A.blk k) ∧ ∀ k, A'.blk k = none → A.blk k = none⟩

theorem sortRing_ok : FOk Tryz.prog 37 sortRingS := by
  intro ⟨A1, kf, z, us, v⟩ vs A w hA hp
  obtain ⟨rfl, hG, hlt⟩ : vs = [v, ringV] ∧ GrowR A1 A 5 51 us.length v (us.flatMap (rC kf z)) ∧ us.length < 4611686018427387904 := hp
  by_cases h0 : us = []
  · subst h0
    obtain ⟨base, cp, rfl, _⟩ := hG.form
    refine (sortRing0_ok (0, kf, z, []) _ A w hA (.inl ⟨rfl, _, cp, rfl⟩)).mono (fun u w' ⟨A', hq, hM⟩ => ⟨A', ?_, hM⟩) fun _ _ h => h
    obtain rfl : A' = A := hq.1 rfl
    refine ⟨?_, fun _ _ _ => rfl, fun _ h => h⟩
    show GrowR A1 A' 5 _ _ _ ((sortW []).flatMap (rC kf z))
    rw [show sortW [] = [] from List.mergeSort_nil]
    exact hG
  · obtain ⟨hl, ⟨h1, _⟩ | ⟨g, nc, c, rfl, hle, hpos, hg, hb, hsz, ht⟩⟩ := hG
    · exact absurd (List.length_eq_zero_iff.1 h1) h0
    · have h5 := Nat.mul_le_mul_right 5 hle
      refine (sortRing0_ok (g, kf, z, us) _ A w hA (.inr ⟨h0, hlt, ⟨c, _, (0, 0), hb, by show 0 + us.length * 5 ≤ _; omega, .inl rfl⟩, by show A.rd g 0 (us.length * 5) = _; rw [rd_mk hb (by omega), List.drop_zero, ht], nc, rfl⟩)).mono (fun u w' ⟨A', hq, hM⟩ => ⟨A', ?_, hM⟩) fun _ _ h => h
      have hP : A.Put A' g 0 ((sortW us).flatMap (rC kf z)) := hq.2 h0
      have hsl := rC_len kf z (sortW us)
      rw [sortW_length] at hsl
      refine ⟨⟨hsl, .inr ?_⟩, fun k o hk => hP.other k fun e => (by rw [e, hg] at hk; cases hk), fun k hk => (hP.dom k).1 hk⟩
      obtain ⟨c0, t0, fz0, c', k1, k2, k3⟩ := hP.at_
      rw [hb] at k1
      injection k1 with k1
      injection k1 with k1 k1' k1''
      subst k1; subst k1'; subst k1''
      refine ⟨g, nc, c', rfl, hle, hpos, hg, k2, ?_, ?_⟩
      · rw [← Array.length_toList, k3]
        simp only [List.length_append, List.length_take, List.length_drop, hsl, Array.length_toList]
        omega
      · rw [k3]
        simp [hsl]

end
end Go.Proofs.YtienbbhelhhfjaaGreatDoor

namespace Go.Sx
noncomputable section

structure MemD where
  id : Int
  role : Int
  weight : Int
  group : Int

def MemD.cells (m : MemD) : List Value := [.int .i64 m.id, .int .u8 m.role, .int .i64 m.weight, .int .i64 m.group]

def memCells (l : List MemD) : List Value := (l.map MemD.cells).flatten

theorem memCells_rows (l : List MemD) : ∀ r ∈ l.map MemD.cells, r.length = 4 := fun r hr => by
  obtain ⟨m, _, rfl⟩ := List.mem_map.1 hr; rfl

/-- Members. -/
def MemR (B : Arena) (v : Value) (l : List MemD) : Prop := Sl B 4 l.length v (memCells l) ∧ l.length * 32 ≤ 140737488351232

theorem MemR.sub {A B : Arena} (h : B.Sub A) {v : Value} {l : List MemD} (hs : MemR B v l) : MemR A v l := ⟨hs.1.sub h, hs.2⟩

end
end Go.Sx

namespace Go.Sx
noncomputable section

structure DeedH where
  zxid : Int
  kind : Int
  ses : Int
  turn : Int
  xid : Int
  time : Int
  path : ByteArray
  data : List UInt8
  owner : Int
  ver : Int
  cver : Int
  tmo : Int
  err : Int
  cfg : Int
  mem : List MemD

inductive DeedD where
  | mk (h : DeedH) (parts : List DeedD)

def DeedD.h : DeedD → DeedH | .mk h _ => h
def DeedD.parts : DeedD → List DeedD | .mk _ p => p

/-- A deed's cells; of its slices the values. -/
def DeedH.cells (h : DeedH) (vd vm vp : Value) : List Value := [.int .i64 h.zxid, .int .u8 h.kind, .int .i64 h.ses, .int .i64 h.turn, .int .i64 h.xid, .int .i64 h.time, .string h.path, vd, .int .i64 h.owner, .int .i64 h.ver, .int .i64 h.cver, .int .i64 h.tmo, .int .i64 h.err, .int .i64 h.cfg, vm, vp]

mutual
/-- These cells are a deed. -/
def DeedR (B : Arena) : DeedD → List Value → Prop
  | .mk h parts, cs => ∃ vd vm vp rows, cs = h.cells vd vm vp ∧ h.path.data.toList.length ≤ 140737488351232 ∧ SlB B vd h.data ∧ MemR B vm h.mem ∧ Sl B 16 parts.length vp rows.flatten ∧ parts.length * 184 ≤ 140737488351232 ∧ DeedsR B parts rows
def DeedsR (B : Arena) : List DeedD → List (List Value) → Prop
  | [], rows => rows = []
  | d :: ds, rows => ∃ r rs, rows = r :: rs ∧ DeedR B d r ∧ DeedsR B ds rs
end

/-- A slice of deeds. -/
def DeedsS (B : Arena) (v : Value) (ds : List DeedD) : Prop := ∃ rows, Sl B 16 ds.length v rows.flatten ∧ ds.length * 184 ≤ 140737488351232 ∧ DeedsR B ds rows

theorem DeedR.len {B : Arena} {d : DeedD} {cs : List Value} (h : DeedR B d cs) : cs.length = 16 := by
  cases d
  obtain ⟨vd, vm, vp, rows, rfl, _⟩ := h
  rfl

/-- A deed's cells, its slices as slices. -/
theorem DeedR.form {B : Arena} {d : DeedD} {cs : List Value} (h : DeedR B d cs) : ∃ a7 l7 k7 a14 l14 k14 a15 l15 k15, cs = d.h.cells (.slice a7 l7 k7) (.slice a14 l14 k14) (.slice a15 l15 k15) := by
  obtain ⟨hd, parts⟩ := d
  obtain ⟨vd, vm, vp, rows, rfl, _, ⟨h1, _⟩, ⟨h2, _⟩, h3, _⟩ := h
  obtain ⟨a5, k5, rfl⟩ := h1.form
  obtain ⟨a13, k13, rfl⟩ := h2.form
  obtain ⟨a14, k14, rfl⟩ := h3.form
  exact ⟨_, _, _, _, _, _, _, _, _, rfl⟩

theorem DeedsR.length {B : Arena} : ∀ {ds : List DeedD} {rows : List (List Value)}, DeedsR B ds rows → rows.length = ds.length
  | [], _, h => by simp [DeedsR] at h; subst h; rfl
  | d :: ds, rows, h => by
    obtain ⟨r, rs, rfl, _, h⟩ := h
    simp [DeedsR.length h]

theorem DeedsR.lens {B : Arena} : ∀ {ds : List DeedD} {rows : List (List Value)}, DeedsR B ds rows → ∀ r ∈ rows, r.length = 16
  | [], _, h => by simp [DeedsR] at h; subst h; simp
  | d :: ds, rows, h => by
    obtain ⟨r, rs, rfl, h1, h2⟩ := h
    intro x hx
    rcases List.mem_cons.1 hx with rfl | hx
    · exact h1.len
    · exact DeedsR.lens h2 x hx

theorem DeedsR.at_ {B : Arena} : ∀ {ds : List DeedD} {rows : List (List Value)}, DeedsR B ds rows → ∀ (k : Nat) (h1 : k < ds.length) (h2 : k < rows.length), DeedR B ds[k] rows[k]
  | [], _, _, k, h1, _ => by simp at h1
  | d :: ds, rows, h, k, h1, h2 => by
    obtain ⟨r, rs, rfl, h3, h4⟩ := h
    cases k with
    | zero => exact h3
    | succ k => exact DeedsR.at_ h4 k (by simpa using h1) (by simpa using h2)

mutual
theorem DeedR.sub {A B : Arena} (h : B.Sub A) : ∀ (d : DeedD) (cs : List Value), DeedR B d cs → DeedR A d cs
  | .mk _ parts, cs, hr => by
    obtain ⟨vd, vm, vp, rows, h1, h0, h2, h3, h4, h5, h6⟩ := hr
    exact ⟨vd, vm, vp, rows, h1, h0, h2.sub h, h3.sub h, h4.sub h, h5, DeedsR.sub h parts rows h6⟩
theorem DeedsR.sub {A B : Arena} (h : B.Sub A) : ∀ (ds : List DeedD) (rows : List (List Value)), DeedsR B ds rows → DeedsR A ds rows
  | [], _, hr => hr
  | d :: ds, rows, hr => by
    obtain ⟨r, rs, h1, h2, h3⟩ := hr
    exact ⟨r, rs, h1, DeedR.sub h d r h2, DeedsR.sub h ds rs h3⟩
end

theorem DeedsS.sub {A B : Arena} (h : B.Sub A) {v : Value} {ds : List DeedD} (hr : DeedsS B v ds) : DeedsS A v ds := by
  obtain ⟨rows, h1, h2, h3⟩ := hr
  exact ⟨rows, h1.sub h, h2, DeedsR.sub h ds rows h3⟩

theorem deed_at {A : Arena} {g o n : Nat} {ds : List DeedD} {rows : List (List Value)} (h : A.rd g o (n * 16) = some rows.flatten) (hr : DeedsR A ds rows) (k : Nat) (hk : k < ds.length) (hn : n = ds.length) : ∃ cs, A.rd g (o + k * 16) 16 = some cs ∧ DeedR A ds[k] cs := by
  have hl := hr.length
  exact ⟨_, rows_at h hr.lens k (by omega) (by omega), hr.at_ k hk (by omega)⟩

/-- The deed as a value. -/
def deedV (cs : List Value) : Value := .agg cs.toArray

end
end Go.Sx

namespace Go.Proofs.YtienbbhelhhfjaaGreatDoor
open Go.Sx Go.RowKit
noncomputable section
open Classical

def alChange : TypeId → Bool := fun t => Nat.beq t 33 || (Nat.beq t 42 || Nat.beq t 22)

def bellChangeS : FSpec := ⟨TwG × DeedH × Int, fun g vs A => ∃ a1 l1 k1 a2 l2 k2 a3 l3 k3, vs = [.pointer (some ⟨g.1.t, 0, none⟩), deedV (g.2.1.cells (.slice a1 l1 k1) (.slice a2 l2 k2) (.slice a3 l3 k3)), .int .i64 g.2.2] ∧ TowerAt A g.1.t g.1.m g.1.ws ∧ WOk g.1.ws ∧ g.1.ws.length ≤ 1000000,
  fun g _ A v A' => TwTo A g.1 (unrung g.2.1.kind g.2.1.path g.1.ws) A' ∧ GrowR A A' 5 51 (chRings g.2.1.kind g.2.1.path g.2.2 g.1.ws).length v ((chRings g.2.1.kind g.2.1.path g.2.2 g.1.ws).flatMap RingD.cells)⟩

/-- Blocks that are the row's, or nobody's, are hidden. -/
def Arena.hide (A1 A A' : Arena) : Arena := Arena.of fun k => if A1.blk k = none ∧ A.blk k ≠ none then none else A'.blk k

theorem RgAt.next {A1 A A' : Arena} {t m bt bo bz : Nat} {ws : List WatchD} {z : Int} {v : Value} {rs : List RingD} (h : RgAt A1 A t m bt bo bz ws z v rs) {gs : Nat} {c : Array Value} {ty : TypeId} (hN : A.New A' gs c ty) :
    ∃ A2, RgAt A2 A' t m bt bo bz ws z v rs ∧ (∃ o, A2.blk gs = some o) ∧ ∀ k o, A1.blk k = some o → ∃ o', A2.blk k = some o' := by
  have hs := hN.sub
  have up : ∀ k o, A1.blk k = some o → ∃ o', (Arena.hide A1 A A').blk k = some o' := fun k o hk => by
    cases hA : A.blk k with
    | none => rw [h.dom k hA] at hk; cases hk
    | some o' => exact ⟨o', (if_neg (by rw [hk]; simp)).trans (hs k o' hA)⟩
  refine ⟨Arena.hide A1 A A', ⟨?_, h.pt.sub fun o ho => hs _ _ ho, h.po.sub fun o ho => hs _ _ ho, h.pz.sub fun o ho => hs _ _ ho, ?_, fun k hk => ?_, fun k hk => ?_, h.ne⟩, ⟨_, (if_neg (by rw [hN.none_]; simp)).trans hN.at_⟩, up⟩
  · exact ⟨h.tower.top.sub fun o ho => hs _ _ ho, h.tower.map.sub fun o ho => hs _ _ ho, h.tower.nd, h.tower.ne⟩
  · obtain ⟨h1, h2 | ⟨g, nc, c, h3, h4, h4', h5, h6, h7⟩⟩ := h.row
    · exact ⟨h1, .inl h2⟩
    · exact ⟨h1, .inr ⟨g, nc, c, h3, h4, h4', if_pos ⟨h5, by rw [h6]; simp⟩, hs _ _ h6, h7⟩⟩
  · obtain ⟨o, ho⟩ := h.old k hk
    exact up k o ho
  · show (if A1.blk k = none ∧ A.blk k ≠ none then none else A'.blk k) = none
    rw [hk]; simp

/-- What lay there lies there. -/
structure RgTo (A A1 Ac : Arena) (m : Nat) : Prop where
  keep : ∀ k o, A.blk k = some o → k ≠ m → Ac.blk k = some o
  kn : ∀ k o, A.blk k = some o → ∃ o', A1.blk k = some o'

theorem RgTo.call {A A1 A2 Ac Ad Ae : Arena} {m bo gs : Nat} {c : Array Value} {ty : TypeId} (h : RgTo A A1 Ac m) (hbo : A.blk bo = none) (hN : Ac.New Ad gs c ty) (hk : ∀ k o, A1.blk k = some o → ∃ o', A2.blk k = some o') (hf : ∀ k o, A2.blk k = some o → k ≠ m → k ≠ bo → Ae.blk k = Ad.blk k) : RgTo A A2 Ae m := by
  refine ⟨fun k o ho hkm => ?_, fun k o ho => ?_⟩
  · obtain ⟨o1, h1⟩ := h.kn k o ho
    obtain ⟨o2, h2⟩ := hk k o1 h1
    rw [hf k o2 h2 hkm fun e => (by rw [e, hbo] at ho; cases ho)]
    exact hN.sub k o (h.keep k o ho hkm)
  · obtain ⟨o1, h1⟩ := h.kn k o ho
    exact hk k o1 h1

theorem sorts_sl {A : Arena} {gs n : Nat} {ty : TypeId} {l : List Int} {c : Array Value} (hc : c.toList = l.map sortV) (h : A.blk gs = some (.cells c ty (0, 0))) (hn : l.length = n) :
    Sl (Arena.of fun k => if k = gs then A.blk gs else none) 1 l.length (.slice (some ⟨gs, 0, none⟩) n n) (l.map sortV) := by
  subst hn
  have hcl : c.size = l.length := by rw [← Array.length_toList, hc, List.length_map]
  refine Sl.row (Nat.le_refl _) ?_
  rw [rd_mk (c := c) (t := ty) (fz := (0, 0)) ((if_pos rfl).trans h) (by omega), List.drop_zero, hc]
  rw [List.take_of_length_le (by simp)]

def outP (p : ByteArray) (l : List Int) (w : WatchD) : Bool := decide (w.path = p) && decide (w.sort ∈ l)

/-- The closure is called. -/
theorem rg_call {A A1 Ac Ad : Arena} {t m bt bo bz gs : Nat} {ws : List WatchD} {z : Int} {v : Value} {rs : List RingD} {c : Array Value} {ty : TypeId} {n : Nat} (hR : RgAt A1 Ac t m bt bo bz ws z v rs) (hT : RgTo A A1 Ac m) (hbo : A.blk bo = none) (hN : Ac.New Ad gs c ty) (kind : Int) (p : ByteArray) (l : List Int) (hc : c.toList = l.map sortV) (hn : l.length = n) (hl : l.length ≤ 1000000) (hbig : rs.length + ws.length ≤ 1000000000) :
    ∃ g : RgG, bellRgS.pre g [.int .u8 kind, .string p, .slice (some ⟨gs, 0, none⟩) n n, .pointer (some ⟨bt, 0, none⟩), .pointer (some ⟨bo, 0, none⟩), .pointer (some ⟨bz, 0, none⟩)] Ad ∧
      ∀ vs u Ae, bellRgS.post g vs Ad u Ae → ∃ A2 v' us, List.Perm us (ws.filter (outP p l)) ∧ RgAt A2 Ae t m bt bo bz (ws.filter fun w => !outP p l w) z v' (rs ++ us.map (ringOf kind z)) ∧ RgTo A A2 Ae m := by
  obtain ⟨A2, hR2, ⟨og, hog⟩, hup⟩ := hR.next hN
  have hgb : ∀ k, k = m ∨ k = bo → gs ≠ k := fun k hk e => by
    obtain ⟨o, ho⟩ := hR.old k (by rcases hk with h | h <;> simp [h])
    rw [hR.dom k (by rw [← e]; exact hN.none_)] at ho
    cases ho
  refine ⟨⟨A2, Arena.of fun k => if k = gs then Ad.blk gs else none, t, m, bt, bo, bz, ws, z, v, rs, kind, p, l⟩, ⟨_, rfl, hR2, sorts_sl hc hN.at_ hn, hl, fun k o hk => ?_, fun k o hk => ?_, hbig⟩, fun vs u Ae hq => ?_⟩
  · have hk : (if k = gs then Ad.blk gs else none) = some o := hk
    split at hk
    · rename_i e; rw [e]; exact hk
    · cases hk
  · have hk : (if k = gs then Ad.blk gs else none) = some o := hk
    split at hk
    · rename_i e
      subst e
      exact ⟨⟨og, hog⟩, hgb m (.inl rfl), hgb bo (.inr rfl)⟩
    · cases hk
  · obtain ⟨v', us, h1, h2, h3, _⟩ := hq
    exact ⟨A2, v', us, h1, h2, hT.call hbo hN hup h3⟩

theorem filter_two {α : Type} (f g : α → Bool) : ∀ l : List α, (l.filter f ++ (l.filter fun x => !f x).filter g).Perm (l.filter fun x => f x || g x)
  | [] => .refl _
  | x :: l => by
    have ih := filter_two f g l
    cases hf : f x with
    | true =>
      rw [List.filter_cons_of_pos hf, List.filter_cons_of_neg (by simp [hf]), List.filter_cons_of_pos (by simp [hf])]
      exact ih.cons x
    | false =>
      rw [List.filter_cons_of_neg (by simp [hf]), List.filter_cons_of_pos (a := x) (p := fun x => !f x) (by simp [hf])]
      cases hg : g x with
      | true =>
        rw [List.filter_cons_of_pos hg, List.filter_cons_of_pos (by simp [hg])]
        exact List.perm_middle.trans (ih.cons x)
      | false =>
        rw [List.filter_cons_of_neg (by simp [hg]), List.filter_cons_of_neg (by simp [hf, hg])]
        exact ih

/-- What stands at the end. -/
theorem change_end {A A1 Ac Ad : Arena} {t m bt bo bz : Nat} {ws ws' us : List WatchD} {z : Int} {v : Value} {rs : List RingD} {kind : Int} {p : ByteArray} (hR : RgAt A1 Ac t m bt bo bz ws' z v rs) (h : RgTo A A1 Ac m)
    (hws : ws' = unrung kind p ws) (hus : us.Perm (rung kind p ws)) (hG : GrowR A1 Ad 5 51 us.length v ((sortW us).flatMap (rC (rungK kind p) z))) (hk : ∀ k o, A1.blk k = some o → Ad.blk k = Ac.blk k) (hd : ∀ k, Ad.blk k = none → Ac.blk k = none) :
    TwTo A ⟨t, m, ws⟩ (unrung kind p ws) Ad ∧ GrowR A Ad 5 51 (chRings kind p z ws).length v ((chRings kind p z ws).flatMap RingD.cells) := by
  subst hws
  have hk' : ∀ k, k = t ∨ k = m ∨ k = bt ∨ k = bo ∨ k = bz → Ad.blk k = Ac.blk k := fun k hk' => by
    obtain ⟨o, ho⟩ := hR.old k hk'
    exact hk k o ho
  have hdn : ∀ k, A1.blk k = none → A.blk k = none := fun k hk => by
    cases hA : A.blk k with
    | none => rfl
    | some o =>
      obtain ⟨o', ho'⟩ := h.kn k o hA
      rw [hk] at ho'; cases ho'
  refine ⟨⟨hR.tower.keep (hk' t (by simp)) (hk' m (by simp)), fun b o hb ho => ?_, fun b hb => hdn b (hR.dom b (hd b hb))⟩, ?_⟩
  · obtain ⟨o', ho'⟩ := h.kn b o ho
    rw [hk b o' ho']
    exact h.keep b o ho hb
  · have e1 : (chRings kind p z ws).flatMap RingD.cells = (sortW us).flatMap (rC (rungK kind p) z) := by
      rw [chRings, List.flatMap_map, ← sortW_of_perm hus]
      rfl
    have e2 : (chRings kind p z ws).length = us.length := by
      rw [chRings, List.length_map, sortW_length, hus.length_eq]
    rw [e1, e2]
    obtain ⟨h1, h2 | ⟨g, nc, c, h3, h4, h4', h5, h6, h7⟩⟩ := hG
    · exact ⟨h1, .inl h2⟩
    · exact ⟨h1, .inr ⟨g, nc, c, h3, h4, h4', hdn g h5, h6, h7⟩⟩

theorem two_perm {us1 us2 : List WatchD} {f g : WatchD → Bool} {ws : List WatchD} (h1 : us1.Perm (ws.filter f)) (h2 : us2.Perm ((ws.filter fun w => !f w).filter g)) {r : WatchD → Bool} (hr : ∀ w ∈ ws, (f w || g w) = r w) : (us1 ++ us2).Perm (ws.filter r) := by
  rw [← List.filter_congr hr]
  exact (h1.append h2).trans (filter_two f g ws)

theorem two_left {f g : WatchD → Bool} {ws : List WatchD} {r : WatchD → Bool} (hr : ∀ w ∈ ws, (f w || g w) = !r w) : ((ws.filter fun w => !f w).filter fun w => !g w) = ws.filter r := by
  rw [List.filter_filter]
  refine List.filter_congr fun w hw => ?_
  have := hr w hw
  cases hf : f w <;> cases hg : g w <;> cases hr2 : r w <;> simp_all

theorem rings_of {us : List WatchD} {k : Int} {z : Int} {kf : WatchD → Int} (h : ∀ w ∈ us, kf w = k) : (us.map (ringOf k z)).flatMap RingD.cells = us.flatMap (rC kf z) := by
  rw [List.flatMap_map]
  induction us with
  | nil => rfl
  | cons x us ih =>
    rw [List.flatMap_cons, List.flatMap_cons, ih fun w hw => h w (List.mem_cons_of_mem _ hw)]
    unfold rC
    rw [h x (by simp)]

theorem rung_one {p : ByteArray} {w : WatchD} : (outP p [2] w || outP (parentP p) [3] w) = !decide (rungK 1 p w = 0) := by
  unfold outP rungK
  by_cases h1 : w.path = p <;> by_cases h2 : w.sort = 2 <;> by_cases h3 : w.sort = 3 <;> by_cases h4 : w.path = parentP p <;> simp_all

theorem rung_two {p : ByteArray} {w : WatchD} (h : 1 ≤ w.sort ∧ w.sort ≤ 3) : (outP p [1, 2, 3] w || outP (parentP p) [3] w) = !decide (rungK 2 p w = 0) := by
  unfold outP rungK
  have h5 : w.sort = 1 ∨ w.sort = 2 ∨ w.sort = 3 := by omega
  by_cases h1 : w.path = p <;> by_cases h4 : w.path = parentP p <;> rcases h5 with h5 | h5 | h5 <;> simp_all

theorem rung_three {p : ByteArray} {w : WatchD} (h : 1 ≤ w.sort ∧ w.sort ≤ 3) : outP p [1, 2] w = !decide (rungK 3 p w = 0) := by
  unfold outP rungK
  have h5 : w.sort = 1 ∨ w.sort = 2 ∨ w.sort = 3 := by omega
  by_cases h1 : w.path = p <;> rcases h5 with h5 | h5 | h5 <;> simp_all

theorem kind_one {p : ByteArray} {w : WatchD} (h : outP p [2] w = true) : rungK 1 p w = 1 := by
  unfold outP at h
  unfold rungK
  simp_all

theorem kind_one2 {p : ByteArray} {w : WatchD} (h : outP (parentP p) [3] w = true) : rungK 1 p w = 4 := by
  unfold outP at h
  unfold rungK
  simp only [List.mem_singleton, Bool.and_eq_true, decide_eq_true_eq] at h
  rw [if_pos rfl, if_neg (by omega), if_pos ⟨h.2, h.1⟩]

theorem kind_two {p : ByteArray} {w : WatchD} (h : outP p [1, 2, 3] w = true) : rungK 2 p w = 2 := by
  unfold outP at h
  unfold rungK
  simp_all

theorem kind_two2 {p : ByteArray} {w : WatchD} (h0 : outP p [1, 2, 3] w = false) (h : outP (parentP p) [3] w = true) : rungK 2 p w = 4 := by
  unfold outP at h h0
  unfold rungK
  simp only [List.mem_singleton, Bool.and_eq_true, decide_eq_true_eq] at h
  have h1 : ¬ w.path = p := fun e => by
    rw [decide_eq_true e, decide_eq_true (by simp [h.2])] at h0
    cases h0
  rw [if_neg (by omega), if_pos rfl, if_neg h1, if_pos ⟨h.2, h.1⟩]

theorem kind_three {p : ByteArray} {w : WatchD} (h : outP p [1, 2] w = true) : rungK 3 p w = 3 := by
  unfold outP at h
  unfold rungK
  simp only [List.mem_cons, List.not_mem_nil, or_false, Bool.and_eq_true, decide_eq_true_eq] at h
  rw [if_neg (by omega), if_neg (by omega), if_pos rfl, if_pos ⟨h.1, by omega⟩]

/-- All is rung: what is left is the sort. -/
theorem tail_ready {A A1 Ac : Arena} {t m bt bo bz : Nat} {ws ws' us : List WatchD} {z : Int} {v : Value} {rs : List RingD} {kind : Int} {p : ByteArray} (hl : ws.length ≤ 1000000) (hR : RgAt A1 Ac t m bt bo bz ws' z v rs) (h : RgTo A A1 Ac m)
    (hws : ws' = unrung kind p ws) (hus : us.Perm (rung kind p ws)) (hlen : rs.length = us.length) (hcel : rs.flatMap RingD.cells = us.flatMap (rC (rungK kind p) z)) :
    ∃ n base cp, v = .slice (addrA base) n cp ∧ (base = none ∨ ∃ g, base = some (g, 0)) ∧ Ac.rd bo 0 1 = some [.slice (addrA base) n cp] ∧ ∃ g : SrG, sortRingS.pre g [.slice (addrA base) n cp, ringV] Ac ∧
      ∀ vs u Ad, sortRingS.post g vs Ac u Ad → Ad.rd bo 0 1 = some [.slice (addrA base) n cp] ∧
        (TwTo A ⟨t, m, ws⟩ (unrung kind p ws) Ad ∧ GrowR A Ad 5 51 (chRings kind p z ws).length (.slice (addrA base) n cp) ((chRings kind p z ws).flatMap RingD.cells)) := by
  have hrow := hR.row
  rw [hlen, hcel] at hrow
  obtain ⟨base, cp, rfl, hb, _⟩ := hrow.form
  have hle : us.length ≤ 1000000 := by
    have h1 := hus.length_eq
    have h2 : (rung kind p ws).length ≤ ws.length := List.length_filter_le _ _
    omega
  refine ⟨us.length, base, cp, rfl, hb, hR.po.rd (o := 0) (n := 1) (by show 0 + 1 ≤ 1; omega), ⟨A1, rungK kind p, z, us, .slice (addrA base) us.length cp⟩, ⟨rfl, hrow, by show us.length < _; omega⟩, fun vs u Ad hq => ?_⟩
  obtain ⟨k1, k2, k3⟩ := hq
  obtain ⟨o9, ho9⟩ := hR.old bo (by simp)
  exact ⟨(hR.po.sub (A' := Ad) fun o ho => by rw [k2 bo o9 ho9]; exact ho).rd (o := 0) (n := 1) (by show 0 + 1 ≤ 1; omega), change_end hR h hws hus k1 k2 k3⟩

set_option maxRecDepth 100000 in
set_option maxHeartbeats 0 in
theorem bellChange_ok : FOk Tryz.prog 23 bellChangeS := by
  refine fok_a mixed alChange fun ⟨⟨t, m, ws⟩, h, z⟩ vs A hp => ?_
  obtain ⟨a1, l1, k1, a2, l2, k2, a3, l3, k3, rfl, hT, hok, hlen⟩ : ∃ a1 l1 k1 a2 l2 k2 a3 l3 k3, vs = [.pointer (some ⟨t, 0, none⟩), deedV (h.cells (.slice a1 l1 k1) (.slice a2 l2 k2) (.slice a3 l3 k3)), .int .i64 z] ∧ TowerAt A t m ws ∧ WOk ws ∧ ws.length ≤ 1000000 := hp
  have hC : CTSound Tryz.prog (lookC [specE 34 bellRgS, specE 37 sortRingS, specE 36 parentS] noC) := lookC_sound (noC_sound _) (fun x hx => by
    simp only [List.mem_cons, List.not_mem_nil, or_false] at hx
    rcases hx with rfl | rfl | rfl
    · exact specE_ok bellRg_ok
    · exact specE_ok sortRing_ok
    · exact specE_ok parent_ok)
  obtain ⟨zxid, kind, ses, turn, xid, time, path, data, owner, ver, cver, tmo, err, cfg, mem⟩ := h
  refine ⟨_, noL, 60, hC, noL_sound _, fun blk os out tape D hD => ?_⟩
  conv => lhs; whnf
  refine (hD _).2 fun bt A1 hN1 => ?_
  have hN1 : A.New A1 bt #[.pointer (some ⟨t, 0, none⟩)] 33 := hN1
  conv => lhs; whnf
  refine (hD _).2 fun bz A2 hN2 => ?_
  have hN2 : A1.New A2 bz #[.int .i64 z] 22 := hN2
  conv => lhs; whnf
  refine (hD _).2 fun bo A3 hN3 => ?_
  have hN3 : A2.New A3 bo #[.slice none 0 0] 42 := hN3
  have hneq : ∀ {X : Arena} {a b : Nat} {o : Obj}, X.blk a = some o → X.blk b = none → a ≠ b := fun h1 h2 e => by rw [e, h2] at h1; cases h1
  obtain ⟨ot, hot⟩ := hT.top.dom
  obtain ⟨em, cm, hom, _⟩ := hT.map
  have s1 := hN1.sub
  have s2 := s1.trans hN2.sub
  have s3 := s2.trans hN3.sub
  have hbo : A.blk bo = none := by
    cases h : A.blk bo with
    | none => rfl
    | some o => have := hN3.none_; rw [s2 _ _ h] at this; cases this
  have hR0 : RgAt A3 A3 t m bt bo bz ws z (.slice none 0 0) [] := by
    refine ⟨⟨hT.top.sub fun o ho => s3 _ _ ho, hT.map.sub fun o ho => s3 _ _ ho, hT.nd, hT.ne⟩, (CellsAt.new hN1).sub fun o ho => hN3.sub _ _ (hN2.sub _ _ ho), CellsAt.new hN3, (CellsAt.new hN2).sub fun o ho => hN3.sub _ _ ho, GrowR.nil _ _ _ _, fun k hk => ?_, fun _ h => h, ?_⟩
    · rcases hk with rfl | rfl | rfl | rfl | rfl
      · exact ⟨_, s3 _ _ hot⟩
      · exact ⟨_, s3 _ _ hom⟩
      · exact ⟨_, hN3.sub _ _ (hN2.sub _ _ hN1.at_)⟩
      · exact ⟨_, hN3.at_⟩
      · exact ⟨_, hN3.sub _ _ hN2.at_⟩
    · exact ⟨hneq hom hN1.none_, hneq (s2 _ _ hom) hN3.none_, hneq (s1 _ _ hom) hN2.none_, (hneq (s2 _ _ hot) hN3.none_).symm, (hneq (hN2.sub _ _ hN1.at_) hN3.none_).symm, (hneq hN2.at_ hN3.none_).symm⟩
  have hT0 : RgTo A A3 A3 m := ⟨fun k o ho _ => s3 k o ho, fun k o ho => ⟨o, s3 k o ho⟩⟩
  conv => lhs; whnf
  refine split_dec (fun h1 => ?_) (fun h1 => ?_)
  · obtain rfl : kind = 1 := h1
    conv => lhs; whnf
    refine (hD _).2 fun gs A4 hN4 => ?_
    have hN4 : A3.New A4 gs #[.int .u8 2] 39 := hN4
    obtain ⟨g1, hp1, hq1⟩ := rg_call hR0 hT0 hbo hN4 1 path [2] rfl rfl (by decide) (by show 0 + ws.length ≤ _; omega)
    conv => lhs; whnf
    refine (hD _).2 ⟨g1, hp1, fun u A5 hq => ?_⟩
    obtain ⟨E5, v5, us1, hu1, hR5, hT5⟩ := hq1 _ u A5 hq
    conv => lhs; whnf
    refine (hD _).2 ⟨path, rfl, fun u A6 hq => ?_⟩
    obtain ⟨h6, hv⟩ : A6 = A5 ∧ u = .string (parentP path) := hq
    subst h6; subst hv
    conv => lhs; whnf
    refine (hD _).2 fun gs2 A7 hN7 => ?_
    have hN7 : A6.New A7 gs2 #[.int .u8 3] 39 := hN7
    have hbig7 : ([] ++ us1.map (ringOf 1 z)).length + (ws.filter fun w => !outP path [2] w).length ≤ 1000000000 := by
      have h1 := hu1.length_eq
      have h2 := List.length_filter_le (outP path [2]) ws
      have h3 := List.length_filter_le (fun w => !outP path [2] w) ws
      rw [List.nil_append, List.length_map]
      omega
    obtain ⟨g2, hp2, hq2⟩ := rg_call hR5 hT5 hbo hN7 4 (parentP path) [3] rfl rfl (by decide) hbig7
    conv => lhs; whnf
    refine (hD _).2 ⟨g2, hp2, fun u A8 hq => ?_⟩
    obtain ⟨E8, v8, us2, hu2, hR8, hT8⟩ := hq2 _ u A8 hq
    have hcel : (([] ++ us1.map (ringOf 1 z)) ++ us2.map (ringOf 4 z)).flatMap RingD.cells = (us1 ++ us2).flatMap (rC (rungK 1 path) z) := by
      rw [List.nil_append, List.flatMap_append, List.flatMap_append, rings_of (kf := rungK 1 path) fun w hw => ?_, rings_of (kf := rungK 1 path) fun w hw => ?_]
      · exact kind_one2 (List.mem_filter.1 (hu2.mem_iff.1 hw)).2
      · exact kind_one (List.mem_filter.1 (hu1.mem_iff.1 hw)).2
    obtain ⟨n9, base9, cp9, rfl, hb9, hrd9, g9, hp9, hq9⟩ := tail_ready hlen hR8 hT8 (two_left fun _ _ => rung_one) (two_perm hu1 hu2 fun _ _ => rung_one) (by simp) hcel
    rcases hb9 with rfl | ⟨gr9, rfl⟩ <;> (conv => lhs; whnf)
    all_goals
      repeat (first | refine go_rd hrd9 ?_ | refine go_D hD rfl ?_
              conv => lhs; whnf)
      refine (hD _).2 ⟨g9, hp9, fun u A9 hq => ?_⟩
      obtain ⟨hrd0, hend⟩ := hq9 _ u A9 hq
      conv => lhs; whnf
      repeat (first | refine go_rd hrd0 ?_ | refine go_D hD rfl ?_
              conv => lhs; whnf)
      exact (hD _).2 hend
  · conv => lhs; whnf
    refine split_dec (fun h2 => ?_) (fun h2 => ?_)
    · obtain rfl : kind = 2 := h2
      conv => lhs; whnf
      refine (hD _).2 fun gs A4 hN4 => ?_
      have hN4 : A3.New A4 gs #[.int .u8 1, .int .u8 2, .int .u8 3] 39 := hN4
      obtain ⟨g1, hp1, hq1⟩ := rg_call hR0 hT0 hbo hN4 2 path [1, 2, 3] rfl rfl (by decide) (by show 0 + ws.length ≤ _; omega)
      conv => lhs; whnf
      refine (hD _).2 ⟨g1, hp1, fun u A5 hq => ?_⟩
      obtain ⟨E5, v5, us1, hu1, hR5, hT5⟩ := hq1 _ u A5 hq
      conv => lhs; whnf
      refine (hD _).2 ⟨path, rfl, fun u A6 hq => ?_⟩
      obtain ⟨h6, hv⟩ : A6 = A5 ∧ u = .string (parentP path) := hq
      subst h6; subst hv
      conv => lhs; whnf
      refine (hD _).2 fun gs2 A7 hN7 => ?_
      have hN7 : A6.New A7 gs2 #[.int .u8 3] 39 := hN7
      have hbig7 : ([] ++ us1.map (ringOf 2 z)).length + (ws.filter fun w => !outP path [1, 2, 3] w).length ≤ 1000000000 := by
        have h1 := hu1.length_eq
        have h2 := List.length_filter_le (outP path [1, 2, 3]) ws
        have h3 := List.length_filter_le (fun w => !outP path [1, 2, 3] w) ws
        rw [List.nil_append, List.length_map]
        omega
      obtain ⟨g2, hp2, hq2⟩ := rg_call hR5 hT5 hbo hN7 4 (parentP path) [3] rfl rfl (by decide) hbig7
      conv => lhs; whnf
      refine (hD _).2 ⟨g2, hp2, fun u A8 hq => ?_⟩
      obtain ⟨E8, v8, us2, hu2, hR8, hT8⟩ := hq2 _ u A8 hq
      have hcel : (([] ++ us1.map (ringOf 2 z)) ++ us2.map (ringOf 4 z)).flatMap RingD.cells = (us1 ++ us2).flatMap (rC (rungK 2 path) z) := by
        rw [List.nil_append, List.flatMap_append, List.flatMap_append, rings_of (kf := rungK 2 path) fun w hw => ?_, rings_of (kf := rungK 2 path) fun w hw => ?_]
        · have h2 := List.mem_filter.1 (hu2.mem_iff.1 hw)
          exact kind_two2 (by simpa using (List.mem_filter.1 h2.1).2) h2.2
        · exact kind_two (List.mem_filter.1 (hu1.mem_iff.1 hw)).2
      obtain ⟨n9, base9, cp9, rfl, hb9, hrd9, g9, hp9, hq9⟩ := tail_ready hlen hR8 hT8 (two_left fun w hw => rung_two (hok w hw)) (two_perm hu1 hu2 fun w hw => rung_two (hok w hw)) (by simp) hcel
      rcases hb9 with rfl | ⟨gr9, rfl⟩ <;> (conv => lhs; whnf)
      all_goals
        repeat (first | refine go_rd hrd9 ?_ | refine go_D hD rfl ?_
                conv => lhs; whnf)
        refine (hD _).2 ⟨g9, hp9, fun u A9 hq => ?_⟩
        obtain ⟨hrd0, hend⟩ := hq9 _ u A9 hq
        conv => lhs; whnf
        repeat (first | refine go_rd hrd0 ?_ | refine go_D hD rfl ?_
                conv => lhs; whnf)
        exact (hD _).2 hend
    · conv => lhs; whnf
      refine split_dec (fun h3 => ?_) (fun h3 => ?_)
      · obtain rfl : kind = 3 := h3
        conv => lhs; whnf
        refine (hD _).2 fun gs A4 hN4 => ?_
        have hN4 : A3.New A4 gs #[.int .u8 1, .int .u8 2] 39 := hN4
        obtain ⟨g1, hp1, hq1⟩ := rg_call hR0 hT0 hbo hN4 3 path [1, 2] rfl rfl (by decide) (by show 0 + ws.length ≤ _; omega)
        conv => lhs; whnf
        refine (hD _).2 ⟨g1, hp1, fun u A5 hq => ?_⟩
        obtain ⟨E5, v5, us1, hu1, hR5, hT5⟩ := hq1 _ u A5 hq
        have hcel : ([] ++ us1.map (ringOf 3 z)).flatMap RingD.cells = us1.flatMap (rC (rungK 3 path) z) := by
          rw [List.nil_append, rings_of (kf := rungK 3 path) fun w hw => ?_]
          exact kind_three (List.mem_filter.1 (hu1.mem_iff.1 hw)).2
        have hus : us1.Perm (rung 3 path ws) := by
          unfold rung
          rw [← List.filter_congr fun w hw => rung_three (hok w hw)]
          exact hu1
        have hws : (ws.filter fun w => !outP path [1, 2] w) = unrung 3 path ws := List.filter_congr fun w hw => by rw [rung_three (hok w hw), Bool.not_not]
        obtain ⟨n9, base9, cp9, rfl, hb9, hrd9, g9, hp9, hq9⟩ := tail_ready hlen hR5 hT5 hws hus (by simp) hcel
        rcases hb9 with rfl | ⟨gr9, rfl⟩ <;> (conv => lhs; whnf)
        all_goals
          repeat (first | refine go_rd hrd9 ?_ | refine go_D hD rfl ?_
                  conv => lhs; whnf)
          refine (hD _).2 ⟨g9, hp9, fun u A9 hq => ?_⟩
          obtain ⟨hrd0, hend⟩ := hq9 _ u A9 hq
          conv => lhs; whnf
          repeat (first | refine go_rd hrd0 ?_ | refine go_D hD rfl ?_
                  conv => lhs; whnf)
          exact (hD _).2 hend
      · have hk : ∀ w, rungK kind path w = 0 := fun w => by
          unfold rungK
          rw [if_neg h1, if_neg h2, if_neg h3]
        have hws : ws = unrung kind path ws := (List.filter_eq_self.2 fun w _ => decide_eq_true (hk w)).symm
        have hus : List.Perm [] (rung kind path ws) := by
          have : rung kind path ws = [] := List.filter_eq_nil_iff.2 fun w _ => by rw [decide_eq_true (hk w)]; simp
          rw [this]
        obtain ⟨n9, base9, cp9, e9, hb9, hrd9, g9, hp9, hq9⟩ := tail_ready hlen hR0 hT0 hws hus rfl rfl
        injection e9 with e1 e2 e3
        obtain rfl : base9 = none := (addrA_inj (a := none) e1).symm
        subst e2; subst e3
        clear hb9
        conv => lhs; whnf
        repeat (first | refine go_rd hrd9 ?_ | refine go_D hD rfl ?_
                conv => lhs; whnf)
        refine (hD _).2 ⟨g9, hp9, fun u A9 hq => ?_⟩
        obtain ⟨hrd0, hend⟩ := hq9 _ u A9 hq
        conv => lhs; whnf
        repeat (first | refine go_rd hrd0 ?_ | refine go_D hD rfl ?_
                conv => lhs; whnf)
        exact (hD _).2 hend

end
end Go.Proofs.YtienbbhelhhfjaaGreatDoor

namespace Go.Proofs.YtienbbhelhhfjaaGreatDoor
open Go.Sx Go.RowKit
noncomputable section
open Classical

def memberOk (last : Int) (m : MemD) : Bool :=
  if m.id ≤ last ∨ 7 < m.id then false
  else if m.role = 2 then decide (m.weight = 0 ∧ m.group = 0)
  else decide (m.role = 1 ∧ 0 ≤ m.weight ∧ m.weight ≤ 1000 ∧ 0 ≤ m.group ∧ m.group < 7)

theorem memberOk_iff (last : Int) (m : MemD) : memberOk last m = true ↔ last < m.id ∧ m.id ≤ 7 ∧ ((m.role = 2 ∧ m.weight = 0 ∧ m.group = 0) ∨ (m.role = 1 ∧ 0 ≤ m.weight ∧ m.weight ≤ 1000 ∧ 0 ≤ m.group ∧ m.group < 7)) := by
  unfold memberOk
  split
  · simp; omega
  · split
    · simp; omega
    · simp; omega

def ensGo (last w : Int) : List MemD → Option (Int × Int)
  | [] => some (last, w)
  | m :: ms => if memberOk last m = true then ensGo m.id (w + m.weight) ms else none

/-- The error's number of a config. -/
def ensD (ver : Int) (ms : List MemD) : Int :=
  if 7 < ms.length then 3 else match ensGo 0 0 ms with
    | none => 140
    | some (_, w) => if w = 0 ∨ ver < 0 ∨ 4611686018427387904 < ver then 140 else 0

theorem mem_at {A : Arena} {g o n : Nat} {l : List MemD} (h : A.rd g o (n * 4) = some (memCells l)) (k : Nat) (hk : k < l.length) (hn : n = l.length) : A.rd g (o + k * 4) 4 = some [.int .i64 l[k].id, .int .u8 l[k].role, .int .i64 l[k].weight, .int .i64 l[k].group] := by
  have := rows_at (rows := l.map MemD.cells) h (memCells_rows l) k (by simpa using hk) (by simpa using hn)
  simpa [MemD.cells] using this

def ensS : FSpec := ⟨Int × List MemD, fun g vs A => ∃ vm, vs = [.agg #[.int .i64 g.1, vm]] ∧ MemR A vm g.2, fun g _ A v A' => A' = A ∧ v = .int .i64 (ensD g.1 g.2)⟩

def ensInv (A : Arena) (ms : List MemD) : LInv := { γ := Nat × Int × Int, G := fun s => s.1 ≤ ms.length ∧ ensGo s.2.1 s.2.2 (ms.drop s.1) = ensGo 0 0 ms ∧ 0 ≤ s.2.2 ∧ s.2.2 ≤ 1000 * s.1, keepS := [1, 3, 5, 14, 15], keepB := [0], sl := fun s => [(4, .v (.int .i64 s.2.2)), (16, .v (.int .i64 s.1))], bl := fun s => [(1, .cells [.v (.int .i64 s.2.1)] 0 (3 + 1))], ar := fun _ => A, mu := fun s => ms.length - s.1 }

set_option maxRecDepth 100000 in
set_option maxHeartbeats 0 in
theorem ens_ok : FOk Tryz.prog 33 ensS := by
  refine fok_v mixed fun ⟨ver, ms⟩ vs A hp => ?_
  simp only [ensS] at hp
  obtain ⟨vm, rfl, ⟨ao, c, rfl, hc, hl, ha1, ha2, ha3⟩, hxl⟩ := hp
  refine ⟨noC, tabO Tryz.prog noC noL 60 [(33, 0)], 60, noC_sound _, tabO_sound mixed (noC_sound _) (noL_sound _) _ _, fun blk os out tape D hD => ?_⟩
  conv => lhs; whnf
  refine split_dec (fun h7 => ?_) (fun h7 => ?_) <;> (conv => lhs; whnf)
  · refine (hD _).2 ⟨rfl, ?_⟩
    have h7 : (7 : Int) < ms.length := h7
    rw [ensD, if_pos (show 7 < ms.length by omega)]
  have h7 : ¬ (7 : Int) < ms.length := h7
  refine (hD _).2 ⟨ensInv A ms, ⟨(0, 0, 0), ⟨Nat.zero_le _, rfl, by simp, by simp⟩, ⟨rfl, rfl, trivial⟩, ⟨rfl, trivial⟩, rfl⟩, fun ⟨k, last, w⟩ hG => ⟨⟨trivial, trivial, trivial⟩, ⟨Nat.lt_succ_self 1, ⟨trivial, trivial⟩, trivial⟩, ?_⟩⟩
  obtain ⟨hk, hgo, hw0, hw1⟩ : k ≤ ms.length ∧ ensGo last w (ms.drop k) = ensGo 0 0 ms ∧ 0 ≤ w ∧ w ≤ 1000 * k := hG
  conv => lhs; whnf
  refine split_dec (fun hlt => ?_) (fun hlt => ?_)
  · have hkn : k < ms.length := by
      have hlt : (k : Int) < ms.length := hlt
      omega
    obtain ⟨g, o, rfl, hra⟩ := Sl.at_ hc ha1 ha2 ha3 (by omega)
    conv => lhs; whnf
    refine go_in ⟨by show (0 : Int) ≤ (k : Int); omega, hlt⟩ ?_
    conv => lhs; whnf
    refine go_rd (mem_at hra k hkn rfl) ?_
    have hdrop : ms.drop k = ms[k] :: ms.drop (k + 1) := List.drop_eq_getElem_cons hkn
    rw [hdrop] at hgo
    generalize ms[k] = m at hgo
    obtain ⟨id, role, weight, group⟩ := m
    have bad : ¬ (last < id ∧ id ≤ 7 ∧ ((role = 2 ∧ weight = 0 ∧ group = 0) ∨ (role = 1 ∧ 0 ≤ weight ∧ weight ≤ 1000 ∧ 0 ≤ group ∧ group < 7))) → Value.int .i64 140 = .int .i64 (ensD ver ms) := fun h => by
      have hm : ¬ memberOk last ⟨id, role, weight, group⟩ = true := fun hm => h ((memberOk_iff _ _).1 hm)
      rw [ensD, if_neg (by omega), ← hgo, ensGo, if_neg hm]
    have good : last < id → id ≤ 7 → ((role = 2 ∧ weight = 0 ∧ group = 0) ∨ (role = 1 ∧ 0 ≤ weight ∧ weight ≤ 1000 ∧ 0 ≤ group ∧ group < 7)) → IntKind.i64.wrap (w + weight) = w + weight ∧ (ensInv A ms).G (k + 1, id, w + weight) := fun h1 h2 h3 => by
      have hm : memberOk last ⟨id, role, weight, group⟩ = true := (memberOk_iff _ _).2 ⟨h1, h2, h3⟩
      rw [ensGo, if_pos hm] at hgo
      exact ⟨wrapI (by omega) (by omega), by show k + 1 ≤ ms.length; omega, hgo, by show 0 ≤ w + weight; omega, by show w + weight ≤ 1000 * ((k + 1 : Nat) : Int); omega⟩
    clear hgo hdrop hra ha1 ha2 ha3
    conv => lhs; whnf
    repeat' (first
      | exact (hD _).2 ⟨rfl, bad (by dsimp only at *; omega)⟩
      | (have hg := good (by dsimp only at *; omega) (by dsimp only at *; omega) (by dsimp only at *; omega)
         exact (hD _).2 ⟨(k + 1, id, w + weight), ⟨hg.2, ⟨congrArg (fun x => some (SV.v (.int .i64 x))) hg.1, inc_slot (by omega), trivial⟩, ⟨rfl, trivial⟩, rfl⟩, by show ms.length - (k + 1) < ms.length - k; omega, ⟨rfl, rfl, rfl, rfl, rfl, trivial⟩, ⟨rfl, trivial⟩⟩)
      | (refine split_nd (fun _ => ?_) (fun _ => ?_) <;> (conv => lhs; whnf))
      | (refine split_dec (fun _ => ?_) (fun _ => ?_) <;> (conv => lhs; whnf))
      | (refine go_in ⟨by show (0 : Int) ≤ (k : Int); omega, hlt⟩ ?_; conv => lhs; whnf))
  · conv => lhs; whnf
    have hkn : k = ms.length := by
      have hlt : ¬ (k : Int) < ms.length := hlt
      omega
    subst hkn
    rw [List.drop_eq_nil_of_le (Nat.le_refl _), ensGo] at hgo
    have fin1 : (w = 0 ∨ ver < 0 ∨ 4611686018427387904 < ver) → Value.int .i64 140 = .int .i64 (ensD ver ms) := fun h => by
      rw [ensD, if_neg (by omega), ← hgo]; dsimp only; rw [if_pos h]
    have fin2 : ¬ (w = 0 ∨ ver < 0 ∨ 4611686018427387904 < ver) → Value.int .i64 0 = .int .i64 (ensD ver ms) := fun h => by
      rw [ensD, if_neg (by omega), ← hgo]; dsimp only; rw [if_neg h]
    repeat' (first
      | exact (hD _).2 ⟨rfl, fin1 (by dsimp only at *; omega)⟩
      | exact (hD _).2 ⟨rfl, fin2 (by dsimp only at *; omega)⟩
      | (refine split_dec (fun _ => ?_) (fun _ => ?_) <;> (conv => lhs; whnf)))

end
end Go.Proofs.YtienbbhelhhfjaaGreatDoor

namespace Go.Proofs.YtienbbhelhhfjaaGreatDoor
open Go.Sx Go.RowKit
noncomputable section
open Classical

def hasTab : List Nat := [0, 23, 17, 11, 32, 260, 0, 128, 256, 64]

/-- The listed table lies in the arena. -/
def HasA (A : Arena) : Prop := A.rd 0 0 10 = some (hasTab.map fun n => .int .i64 (n : Nat))

theorem HasA.sub {A B : Arena} (h : HasA B) (hs : B.Sub A) : HasA A := rd_sub hs h

theorem HasA.at_ {A : Arena} (h : HasA A) (k : Nat) (hk : k < 10) : A.rd 0 (0 + k * 1) 1 = some [.int .i64 ((hasTab.getD k 0 : Nat) : Int)] := by
  have := rd_at (i := k) (m := 1) h (by omega)
  rw [Nat.mul_one, this]
  match k, hk with
  | 0, _ | 1, _ | 2, _ | 3, _ | 4, _ | 5, _ | 6, _ | 7, _ | 8, _ | 9, _ => rfl

/-- What a kind may have. -/
def hasK (k : Int) (i : Nat) : Prop := hasTab.getD k.toNat 0 / 2 ^ i % 2 = 1

/-- Has a deed what its kind may have alone, within limits? -/
def FitsD (h : DeedH) (np : Nat) : Prop :=
  (1 ≤ h.kind ∧ h.kind ≤ 9) ∧ (hasK h.kind 0 ∨ h.path.data.toList = []) ∧ (hasK h.kind 1 ∨ h.data.length = 0) ∧ (hasK h.kind 2 ∨ h.owner = 0) ∧ (hasK h.kind 3 ∨ h.ver = 0) ∧ (hasK h.kind 4 ∨ h.cver = 0) ∧
  (hasK h.kind 5 ∨ h.tmo = 0) ∧ (hasK h.kind 6 ∨ h.err = 0) ∧ (hasK h.kind 8 ∨ np = 0) ∧ (hasK h.kind 7 ∨ (h.cfg = 0 ∧ h.mem.length = 0)) ∧
  (hasK h.kind 0 → pathOk h.path.data.toList = true) ∧ h.data.length ≤ 1000 ∧ 0 ≤ h.owner ∧ 0 ≤ h.ver ∧ 0 ≤ h.cver ∧
  (h.kind = 1 ∨ h.kind = 2 → h.path.data.toList ≠ [47]) ∧ (h.kind = 4 → 1 ≤ h.tmo ∧ h.tmo ≤ 1000) ∧ (h.kind = 5 → 1 ≤ h.owner) ∧ (h.kind = 9 → 1 ≤ h.err)

def fitsS : FSpec := ⟨DeedD, fun d vs A => ∃ cs, vs = [deedV cs] ∧ DeedR A d cs ∧ HasA A, fun d _ A v A' => A' = A ∧ v = .bool (decide (FitsD d.h d.parts.length))⟩


end
end Go.Proofs.YtienbbhelhhfjaaGreatDoor
