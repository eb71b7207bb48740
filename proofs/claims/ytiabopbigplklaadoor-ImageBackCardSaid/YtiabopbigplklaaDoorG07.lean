/-
  Arenas: what lies in one lies in a greater one; what a store, a new row leave; slices that are read.
  Rows of keys and values; maps of an arena that are such rows; a block whose cells are all known.
  A tree in an arena: its nodes by paths, its sittings by sessions; what changes leave of it.
  Paths: part PaA: what beadle/path.Check tells of every text.
  Paths: part PaB: what beadle/path.Check tells of every text.
  Paths: part PaC: what beadle/path.Check tells of every text.
  Paths: part PaD: what beadle/path.Check tells of every text.
  Paths: part PaE: what beadle/path.Check tells of every text.
  Paths: part PaF: what beadle/path.Check tells of every text.
  What all contracts of this program want; loops over the places of a row.
  Rows of texts.
  Nodes as they are told, plain and in rows; what may be loaded.
  Members as plain data.
  Contracts: may a config be?
  Plain: numbers, seven bits a byte.
  Plain: a config's bytes.
  Plain: what an image is, and its bytes.
-/
import Derived.Test.YtiabopbigplklaaDoorG06
import Derived.Test.YtiabopbigplklaaDoorRows
import Derived.WalkKit
import Derived.Laws.Externs
import Derived.Lib.Bytealg
import Derived.Lib.CutLaws
import Derived.Lib.IndexMore
import Derived.Tactics
import Derived.Tactics2
import Derived.Shelf.RegionOpen
import Derived.Shelf.Abstract
import Derived.Shelf.RegionOpenPlain
import Derived.Laws.RangeString
import Derived.LoopTactic
import Derived.Laws.RangeAny
import Derived.RangeFuncNested
import Derived.RangeFuncBound
import Derived.RangeFuncCalls
import Derived.RangeFuncLeaves
import Derived.OwnWalkIn
import Derived.TacticsInMore
import Derived.LoopNIn
import Derived.LoopIn
import Derived.WalkSmall
import Derived.RangeFuncFrom
import Derived.Test.YtiabopbigplklaaDoorProg
namespace Go.Sx
noncomputable section

/-! ### One arena in another -/

def Arena.Sub (B A : Arena) : Prop := ∀ k o, B.blk k = some o → A.blk k = some o

theorem Arena.Sub.refl (A : Arena) : A.Sub A := fun _ _ h => h
theorem Arena.Sub.trans {A B C : Arena} (h : A.Sub B) (k : B.Sub C) : A.Sub C := fun i o ho => k i o (h i o ho)

theorem rd_mk {A : Arena} {g o n : Nat} {c : Array Value} {t : TypeId} {fz : Nat × Nat} (h : A.blk g = some (.cells c t fz)) (hle : o + n ≤ c.size) : A.rd g o n = some ((c.toList.drop o).take n) := by
  rw [A.rdeq]
  unfold rdOf
  rw [h]
  simp only
  rw [if_pos hle]

theorem rd_sub {A B : Arena} (h : B.Sub A) {g o n : Nat} {vs : List Value} (hr : B.rd g o n = some vs) : A.rd g o n = some vs := by
  obtain ⟨c, t, fz, hb, hle, rfl⟩ := rd_some hr
  exact rd_mk (h _ _ hb) hle

theorem rd_at {A : Arena} {g o N i m : Nat} {cs : List Value} (h : A.rd g o N = some cs) (hi : i + m ≤ N) : A.rd g (o + i) m = some ((cs.drop i).take m) := by
  obtain ⟨c, t, fz, hb, hle, rfl⟩ := rd_some h
  rw [rd_mk hb (by omega)]
  congr 1
  rw [List.drop_take, List.take_take, List.drop_drop]
  congr 1
  omega

theorem rd_dom {A : Arena} {g o n : Nat} {vs : List Value} (h : A.rd g o n = some vs) : ∃ ob, A.blk g = some ob := by
  obtain ⟨c, t, fz, hb, _⟩ := rd_some h
  exact ⟨_, hb⟩

/-- What is new in A'. -/
def Arena.minus (A' A : Arena) : Arena := Arena.of fun k => match A.blk k with
  | none => A'.blk k
  | some _ => none

theorem minus_blk {A A' : Arena} {k : Nat} {o : Obj} (h : (A'.minus A).blk k = some o) : A.blk k = none ∧ A'.blk k = some o := by
  have h : (match A.blk k with
    | none => A'.blk k
    | some _ => none) = some o := h
  split at h
  · exact ⟨by assumption, h⟩
  · cases h

theorem minus_mk {A A' : Arena} {k : Nat} {o : Obj} (h1 : A.blk k = none) (h2 : A'.blk k = some o) : (A'.minus A).blk k = some o := by
  show (match A.blk k with
    | none => A'.blk k
    | some _ => none) = some o
  rw [h1]; exact h2

theorem minus_sub (A A' : Arena) : (A'.minus A).Sub A' := fun _ _ h => (minus_blk h).2

theorem minus_none {A : Arena} {k : Nat} {o : Obj} (A' : Arena) (h : A.blk k = some o) : (A'.minus A).blk k = none := by
  show (match A.blk k with
    | none => A'.blk k
    | some _ => none) = none
  rw [h]

theorem rd_minus {A A' : Arena} {g o n : Nat} {vs : List Value} (h : A'.rd g o n = some vs) (hg : A.blk g = none) : (A'.minus A).rd g o n = some vs := by
  obtain ⟨c, t, fz, hb, hle, rfl⟩ := rd_some h
  exact rd_mk (minus_mk hg hb) hle

/-- What was new is new. -/
theorem minus_up {A A1 A2 : Arena} (h : A1.Sub A2) : (A1.minus A).Sub (A2.minus A) := fun k o hk => by
  obtain ⟨h1, h2⟩ := minus_blk hk
  exact minus_mk h1 (h _ _ h2)

theorem minus_later {A A1 A2 : Arena} (h : A.Sub A1) : (A2.minus A1).Sub (A2.minus A) := fun k o hk => by
  obtain ⟨h1, h2⟩ := minus_blk hk
  refine minus_mk ?_ h2
  cases hA : A.blk k with
  | none => rfl
  | some o' => rw [h _ _ hA] at h1; cases h1

/-! ### A new row, a store -/

theorem Arena.New.sub {A A' : Arena} {g : Nat} {c : Array Value} {t : TypeId} (h : A.New A' g c t) : A.Sub A' := fun k o hk => by
  rw [h.other k (fun e => by subst e; rw [h.none_] at hk; cases hk)]; exact hk

theorem Arena.New.rd {A A' : Arena} {g : Nat} {c : Array Value} {t : TypeId} (h : A.New A' g c t) {o n : Nat} (hle : o + n ≤ c.size) : A'.rd g o n = some ((c.toList.drop o).take n) := rd_mk h.at_ hle

theorem Arena.Put.sub {A A' B : Arena} {g o : Nat} {vs : List Value} (h : A.Put A' g o vs) (hB : B.Sub A) (hg : B.blk g = none) : B.Sub A' := fun k ob hk => by
  rw [h.other k (fun e => by subst e; rw [hg] at hk; cases hk)]; exact hB k ob hk

theorem Arena.Put.dom {A A' : Arena} {g o : Nat} {vs : List Value} (h : A.Put A' g o vs) (k : Nat) : A'.blk k = none ↔ A.blk k = none := by
  by_cases e : k = g
  · subst e
    obtain ⟨c, t, fz, c', h1, h2, _⟩ := h.at_
    rw [h1, h2]; simp
  · rw [h.other k e]

/-! ### Slices -/

/-- A slice of n elements with these cells. -/
def Sl (A : Arena) (es n : Nat) (v : Value) (cs : List Value) : Prop :=
  ∃ ao c, v = .slice ao n c ∧ n ≤ c ∧ cs.length = n * es ∧ (ao = none → c = 0) ∧ (∀ a, ao = some a → 0 < c → a.spot = none) ∧ (0 < n → ∀ a, ao = some a → A.rd a.block a.off (n * es) = some cs)

theorem Sl.at_ {A : Arena} {es n c : Nat} {ao : Option Addr} {cs : List Value} (h0 : n ≤ c) (h1 : ao = none → c = 0) (h2 : ∀ a, ao = some a → 0 < c → a.spot = none) (h3 : 0 < n → ∀ a, ao = some a → A.rd a.block a.off (n * es) = some cs) (hn : 0 < n) :
    ∃ g o, ao = some ⟨g, o, none⟩ ∧ A.rd g o (n * es) = some cs := by
  cases ao with
  | none => have := h1 rfl; omega
  | some a =>
    obtain ⟨g, o, t⟩ := a
    have h4 := h2 _ rfl (by omega)
    simp only at h4
    subst h4
    exact ⟨g, o, rfl, h3 hn _ rfl⟩

theorem Sl.sub {A B : Arena} (h : B.Sub A) {es n : Nat} {v : Value} {cs : List Value} (hs : Sl B es n v cs) : Sl A es n v cs := by
  obtain ⟨ao, c, h1, h2, h3, h4, h5, h6⟩ := hs
  exact ⟨ao, c, h1, h2, h3, h4, h5, fun hn a ha => rd_sub h (h6 hn a ha)⟩

theorem Sl.nil (A : Arena) (es : Nat) : Sl A es 0 (.slice none 0 0) [] :=
  ⟨none, 0, rfl, Nat.le_refl _, (by simp), fun _ => rfl, fun a h => (by cases h), fun h => (by omega)⟩

/-- Of zero elements: wherever it points. -/
theorem Sl.zero (A : Arena) (es : Nat) {ao : Option Addr} {c : Nat} (h1 : ao = none → c = 0) (h2 : ∀ a, ao = some a → 0 < c → a.spot = none) : Sl A es 0 (.slice ao 0 c) [] :=
  ⟨ao, c, rfl, Nat.zero_le _, (by simp), h1, h2, fun h => (by omega)⟩

theorem Sl.row {A : Arena} {es n g o c : Nat} {cs : List Value} (hc : n ≤ c) (h : A.rd g o (n * es) = some cs) : Sl A es n (.slice (some ⟨g, o, none⟩) n c) cs :=
  ⟨_, c, rfl, hc, rd_len h, fun h => (by cases h), fun a h _ => (by injection h with h; subst h; rfl), fun _ a ha => (by injection ha with ha; subst ha; exact h)⟩

theorem Sl.form {A : Arena} {es n : Nat} {v : Value} {cs : List Value} (h : Sl A es n v cs) : ∃ ao c, v = .slice ao n c := by
  obtain ⟨ao, c, h, _⟩ := h
  exact ⟨ao, c, h⟩

/-- Bytes. -/
def bv (b : UInt8) : Value := .int .u8 b.toNat

def SlB (A : Arena) (v : Value) (bs : List UInt8) : Prop := Sl A 1 bs.length v (bs.map bv) ∧ bs.length ≤ 140737488351232

theorem SlB.sub {A B : Arena} (h : B.Sub A) {v : Value} {bs : List UInt8} (hs : SlB B v bs) : SlB A v bs := ⟨hs.1.sub h, hs.2⟩

theorem byte_at {A : Arena} {g o n : Nat} {bs : List UInt8} (h : A.rd g o (n * 1) = some (bs.map bv)) (k : Nat) (hk : k < bs.length) (hn : n = bs.length) : A.rd g (o + k * 1) 1 = some [bv bs[k]] := by
  have := rd_at (i := k) (m := 1) h (by omega)
  rw [Nat.mul_one, this]
  congr 1
  rw [List.drop_eq_getElem_cons (by simpa using hk)]
  simp [bv]

/-- A row of rows. -/
theorem rows_at {A : Arena} {g o n es : Nat} {rows : List (List Value)} (h : A.rd g o (n * es) = some rows.flatten) (hes : ∀ r ∈ rows, r.length = es) (k : Nat) (hk : k < rows.length) (hn : n = rows.length) : A.rd g (o + k * es) es = some rows[k] := by
  subst hn
  have hle : k * es + es ≤ rows.length * es := by
    have := Nat.mul_le_mul_right es hk
    rwa [Nat.succ_mul] at this
  rw [rd_at h hle]
  congr 1
  have key : ∀ (l : List (List Value)) (k : Nat) (hk : k < l.length), (∀ r ∈ l, r.length = es) → (l.flatten.drop (k * es)).take es = l[k] := by
    intro l
    induction l with
    | nil => intro k hk; simp at hk
    | cons r l ih =>
      intro k hk hes
      have hr := hes r (by simp)
      cases k with
      | zero => simp [← hr]
      | succ k =>
        rw [List.flatten_cons, List.drop_append, List.drop_eq_nil_of_le (by rw [hr, Nat.succ_mul]; omega), List.nil_append]
        rw [show (k + 1) * es - r.length = k * es by rw [hr, Nat.succ_mul]; omega]
        simpa using ih k (by simpa using hk) (fun r' h' => hes r' (List.mem_cons_of_mem _ h'))
  exact key rows k hk hes

/-- A clone: something appended to nothing. -/
theorem clone_end {A A1 A2 : Arena} {base : Option (Nat × Nat)} {es n : Nat} {e : TypeId} {ys : List Value} {v : Value} (h1 : A.Sub A1) (ha : Appended A1 base 0 0 es e [] ys n v A2) (hl : ys.length = n * es) : A.Sub A2 ∧ Sl (A2.minus A) es n v ys := by
  rcases ha with ⟨h0, rfl, h3⟩ | ⟨h0, g, nc, cs, zs, rfl, hn, hcs, _, hN⟩
  · have hn : n = 0 := by omega
    subst hn
    have : ys = [] := List.length_eq_zero_iff.1 (by rw [hl]; simp)
    subst this
    refine ⟨?_, ?_⟩
    · rcases h3 with ⟨_, rfl⟩ | ⟨g, o, hb, hP⟩
      · exact h1
      · intro k o' hk
        by_cases e : k = g
        · subst e
          obtain ⟨c, t, fz, c', k1, k2, k3⟩ := hP.at_
          have hcc : c' = c := Array.toList_inj.1 (by rw [k3]; simp)
          have := h1 _ _ hk
          rw [k1] at this
          rw [k2, hcc]; exact this
        · rw [hP.other k e]; exact h1 _ _ hk
    · exact Sl.zero _ _ (fun _ => rfl) (fun a ha _ => by
        cases base with
        | none => cases ha
        | some go => injection ha with ha; subst ha; rfl)
  · have hs := h1.trans hN.sub
    refine ⟨hs, ?_⟩
    have hg : A.blk g = none := by
      cases hA : A.blk g with
      | none => rfl
      | some o => have := h1 _ _ hA; rw [hN.none_] at this; cases this
    rw [Nat.zero_add] at hn ⊢
    refine Sl.row hn ?_
    have hsz : cs.size = ys.length + zs.length := by rw [← Array.length_toList, hcs]; simp
    refine rd_minus ?_ hg
    rw [hN.rd (by omega), hcs]
    simp [hl]

/-- The same, with the row itself. -/
theorem clone_row {A A1 A2 : Arena} {base : Option (Nat × Nat)} {es n : Nat} {e : TypeId} {ys : List Value} {v : Value} (h1 : A.Sub A1) (ha : Appended A1 base 0 0 es e [] ys n v A2) (hl : ys.length = n * es) (hn : 0 < n) :
    ∃ g nc c t, v = .slice (some ⟨g, 0, none⟩) n nc ∧ n ≤ nc ∧ A.blk g = none ∧ A2.blk g = some (.cells c t (0, 0)) ∧ n * es ≤ c.size := by
  rcases ha with ⟨h0, _⟩ | ⟨h0, g, nc, cs, zs, rfl, hnc, hcs, _, hN⟩
  · omega
  · have hg : A.blk g = none := by
      cases hA : A.blk g with
      | none => rfl
      | some o => have := h1 _ _ hA; rw [hN.none_] at this; cases this
    rw [Nat.zero_add] at hnc ⊢
    refine ⟨g, nc, cs, e, rfl, hnc, hg, hN.at_, ?_⟩
    rw [← Array.length_toList, hcs]
    simp; omega

theorem plain_v (v : Value) : plainV (.v v) = some v := rfl

theorem plainVs_v : ∀ (vs : List Value), plainVs (vs.map SV.v) = some vs
  | [] => rfl
  | v :: vs => by simp only [List.map_cons, plainVs, plain_v, plainVs_v vs]

/-- A contract out of a run, at plain arguments. -/
theorem fok_v {P : Program} (hm : P.follows .mixedOrders = true) {f : FuncId} {S : FSpec}
    (hr : ∀ g vs A, S.pre g vs A → ∃ C Λ n, CTSound P C ∧ LTSound P Λ ∧ Run P C Λ n f (vs.map SV.v) A (endP S g vs A)) : FOk P f S :=
  fok_of_run hm fun g vs A hp => by
    obtain ⟨C, Λ, n, h1, h2, h3⟩ := hr g vs A hp
    exact ⟨C, Λ, n, _, h1, h2, plainVs_v vs, fun ρ x hx => by obtain ⟨v, _, rfl⟩ := List.mem_map.1 hx; trivial, h3⟩

theorem fok_k {P : Program} (hm : P.follows .mixedOrders = true) {f : FuncId} {S : FSpec}
    (hr : ∀ g vs A, S.pre g vs A → ∃ C Λ n, CTSound P C ∧ LTSound P Λ ∧ Run P C Λ n f (vs.map SV.v) A (endK S g vs A)) : FOk P f S :=
  fok_of_end hm (fun _ _ _ _ _ h => h) (fun _ => false) fun g vs A hp => by
    obtain ⟨C, Λ, n, h1, h2, h3⟩ := hr g vs A hp
    exact ⟨C, Λ, n, _, h1, h2, plainVs_v vs, fun ρ x hx => by obtain ⟨v, _, rfl⟩ := List.mem_map.1 hx; trivial, h3⟩

/-- The same, where variables of some types are laid in the arena. -/
theorem fok_a {P : Program} (hm : P.follows .mixedOrders = true) {f : FuncId} {S : FSpec} (al : TypeId → Bool)
    (hr : ∀ g vs A, S.pre g vs A → ∃ C Λ n, CTSound P C ∧ LTSound P Λ ∧ Run P C Λ n f (vs.map SV.v) A (endP S g vs A) al) : FOk P f S :=
  fok_of_end hm (fun _ _ _ _ _ h => endP_end h) al fun g vs A hp => by
    obtain ⟨C, Λ, n, h1, h2, h3⟩ := hr g vs A hp
    exact ⟨C, Λ, n, _, h1, h2, plainVs_v vs, fun ρ x hx => by obtain ⟨v, _, rfl⟩ := List.mem_map.1 hx; trivial, h3⟩

theorem lt1 (x : SV) (h : ∀ ρ n, x.lt ρ n) : ∀ (ρ : Nat → Loc), ∀ z ∈ [x], z.lt ρ 0 := fun _ z hz => by
  simp only [List.mem_singleton] at hz
  subst hz; exact h _ _

theorem lt_plain {l : List SV} (h : ∀ x ∈ l, ∀ ρ n, x.lt ρ n) : ∀ (ρ : Nat → Loc), ∀ z ∈ l, z.lt ρ 0 := fun _ z hz => h z hz _ _

theorem lts_v (ρ : Nat → Loc) (n : Nat) (vs : List Value) : SV.lts ρ n (vs.map SV.v) := lts_iff.2 fun x hx => by
  obtain ⟨v, _, rfl⟩ := List.mem_map.1 hx
  trivial

/-- A new block of known type joins the arena. -/
theorem HRel.grow {ρ : Nat → Loc} {h : HS} {w : World} (R : HRel ρ h w) {b : Nat} {cs : List SV} {τ : Nat} (hb : h.H.get b = some (.cells cs 0 (τ + 1))) :
    ∃ A' c t fz, (ρ b).off = 0 ∧ h.M.A.Sub A' ∧ h.M.A.blk (ρ b).blk = none ∧ A'.blk (ρ b).blk = some (.cells c t fz) ∧ Fz c.size fz ∧ c.toList = cs.map (SV.den ρ) ∧
      (∀ k o, A'.blk k = some o → w.heap[k]? = some o) ∧ ∀ k o, A'.blk k = some o → (∃ o', h.M.A.blk k = some o') ∨ ∃ b B, h.H.get b = some B ∧ (ρ b).blk = k := by
  obtain ⟨c, t, fz, h1, h2, _, _, h5, h6⟩ := (R.blk b _ hb).2.2
  have hA := R.aprA b _ hb
  rcases h6 with h6 | ⟨_, h7, h8⟩
  · omega
  · have h9 := h8 rfl
    refine ⟨Arena.of fun k => if k = (ρ b).blk then some (.cells c t fz) else h.M.A.blk k, c, t, fz, h7, fun k o hk => ?_, hA, ?_, h5, ?_, fun k o hk => ?_, fun k o hk => ?_⟩
    · show (if k = (ρ b).blk then some (.cells c t fz) else h.M.A.blk k) = some o
      rw [if_neg (fun e => by rw [e, hA] at hk; cases hk)]; exact hk
    · show (if (ρ b).blk = (ρ b).blk then some (.cells c t fz) else h.M.A.blk _) = _
      rw [if_pos rfl]
    · refine List.ext_getElem? fun i => ?_
      by_cases hi : i < cs.length
      · have := h2 i cs[i] (List.getElem?_eq_getElem hi)
        rw [h7, Nat.zero_add] at this
        rw [List.getElem?_map, List.getElem?_eq_getElem hi, Array.getElem?_toList, this]; rfl
      · rw [List.getElem?_eq_none (by rw [Array.length_toList]; omega), List.getElem?_eq_none (by rw [List.length_map]; omega)]
    · have hk' : (if k = (ρ b).blk then some (.cells c t fz) else h.M.A.blk k) = some o := hk
      split at hk'
      · rename_i e
        subst e
        rw [h1]; exact hk'
      · exact R.are k o hk'
    · have hk' : (if k = (ρ b).blk then some (.cells c t fz) else h.M.A.blk k) = some o := hk
      split at hk'
      · rename_i e
        exact .inr ⟨b, _, hb, e.symm⟩
      · exact .inl ⟨o, hk'⟩

end
end Go.Sx

namespace Go.Sx
noncomputable section

section
variable {κ α β : Type} [BEq κ]

/-- What stands at a key. -/
def kGet (p : κ) : List (κ × α) → Option α
  | [] => none
  | e :: es => bif p == e.1 then some e.2 else kGet p es

def kPut (p : κ) (x : α) : List (κ × α) → List (κ × α)
  | [] => [(p, x)]
  | e :: es => bif p == e.1 then (p, x) :: es else e :: kPut p x es

def kDel (p : κ) : List (κ × α) → List (κ × α)
  | [] => []
  | e :: es => bif p == e.1 then es else e :: kDel p es

/-- What stands at a key, turned. -/
def kMod (p : κ) (f : α → α) : List (κ × α) → List (κ × α)
  | [] => []
  | e :: es => bif p == e.1 then (e.1, f e.2) :: es else e :: kMod p f es

/-- The same keys, with other values. -/
def kMap (f : α → β) (l : List (κ × α)) : List (κ × β) := l.map fun e => (e.1, f e.2)

theorem kGet_map (f : α → β) (p : κ) : ∀ l : List (κ × α), kGet p (kMap f l) = (kGet p l).map f
  | [] => rfl
  | e :: es => by
    have := kGet_map f p es
    simp only [kMap, List.map_cons, kGet] at this ⊢
    cases hb : p == e.1 <;> simp only [cond_true, cond_false, this, Option.map_some]

theorem kPut_map (f : α → β) (p : κ) (x : α) : ∀ l : List (κ × α), kPut p (f x) (kMap f l) = kMap f (kPut p x l)
  | [] => rfl
  | e :: es => by
    have := kPut_map f p x es
    simp only [kMap, List.map_cons, kPut] at this ⊢
    cases hb : p == e.1 <;> simp only [cond_true, cond_false, this, List.map_cons]

theorem kDel_map (f : α → β) (p : κ) : ∀ l : List (κ × α), kDel p (kMap f l) = kMap f (kDel p l)
  | [] => rfl
  | e :: es => by
    have := kDel_map f p es
    simp only [kMap, List.map_cons, kDel] at this ⊢
    cases hb : p == e.1 <;> simp only [cond_true, cond_false, this, List.map_cons]

theorem kMod_map (f : α → β) (h : α → α) (h' : β → β) (hh : ∀ x, h' (f x) = f (h x)) (p : κ) : ∀ l : List (κ × α), kMod p h' (kMap f l) = kMap f (kMod p h l)
  | [] => rfl
  | e :: es => by
    have := kMod_map f h h' hh p es
    simp only [kMap, List.map_cons, kMod] at this ⊢
    cases hb : p == e.1 <;> simp only [cond_true, cond_false, this, List.map_cons, hh]

theorem kGet_mem {p : κ} {x : α} (hq : ∀ q : κ, (p == q) = true → q = p) : ∀ {l : List (κ × α)}, kGet p l = some x → (p, x) ∈ l
  | [], h => by cases h
  | e :: es, h => by
    simp only [kGet] at h
    cases hb : p == e.1 with
    | true =>
      rw [hb] at h
      injection h with h
      rw [← hq _ hb, ← h]
      exact List.mem_cons_self
    | false => rw [hb] at h; exact List.mem_cons_of_mem _ (kGet_mem hq h)

theorem kGet_none {p : κ} (hr : (p == p) = true) : ∀ {l : List (κ × α)}, kGet p l = none → p ∉ l.map (·.1)
  | [], _ => by simp
  | e :: es, h => by
    simp only [kGet] at h
    cases hb : p == e.1 with
    | true => rw [hb] at h; cases h
    | false =>
      rw [hb] at h
      have := kGet_none hr (l := es) h
      simp only [List.map_cons, List.mem_cons, not_or]
      exact ⟨fun e' => (by rw [← e', hr] at hb; cases hb), this⟩

theorem kPut_none {p : κ} {x : α} : ∀ {l : List (κ × α)}, kGet p l = none → kPut p x l = l ++ [(p, x)]
  | [], _ => rfl
  | e :: es, h => by
    simp only [kGet] at h
    cases hb : p == e.1 with
    | true => rw [hb] at h; cases h
    | false => rw [hb] at h; simp only [kPut, hb, cond_false, kPut_none (l := es) h, List.cons_append]

theorem kDel_none {p : κ} : ∀ {l : List (κ × α)}, kGet p l = none → kDel p l = l
  | [], _ => rfl
  | e :: es, h => by
    simp only [kGet] at h
    cases hb : p == e.1 with
    | true => rw [hb] at h; cases h
    | false => rw [hb] at h; simp only [kDel, hb, cond_false, kDel_none (l := es) h]

theorem kMod_none {p : κ} {f : α → α} : ∀ {l : List (κ × α)}, kGet p l = none → kMod p f l = l
  | [], _ => rfl
  | e :: es, h => by
    simp only [kGet] at h
    cases hb : p == e.1 with
    | true => rw [hb] at h; cases h
    | false => rw [hb] at h; simp only [kMod, hb, cond_false, kMod_none (l := es) h]

theorem kMod_at {p : κ} {f : α → α} {x : α} : ∀ {l : List (κ × α)}, kGet p l = some x → kMod p (fun _ => f x) l = kMod p f l
  | [], h => by cases h
  | e :: es, h => by
    simp only [kGet] at h
    cases hb : p == e.1 with
    | true =>
      rw [hb] at h
      injection h with h
      simp only [kMod, hb, cond_true, h]
    | false => rw [hb] at h; simp only [kMod, hb, cond_false, kMod_at (l := es) h]

/-- Where a key stands, the row is a beginning, that entry, and an end. -/
theorem kGet_split {p : κ} {x : α} (hq : ∀ q : κ, (p == q) = true → q = p) : ∀ {l : List (κ × α)}, kGet p l = some x → ∃ a b, l = a ++ (p, x) :: b ∧ kGet p a = none ∧ (∀ y, kPut p y l = a ++ (p, y) :: b) ∧ kDel p l = a ++ b ∧ ∀ f, kMod p f l = a ++ (p, f x) :: b
  | [], h => by cases h
  | e :: es, h => by
    simp only [kGet] at h
    cases hb : p == e.1 with
    | true =>
      rw [hb] at h
      injection h with h
      have h1 := hq _ hb
      obtain ⟨k, v⟩ := e
      simp only at h h1 hb
      subst h h1
      exact ⟨[], es, rfl, rfl, fun y => (by simp only [kPut, hb, cond_true, List.nil_append]), (by simp only [kDel, hb, cond_true, List.nil_append]), fun f => (by simp only [kMod, hb, cond_true, List.nil_append])⟩
    | false =>
      rw [hb] at h
      obtain ⟨a, b, h1, h2, h3, h4, h5⟩ := kGet_split hq (l := es) h
      exact ⟨e :: a, b, (by rw [h1]; rfl), (by simp only [kGet, hb, cond_false, h2]), fun y => (by simp only [kPut, hb, cond_false, h3, List.cons_append]), (by simp only [kDel, hb, cond_false, h4, List.cons_append]), fun f => (by simp only [kMod, hb, cond_false, h5, List.cons_append])⟩

end

theorem bytes_beq_self (a : ByteArray) : (a == a) = true := by rw [beq_toListBytes]; simp
theorem bytes_key (p : ByteArray) : ∀ q : ByteArray, (p == q) = true → q = p := fun _ h => (bytes_beq h).symm
theorem int_key (p : Int) : ∀ q : Int, (p == q) = true → q = p := fun _ h => (eq_of_beq h).symm

/-! ### As entries of a map -/

section
variable {α : Type} (f : α → Value)

def strL (l : List (ByteArray × α)) : List (Value × Value) := l.map fun e => (.string e.1, f e.2)
def intL (l : List (Int × α)) : List (Value × Value) := l.map fun e => (.int .i64 e.1, f e.2)

theorem strL_alike (p : ByteArray) (l : List (ByteArray × α)) : ∀ e ∈ strL f l, alikeK (.string p) e.1 = true := fun e he => by
  obtain ⟨x, _, rfl⟩ := List.mem_map.1 he
  rfl

theorem intL_alike (p : Int) (l : List (Int × α)) : ∀ e ∈ intL f l, alikeK (.int .i64 p) e.1 = true := fun e he => by
  obtain ⟨x, _, rfl⟩ := List.mem_map.1 he
  rfl

theorem strL_get (p : ByteArray) : ∀ l : List (ByteArray × α), getL (.string p) (strL f l) = (kGet p l).map f
  | [] => rfl
  | e :: es => by
    have := strL_get p es
    simp only [strL, List.map_cons, getL, kGet, keyIs] at this ⊢
    cases hb : p == e.1 <;> simp only [cond_true, cond_false, this, Option.map_some]

theorem strL_put (p : ByteArray) (x : α) : ∀ l : List (ByteArray × α), putL (.string p) (f x) (strL f l) = strL f (kPut p x l)
  | [] => rfl
  | e :: es => by
    have := strL_put p x es
    simp only [strL, List.map_cons, putL, kPut, keyIs] at this ⊢
    cases hb : p == e.1 <;> simp only [cond_true, cond_false, this, List.map_cons]

theorem strL_del (p : ByteArray) : ∀ l : List (ByteArray × α), delL (.string p) (strL f l) = strL f (kDel p l)
  | [] => rfl
  | e :: es => by
    have := strL_del p es
    simp only [strL, List.map_cons, delL, kDel, keyIs] at this ⊢
    cases hb : p == e.1 <;> simp only [cond_true, cond_false, this, List.map_cons]

theorem intL_get (p : Int) : ∀ l : List (Int × α), getL (.int .i64 p) (intL f l) = (kGet p l).map f
  | [] => rfl
  | e :: es => by
    have := intL_get p es
    simp only [intL, List.map_cons, getL, kGet, keyIs] at this ⊢
    cases hb : p == e.1 <;> simp only [cond_true, cond_false, this, Option.map_some]

theorem intL_put (p : Int) (x : α) : ∀ l : List (Int × α), putL (.int .i64 p) (f x) (intL f l) = intL f (kPut p x l)
  | [] => rfl
  | e :: es => by
    have := intL_put p x es
    simp only [intL, List.map_cons, putL, kPut, keyIs] at this ⊢
    cases hb : p == e.1 <;> simp only [cond_true, cond_false, this, List.map_cons]

theorem intL_del (p : Int) : ∀ l : List (Int × α), delL (.int .i64 p) (intL f l) = intL f (kDel p l)
  | [] => rfl
  | e :: es => by
    have := intL_del p es
    simp only [intL, List.map_cons, delL, kDel, keyIs] at this ⊢
    cases hb : p == e.1 <;> simp only [cond_true, cond_false, this, List.map_cons]

end

theorem look_str {A : Arena} {m : Nat} {α : Type} {f : α → Value} {l : List (ByteArray × α)} (h : MapAt A m (strL f l)) (p : ByteArray) : A.look m (.string p) = some ((kGet p l).map f) := by
  rw [look_at h (strL_alike f p l), strL_get]

theorem look_int {A : Arena} {m : Nat} {α : Type} {f : α → Value} {l : List (Int × α)} (h : MapAt A m (intL f l)) (p : Int) : A.look m (.int .i64 p) = some ((kGet p l).map f) := by
  rw [look_at h (intL_alike f p l), intL_get]

/-! ### A block all of whose cells are known -/

def CellsAt (A : Arena) (g : Nat) (L : List Value) : Prop := ∃ c t fz, A.blk g = some (.cells c t fz) ∧ Fz c.size fz ∧ c.toList = L

theorem CellsAt.rd {A : Arena} {g : Nat} {L : List Value} (h : CellsAt A g L) {o n : Nat} (hle : o + n ≤ L.length) : A.rd g o n = some ((L.drop o).take n) := by
  obtain ⟨c, t, fz, h1, _, rfl⟩ := h
  exact rd_mk h1 (by simpa using hle)

theorem CellsAt.room {A : Arena} {g : Nat} {L : List Value} (h : CellsAt A g L) {o n : Nat} (hle : o + n ≤ L.length) : A.Room g o n := by
  obtain ⟨c, t, fz, h1, h2, rfl⟩ := h
  exact ⟨c, t, fz, h1, by simpa using hle, h2⟩

theorem CellsAt.put {A A' : Arena} {g o : Nat} {L vs : List Value} (h : CellsAt A g L) (hP : A.Put A' g o vs) (hle : o + vs.length ≤ L.length) : CellsAt A' g (L.take o ++ vs ++ L.drop (o + vs.length)) := by
  obtain ⟨c, t, fz, h1, h2, rfl⟩ := h
  obtain ⟨c0, t0, fz0, c1, e1, e2, e3⟩ := hP.at_
  rw [h1] at e1
  injection e1 with e1
  injection e1 with e1 e4 e5
  subst e1 e4 e5
  refine ⟨c1, t, fz, e2, ?_, e3⟩
  have : c1.size = c.size := by
    have hl : c1.toList.length = c.toList.length := by
      rw [e3]
      simp only [Array.length_toList] at hle
      simp; omega
    simpa using hl
  rw [this]; exact h2

theorem CellsAt.sub {A A' : Arena} {g : Nat} {L : List Value} (h : CellsAt A g L) (hs : ∀ o, A.blk g = some o → A'.blk g = some o) : CellsAt A' g L := by
  obtain ⟨c, t, fz, h1, h2⟩ := h
  exact ⟨c, t, fz, hs _ h1, h2⟩

theorem CellsAt.new {A A' : Arena} {g : Nat} {c : Array Value} {t : TypeId} (h : A.New A' g c t) : CellsAt A' g c.toList := ⟨c, t, (0, 0), h.at_, .inl rfl, rfl⟩

theorem CellsAt.dom {A : Arena} {g : Nat} {L : List Value} (h : CellsAt A g L) : ∃ o, A.blk g = some o := by
  obtain ⟨c, t, fz, h1, _⟩ := h
  exact ⟨_, h1⟩

/-! ### Two arenas together -/

def Arena.plus (B C : Arena) : Arena := Arena.of fun k => match B.blk k with
  | some o => some o
  | none => C.blk k

theorem plus_blk (B C : Arena) (k : Nat) : (B.plus C).blk k = match B.blk k with
  | some o => some o
  | none => C.blk k := rfl

theorem plus_l (B C : Arena) : B.Sub (B.plus C) := fun k o h => by rw [plus_blk, h]

theorem plus_r {B C : Arena} (h : ∀ k o, C.blk k = some o → B.blk k = none) : C.Sub (B.plus C) := fun k o hk => by rw [plus_blk, h k o hk]; exact hk

theorem plus_cases {B C : Arena} {k : Nat} {o : Obj} (h : (B.plus C).blk k = some o) : B.blk k = some o ∨ (B.blk k = none ∧ C.blk k = some o) := by
  rw [plus_blk] at h
  split at h
  · left; rw [← h]; assumption
  · right; exact ⟨by assumption, h⟩

/-- What is new stands beside what lies in a part of what lay. -/
theorem minus_apart {A A' B : Arena} (h : B.Sub A) : ∀ k o, (A'.minus A).blk k = some o → B.blk k = none := fun k o hk => by
  cases hB : B.blk k with
  | none => rfl
  | some o' =>
    have := (minus_blk hk).1
    rw [h _ _ hB] at this; cases this

end
end Go.Sx

namespace Go.Sx
noncomputable section

structure StatD where
  czxid : Int
  mzxid : Int
  pzxid : Int
  ctime : Int
  mtime : Int
  ver : Int
  cver : Int
  owner : Int
  len : Int
  kids : Int

def StatD.cells (s : StatD) : List Value := [.int .i64 s.czxid, .int .i64 s.mzxid, .int .i64 s.pzxid, .int .i64 s.ctime, .int .i64 s.mtime, .int .i64 s.ver, .int .i64 s.cver, .int .i64 s.owner, .int .i64 s.len, .int .i64 s.kids]

structure NodeD where
  data : List UInt8
  stat : StatD

structure SitD where
  ses : Int
  tmo : Int
  turn : Int

structure TreeD where
  nodes : List (ByteArray × NodeD)
  seats : List (Int × SitD)

def ptrV (g : Nat) : Value := .pointer (some ⟨g, 0, none⟩)
def sitV (s : SitD) : Value := .agg #[.int .i64 s.ses, .int .i64 s.tmo, .int .i64 s.turn]

/-- A node in block g; its data lie in B. -/
def NodeAt (A B : Arena) (g : Nat) (n : NodeD) : Prop := ∃ v, CellsAt A g (v :: n.stat.cells) ∧ SlB B v n.data

/-- A tree in block t; its own blocks are those of O, its nodes' data lie in B. -/
structure TreeR (A B : Arena) (O : Nat → Prop) (t : Nat) (T : TreeD) (m s : Nat) (E : List (ByteArray × Nat × NodeD)) : Prop where
  nodes : T.nodes = kMap (·.2) E
  top : CellsAt A t [.map (some m), .map (some s)]
  nmap : MapAt A m (strL ptrV (kMap (·.1) E))
  smap : MapAt A s (intL sitV T.seats)
  cells : ∀ e ∈ E, NodeAt A B e.2.1 e.2.2
  keys : (E.map (·.1)).Nodup
  ptrs : (E.map (·.2.1)).Nodup
  skeys : (T.seats.map (·.1)).Nodup
  sub : B.Sub A
  own : O t ∧ O m ∧ O s ∧ ∀ e ∈ E, O e.2.1
  off : ∀ k, O k → B.blk k = none
  live : ∀ k, O k → ∃ o, A.blk k = some o
  ne : m ≠ s ∧ ∀ e ∈ E, e.2.1 ≠ t

def TreeAt (A B : Arena) (O : Nat → Prop) (t : Nat) (T : TreeD) : Prop := ∃ m s E, TreeR A B O t T m s E

/-- What a change of a tree leaves. -/
structure Step (A B : Arena) (O : Nat → Prop) (A' B' : Arena) (O' : Nat → Prop) : Prop where
  keep : ∀ k o, A.blk k = some o → ¬ O k → A'.blk k = some o
  dom : ∀ k, A'.blk k = none → A.blk k = none
  own : ∀ k, O' k → O k ∨ A.blk k = none
  sub : B.Sub B'
  new : ∀ k o, B'.blk k = some o → B.blk k = some o ∨ A.blk k = none

theorem Step.refl (A B : Arena) (O : Nat → Prop) : Step A B O A B O := ⟨fun _ _ h _ => h, fun _ h => h, fun _ h => .inl h, Arena.Sub.refl _, fun _ _ h => .inl h⟩

theorem Step.trans {A B A1 B1 A2 B2 : Arena} {O O1 O2 : Nat → Prop} (h : Step A B O A1 B1 O1) (k : Step A1 B1 O1 A2 B2 O2) : Step A B O A2 B2 O2 := by
  refine ⟨fun j o hj hO => k.keep j o (h.keep j o hj hO) fun h1 => ?_, fun j hj => h.dom j (k.dom j hj), fun j hj => ?_, h.sub.trans k.sub, fun j o hj => ?_⟩
  · rcases h.own j h1 with h2 | h2
    · exact hO h2
    · rw [hj] at h2; cases h2
  · rcases k.own j hj with h1 | h1
    · exact h.own j h1
    · exact .inr (h.dom j h1)
  · rcases k.new j o hj with h1 | h1
    · exact h.new j o h1
    · exact .inr (h.dom j h1)

/-- A part of memory that the tree does not own stays. -/
theorem Step.stays {A B A' B' C : Arena} {O O' : Nat → Prop} (h : Step A B O A' B' O') (hC : C.Sub A) (hO : ∀ k o, C.blk k = some o → ¬ O k) : C.Sub A' := fun k o hk => h.keep k o (hC k o hk) (hO k o hk)

theorem NodeAt.mono {A A' B B' : Arena} {g : Nat} {n : NodeD} (h : NodeAt A B g n) (hg : A'.blk g = A.blk g) (hB : B.Sub B') : NodeAt A' B' g n := by
  obtain ⟨v, h1, h2⟩ := h
  exact ⟨v, h1.sub fun o ho => by rw [hg]; exact ho, h2.sub hB⟩

theorem kMap_keys {κ α β : Type} (f : α → β) (l : List (κ × α)) : (kMap f l).map (·.1) = l.map (·.1) := by simp [kMap, Function.comp_def]

/-- Memory around a tree changes, its own and its nodes' data do not. -/
theorem TreeR.frame {A B A' : Arena} {O : Nat → Prop} {t : Nat} {T : TreeD} {m s : Nat} {E : List (ByteArray × Nat × NodeD)} (h : TreeR A B O t T m s E) (hO : ∀ k, O k → A'.blk k = A.blk k) (hB : B.Sub A') : TreeR A' B O t T m s E where
  nodes := h.nodes
  top := h.top.sub fun o ho => by rw [hO t h.own.1]; exact ho
  nmap := h.nmap.sub fun o ho => by rw [hO m h.own.2.1]; exact ho
  smap := h.smap.sub fun o ho => by rw [hO s h.own.2.2.1]; exact ho
  cells := fun e he => (h.cells e he).mono (hO _ (h.own.2.2.2 e he)) (Arena.Sub.refl _)
  keys := h.keys
  ptrs := h.ptrs
  skeys := h.skeys
  sub := hB
  own := h.own
  off := h.off
  live := fun k hk => by rw [hO k hk]; exact h.live k hk
  ne := h.ne

theorem TreeAt.frame {A B A' : Arena} {O : Nat → Prop} {t : Nat} {T : TreeD} (h : TreeAt A B O t T) (hO : ∀ k, O k → A'.blk k = A.blk k) (hB : B.Sub A') : TreeAt A' B O t T := by
  obtain ⟨m, s, E, h⟩ := h
  exact ⟨m, s, E, h.frame hO hB⟩

theorem TreeR.dom {A B : Arena} {O : Nat → Prop} {t : Nat} {T : TreeD} {m s : Nat} {E : List (ByteArray × Nat × NodeD)} (h : TreeR A B O t T m s E) {e : ByteArray × Nat × NodeD} (he : e ∈ E) : e.2.1 ≠ m ∧ e.2.1 ≠ s := by
  obtain ⟨v, ⟨c, ty, fz, h1, _⟩, _⟩ := h.cells e he
  obtain ⟨es, cl, h2, _⟩ := h.nmap
  obtain ⟨es', cl', h3, _⟩ := h.smap
  exact ⟨fun e => (by rw [e, h2] at h1; cases h1), fun e => (by rw [e, h3] at h1; cases h1)⟩

theorem TreeR.top_ne {A B : Arena} {O : Nat → Prop} {t : Nat} {T : TreeD} {m s : Nat} {E : List (ByteArray × Nat × NodeD)} (h : TreeR A B O t T m s E) : t ≠ m ∧ t ≠ s := by
  obtain ⟨c, ty, fz, h1, _⟩ := h.top
  obtain ⟨es, cl, h2, _⟩ := h.nmap
  obtain ⟨es', cl', h3, _⟩ := h.smap
  exact ⟨fun e => (by rw [e, h2] at h1; cases h1), fun e => (by rw [e, h3] at h1; cases h1)⟩

theorem TreeR.get {A B : Arena} {O : Nat → Prop} {t : Nat} {T : TreeD} {m s : Nat} {E : List (ByteArray × Nat × NodeD)} (h : TreeR A B O t T m s E) (p : ByteArray) : kGet p T.nodes = (kGet p E).map (·.2) := by rw [h.nodes, kGet_map]

theorem TreeR.look {A B : Arena} {O : Nat → Prop} {t : Nat} {T : TreeD} {m s : Nat} {E : List (ByteArray × Nat × NodeD)} (h : TreeR A B O t T m s E) (p : ByteArray) : A.look m (.string p) = some ((kGet p E).map fun x => ptrV x.1) := by
  rw [look_str h.nmap, kGet_map]
  cases kGet p E <;> rfl

/-- A node is turned. -/
theorem TreeR.mod {A B A' B' : Arena} {O : Nat → Prop} {t : Nat} {T : TreeD} {m s : Nat} {E : List (ByteArray × Nat × NodeD)} (h : TreeR A B O t T m s E) {p : ByteArray} {g : Nat} {n n' : NodeD} (hp : kGet p E = some (g, n))
    (hO : ∀ k, O k → k ≠ g → A'.blk k = A.blk k) (hn : NodeAt A' B' g n') (hB : B.Sub B') (hs : B'.Sub A') (hoff : ∀ k, O k → B'.blk k = none) : TreeR A' B' O t ⟨kMod p (fun _ => n') T.nodes, T.seats⟩ m s (kMod p (fun x => (x.1, n')) E) := by
  have hmem := kGet_mem (bytes_key p) hp
  obtain ⟨a, b, h1, _, _, _, h2⟩ := kGet_split (bytes_key p) hp
  have h2 := h2 fun x => (x.1, n')
  have hk : ∀ {β : Type} (f : ByteArray × Nat × NodeD → β), f (p, g, n') = f (p, g, n) → (kMod p (fun x => (x.1, n')) E).map f = E.map f := fun f hf => by rw [h2, h1]; simp [hf]
  have hne := h.dom hmem
  have hgt := h.ne.2 _ hmem
  have hsplit : ∀ e ∈ kMod p (fun x => (x.1, n')) E, e = (p, g, n') ∨ (e ∈ E ∧ e.2.1 ≠ g) := fun e he => by
    rw [h2] at he
    have hnd := h.ptrs
    rw [h1] at hnd
    simp only [List.map_append, List.map_cons] at hnd
    obtain ⟨_, hb, hab⟩ := List.nodup_append.1 hnd
    rw [List.nodup_cons] at hb
    rcases List.mem_append.1 he with he | he
    · refine .inr ⟨by rw [h1]; exact List.mem_append_left _ he, fun eq => ?_⟩
      exact hab _ (List.mem_map.2 ⟨e, he, rfl⟩) g (by simp) eq
    · rcases List.mem_cons.1 he with rfl | he
      · exact .inl rfl
      · refine .inr ⟨by rw [h1]; exact List.mem_append_right _ (List.mem_cons_of_mem _ he), fun eq => ?_⟩
        exact hb.1 (List.mem_map.2 ⟨e, he, eq⟩)
  refine ⟨?_, h.top.sub fun o ho => (by rw [hO t h.own.1 (Ne.symm hgt)]; exact ho), ?_, h.smap.sub fun o ho => (by rw [hO s h.own.2.2.1 (Ne.symm hne.2)]; exact ho), fun e he => ?_, by rw [hk _ rfl]; exact h.keys, by rw [hk _ rfl]; exact h.ptrs, h.skeys, hs, ⟨h.own.1, h.own.2.1, h.own.2.2.1, fun e he => ?_⟩, hoff, fun k hk => ?_, ⟨h.ne.1, fun e he => ?_⟩⟩
  · show kMod p (fun _ => n') T.nodes = _
    rw [h.nodes]
    exact kMod_map (·.2) (fun x => (x.1, n')) (fun _ => n') (fun _ => rfl) p E
  · have e1 : kMap (·.1) (kMod p (fun x => (x.1, n')) E) = kMap (·.1) E := hk _ rfl
    rw [e1]
    exact h.nmap.sub fun o ho => (by rw [hO m h.own.2.1 (Ne.symm hne.1)]; exact ho)
  · rcases hsplit e he with rfl | ⟨he, hg⟩
    · exact hn
    · exact (h.cells e he).mono (hO _ (h.own.2.2.2 e he) hg) hB
  · rcases hsplit e he with rfl | ⟨he, hg⟩
    · exact h.own.2.2.2 (p, g, n) hmem
    · exact h.own.2.2.2 e he
  · by_cases e : k = g
    · subst e
      obtain ⟨v, h1, _⟩ := hn
      exact h1.dom
    · rw [hO k hk e]; exact h.live k hk
  · rcases hsplit e he with rfl | ⟨he, hg⟩
    · exact hgt
    · exact h.ne.2 e he

/-- A node is laid. -/
theorem TreeR.put {A B A' B' : Arena} {O : Nat → Prop} {t : Nat} {T : TreeD} {m s : Nat} {E : List (ByteArray × Nat × NodeD)} (h : TreeR A B O t T m s E) {p : ByteArray} {g : Nat} {n : NodeD} (hg : A.blk g = none)
    (hO : ∀ k, O k → k ≠ m → A'.blk k = A.blk k) (hm : MapAt A' m (putL (.string p) (ptrV g) (strL ptrV (kMap (·.1) E)))) (hn : NodeAt A' B' g n) (hB : B.Sub B') (hs : B'.Sub A') (hoff : ∀ k, O k ∨ k = g → B'.blk k = none) :
    TreeR A' B' (fun k => O k ∨ k = g) t ⟨kPut p n T.nodes, T.seats⟩ m s (kPut p (g, n) E) := by
  have hgo : ∀ e ∈ E, e.2.1 ≠ g := fun e he eq => by
    obtain ⟨v, h1, _⟩ := h.cells e he
    obtain ⟨o, ho⟩ := h1.dom
    rw [eq, hg] at ho; cases ho
  have htg : t ≠ g := fun e => by
    obtain ⟨o, ho⟩ := h.top.dom
    rw [e, hg] at ho; cases ho
  have hsplit : ∀ e ∈ kPut p (g, n) E, e = (p, g, n) ∨ e ∈ E := fun e he => by
    cases hp : kGet p E with
    | none =>
      rw [kPut_none hp, List.mem_append, List.mem_singleton] at he
      exact he.symm
    | some x =>
      obtain ⟨a, b, h1, _, h2, _, _⟩ := kGet_split (bytes_key p) hp
      rw [h2] at he
      rcases List.mem_append.1 he with he | he
      · exact .inr (by rw [h1]; exact List.mem_append_left _ he)
      · rcases List.mem_cons.1 he with rfl | he
        · exact .inl rfl
        · exact .inr (by rw [h1]; exact List.mem_append_right _ (List.mem_cons_of_mem _ he))
  have hnd : (((kPut p (g, n) E).map (·.1)).Nodup) ∧ ((kPut p (g, n) E).map (·.2.1)).Nodup := by
    cases hp : kGet p E with
    | none =>
      rw [kPut_none hp]
      have h9 := kGet_none (bytes_beq_self p) hp
      refine ⟨?_, ?_⟩
      · rw [List.map_append, List.nodup_append]
        refine ⟨h.keys, by simp, fun a ha b hb e => ?_⟩
        simp only [List.map_cons, List.map_nil, List.mem_singleton] at hb
        subst hb; subst e; exact h9 ha
      · rw [List.map_append, List.nodup_append]
        refine ⟨h.ptrs, by simp, fun a ha b hb e => ?_⟩
        simp only [List.map_cons, List.map_nil, List.mem_singleton] at hb
        subst hb; subst e
        obtain ⟨x, hx, hx2⟩ := List.mem_map.1 ha
        exact hgo x hx hx2
    | some x =>
      obtain ⟨a, b, h1, _, h2, _, _⟩ := kGet_split (bytes_key p) hp
      rw [h2]
      have k1 := h.keys
      have k2 := h.ptrs
      rw [h1] at k1 k2
      refine ⟨by simpa using k1, ?_⟩
      simp only [List.map_append, List.map_cons] at k2 ⊢
      obtain ⟨d1, d2, d3⟩ := List.nodup_append.1 k2
      rw [List.nodup_cons] at d2
      refine List.nodup_append.2 ⟨d1, List.nodup_cons.2 ⟨fun hm => ?_, d2.2⟩, fun u hu w hw e => ?_⟩
      · obtain ⟨y, hy, hy2⟩ := List.mem_map.1 hm
        exact hgo y (by rw [h1]; exact List.mem_append_right _ (List.mem_cons_of_mem _ hy)) hy2
      · rcases List.mem_cons.1 hw with rfl | hw
        · obtain ⟨y, hy, hy2⟩ := List.mem_map.1 hu
          exact hgo y (by rw [h1]; exact List.mem_append_left _ hy) (hy2.trans e)
        · exact d3 u hu w (List.mem_cons_of_mem _ hw) e
  have htm := h.top_ne
  refine ⟨?_, h.top.sub fun o ho => (by rw [hO t h.own.1 htm.1]; exact ho), ?_, h.smap.sub fun o ho => (by rw [hO s h.own.2.2.1 (Ne.symm h.ne.1)]; exact ho), fun e he => ?_, hnd.1, hnd.2, h.skeys, hs, ⟨.inl h.own.1, .inl h.own.2.1, .inl h.own.2.2.1, fun e he => ?_⟩, hoff, fun k hk => ?_, ⟨h.ne.1, fun e he => ?_⟩⟩
  · show kPut p n T.nodes = _
    rw [h.nodes]
    exact kPut_map (·.2) p (g, n) E
  · have : putL (.string p) (ptrV g) (strL ptrV (kMap (·.1) E)) = strL ptrV (kMap (·.1) (kPut p (g, n) E)) := by
      rw [strL_put]
      congr 1
      exact kPut_map (·.1) p (g, n) E
    rw [← this]; exact hm
  · rcases hsplit e he with rfl | he
    · exact hn
    · exact (h.cells e he).mono (hO _ (h.own.2.2.2 e he) (h.dom he).1) hB
  · rcases hsplit e he with rfl | he
    · exact .inr rfl
    · exact .inl (h.own.2.2.2 e he)
  · rcases hk with hk | rfl
    · by_cases e : k = m
      · subst e
        obtain ⟨es, cl, h1, _⟩ := hm
        exact ⟨_, h1⟩
      · rw [hO k hk e]; exact h.live k hk
    · obtain ⟨v, h1, _⟩ := hn
      exact h1.dom
  · rcases hsplit e he with rfl | he
    · exact Ne.symm htg
    · exact h.ne.2 e he

theorem kDel_sub {κ α : Type} [BEq κ] (p : κ) : ∀ l : List (κ × α), List.Sublist (kDel p l) l
  | [] => List.Sublist.refl _
  | e :: es => by
    simp only [kDel]
    cases hb : p == e.1 with
    | true => exact List.sublist_cons_self _ _
    | false => exact (kDel_sub p es).cons_cons e

/-- A node is taken away. -/
theorem TreeR.del {A B A' : Arena} {O : Nat → Prop} {t : Nat} {T : TreeD} {m s : Nat} {E : List (ByteArray × Nat × NodeD)} (h : TreeR A B O t T m s E) {p : ByteArray}
    (hO : ∀ k, k ≠ m → A'.blk k = A.blk k) (hm : MapAt A' m (delL (.string p) (strL ptrV (kMap (·.1) E)))) : TreeR A' B O t ⟨kDel p T.nodes, T.seats⟩ m s (kDel p E) := by
  have hsub := kDel_sub p E
  have htm := h.top_ne
  refine ⟨?_, h.top.sub fun o ho => (by rw [hO t htm.1]; exact ho), ?_, h.smap.sub fun o ho => (by rw [hO s (Ne.symm h.ne.1)]; exact ho), fun e he => ?_, h.keys.sublist (hsub.map _), h.ptrs.sublist (hsub.map _), h.skeys, fun k o hk => ?_, ⟨h.own.1, h.own.2.1, h.own.2.2.1, fun e he => h.own.2.2.2 e (hsub.subset he)⟩, h.off, fun k hk => ?_, ⟨h.ne.1, fun e he => h.ne.2 e (hsub.subset he)⟩⟩
  · show kDel p T.nodes = _
    rw [h.nodes]
    exact kDel_map (·.2) p E
  · have : delL (.string p) (strL ptrV (kMap (·.1) E)) = strL ptrV (kMap (·.1) (kDel p E)) := by
      rw [strL_del]
      congr 1
      exact kDel_map (·.1) p E
    rw [← this]; exact hm
  · have he := hsub.subset he
    exact (h.cells e he).mono (hO _ (h.dom he).1) (Arena.Sub.refl _)
  · rw [hO k fun e => by subst e; rw [h.off _ h.own.2.1] at hk; cases hk]
    exact h.sub k o hk
  · by_cases e : k = m
    · subst e
      obtain ⟨es, cl, h1, _⟩ := hm
      exact ⟨_, h1⟩
    · rw [hO k e]; exact h.live k hk

/-- Sittings are changed. -/
theorem TreeR.sit {A B A' : Arena} {O : Nat → Prop} {t : Nat} {T : TreeD} {m s : Nat} {E : List (ByteArray × Nat × NodeD)} (h : TreeR A B O t T m s E) {l : List (Int × SitD)}
    (hO : ∀ k, k ≠ s → A'.blk k = A.blk k) (hm : MapAt A' s (intL sitV l)) (hl : (l.map (·.1)).Nodup) : TreeR A' B O t ⟨T.nodes, l⟩ m s E := by
  have htm := h.top_ne
  refine ⟨h.nodes, h.top.sub fun o ho => (by rw [hO t htm.2]; exact ho), h.nmap.sub fun o ho => (by rw [hO m h.ne.1]; exact ho), hm, fun e he => (h.cells e he).mono (hO _ (h.dom he).2) (Arena.Sub.refl _), h.keys, h.ptrs, hl, fun k o hk => ?_, h.own, h.off, fun k hk => ?_, h.ne⟩
  · rw [hO k fun e => by subst e; rw [h.off _ h.own.2.2.1] at hk; cases hk]
    exact h.sub k o hk
  · by_cases e : k = s
    · subst e
      obtain ⟨es, cl, h1, _⟩ := hm
      exact ⟨_, h1⟩
    · rw [hO k e]; exact h.live k hk

theorem kPut_nodup {p : Int} {x : SitD} {l : List (Int × SitD)} (h : (l.map (·.1)).Nodup) : ((kPut p x l).map (·.1)).Nodup := by
  cases hp : kGet p l with
  | none =>
    rw [kPut_none hp, List.map_append, List.nodup_append]
    refine ⟨h, by simp, fun a ha b hb e => ?_⟩
    simp only [List.map_cons, List.map_nil, List.mem_singleton] at hb
    subst hb; subst e; exact kGet_none (by simp) hp ha
  | some y =>
    obtain ⟨a, b, h1, _, h2, _, _⟩ := kGet_split (int_key p) hp
    rw [h2]
    rw [h1] at h
    simpa using h

end
end Go.Sx

namespace Go.Proofs.YtiabopbigplklaaDoor
open Go.RowKit Go.Shelf

set_option maxRecDepth 100000 in
theorem idx1 (s : ByteArray) (c : Int) (w : World) :
    Calls Tryd.prog 72 #[.string s, .int .u8 c] w fun e w' => e = .returned (.int .i64 (Lib.indexByte s.data.toList c.toNat.toUInt8)) ∧ w' = w := by
  go_enter Tryd.func72, Tryd.ntmps72
  go_wp2
  rw [run_callFunc_extern Tryd.func76 (by kernel_rfl) (by kernel_rfl) (by kernel_rfl) (e := Extern.BytealgIndexByte.indexByte) (by kernel_rfl), Lib.run_indexByteString]
  simp only [Result.andThen]
  rw [Oper.upon_value]
  go_wp2
  go_ret
  exact ⟨rfl, rfl⟩

set_option maxRecDepth 100000 in
set_option maxHeartbeats 1000000 in
theorem idx2 (s : ByteArray) (w : World) :
    Calls Tryd.prog 71 #[.string s, .string ⟨#[47]⟩] w fun e w' => e = .returned (.int .i64 (Lib.index s.data.toList [47])) ∧ w' = w := by
  go_enter Tryd.func71, Tryd.ntmps71
  go_wp2_with (go_at_call 72; refine (idx1 _ _ _).mono ?_; rintro e w' ⟨rfl, rfl⟩)
  · have h1 : ([47] == s.toList) = true := by assumption
    go_ret
    refine ⟨?_, rfl⟩
    rw [show Lib.index s.data.toList [47] = 0 from Lib.zero s ⟨#[47]⟩ (.inr (by simpa using h1))]
    rfl
  · go_ret
    refine ⟨?_, rfl⟩
    rw [show Lib.index s.data.toList [47] = _ from Lib.one s ⟨#[47]⟩ rfl]
    rfl

set_option maxRecDepth 100000 in
set_option maxHeartbeats 2000000 in
theorem cut1 (s : ByteArray) (hs : s.size < 4294967281) (w : World) :
    Calls Tryd.prog 69 #[.string s, .string ⟨#[47]⟩] w fun e w' => e = .returned (.tuple #[.string ⟨(Lib.cut s.data.toList [47]).1.toArray⟩, .string ⟨(Lib.cut s.data.toList [47]).2.1.toArray⟩, .bool (Lib.cut s.data.toList [47]).2.2]) ∧ ∃ n, w' = w.drewN n := by
  have mixed : Tryd.prog.follows .mixedOrders = true := by kernel_rfl
  rcases Lib.indexB_cases s ⟨#[47]⟩ with hix | ⟨i, hix, hroom⟩
  · obtain ⟨e1, e2, e3⟩ := Lib.cutB_miss s ⟨#[47]⟩ hix
    rw [show (Lib.cut s.data.toList [47]).1 = _ from rfl, show (⟨(Lib.cut s.data.toList [47]).1.toArray⟩ : ByteArray) = _ from e1, show (⟨(Lib.cut s.data.toList [47]).2.1.toArray⟩ : ByteArray) = _ from e2, show (Lib.cut s.data.toList [47]).2.2 = _ from e3]
    go_enter Tryd.func69, Tryd.ntmps69
    go_wp2_with (go_at_call 71; refine (idx2 _ _).mono ?_; rintro e w' ⟨rfl, rfl⟩; rw [show Lib.index s.data.toList [47] = _ from hix])
    go_ret3
    exact ⟨rfl, 0, rfl⟩
  · obtain ⟨e1, e2, e3⟩ := Lib.cutB_hit s ⟨#[47]⟩ i hix
    rw [show (⟨(Lib.cut s.data.toList [47]).1.toArray⟩ : ByteArray) = _ from e1, show (⟨(Lib.cut s.data.toList [47]).2.1.toArray⟩ : ByteArray) = _ from e2, show (Lib.cut s.data.toList [47]).2.2 = _ from e3]
    have c0 : (⟨#[47]⟩ : ByteArray).size = 1 := rfl
    rw [c0] at hroom ⊢
    have c1 : (0 : Int) ≤ ↑i := by omega
    have c2 : (↑i : Int) ≤ ↑s.size := by omega
    have c3 : (0 : Int) ≤ ↑i + 1 := by omega
    have c4 : (↑i + 1 : Int) ≤ ↑s.size := by omega
    go_enter Tryd.func69, Tryd.ntmps69
    go_wp2_with (go_at_call 71; refine (idx2 _ _).mono ?_; rintro e w' ⟨rfl, rfl⟩; rw [show Lib.index s.data.toList [47] = _ from hix])
    go_region_o
    go_wp2
    go_ret3
    exact ⟨rfl, 1, rfl⟩

set_option maxRecDepth 100000 in
set_option maxHeartbeats 1000000 in
theorem cut2 (s : ByteArray) (hs : s.size < 4294967281) (w : World) :
    Calls Tryd.prog 62 #[.string s, .string ⟨#[47]⟩] w fun e w' => e = .returned (.tuple #[.string ⟨(Lib.cut s.data.toList [47]).1.toArray⟩, .string ⟨(Lib.cut s.data.toList [47]).2.1.toArray⟩, .bool (Lib.cut s.data.toList [47]).2.2]) ∧ ∃ n, w' = w.drewN n := by
  go_enter Tryd.func62, Tryd.ntmps62
  go_wp2_with (go_at_call 69; refine (cut1 _ hs _).mono ?_; rintro e w' ⟨rfl, n, rfl⟩)
  go_ret3
  exact ⟨rfl, n, rfl⟩
end Go.Proofs.YtiabopbigplklaaDoor

namespace Go.Proofs.YtiabopbigplklaaDoor
open Go.RowKit Go.Shelf

def okByte (b : UInt8) : Bool := decide (33 ≤ b.toNat) && decide (b.toNat ≤ 126) && !(b == 47)
def partOk (l : List UInt8) : Bool := l.all okByte && !l.isEmpty && !(l == [46]) && !(l == [46, 46])

theorem dec_cases (s : ByteArray) (pos : Nat) (hp : pos < s.size) :
    (okByte (s[pos]'hp) = true ∧ Utf8.decode s pos = ((s[pos]'hp).toNat, 1) ∧ 33 ≤ (Utf8.decode s pos).1 ∧ (Utf8.decode s pos).1 ≤ 126 ∧ (Utf8.decode s pos).1 ≠ 47) ∨
    (okByte (s[pos]'hp) = false ∧ ((Utf8.decode s pos).1 < 33 ∨ 126 < (Utf8.decode s pos).1 ∨ (Utf8.decode s pos).1 = 47)) := by
  by_cases ha : (s[pos]'hp).toNat < 128
  · have hd := decode_ascii s pos hp ha
    rw [hd]
    have h47 : ((s[pos]'hp) == 47) = decide ((s[pos]'hp).toNat = 47) := by
      rw [Bool.eq_iff_iff, beq_iff_eq, decide_eq_true_iff]
      exact ⟨fun h => by rw [h]; rfl, fun h => UInt8.toNat_inj.1 (by rw [h]; rfl)⟩
    unfold okByte
    rw [h47]
    by_cases h1 : 33 ≤ (s[pos]'hp).toNat <;> by_cases h2 : (s[pos]'hp).toNat ≤ 126 <;> by_cases h3 : (s[pos]'hp).toNat = 47 <;> simp [h1, h2, h3] <;> omega
  · refine .inr ⟨?_, .inr (.inl ?_)⟩
    · unfold okByte
      have : ¬ (s[pos]'hp).toNat ≤ 126 := by omega
      simp [this]
    · have := (decode_high s pos hp (by omega)).1
      omega

theorem part_bad (s : ByteArray) (pos : Nat) (hp : pos < s.size) (h : okByte (s[pos]'hp) = false) : partOk s.data.toList = false := by
  unfold partOk
  have : s.data.toList.all okByte = false := by
    rw [List.all_eq_false]
    exact ⟨s[pos]'hp, by simp [ByteArray.getElem_eq_getElem_data], by simp [h]⟩
  simp [this]

theorem part_end (s : ByteArray) (pos : Nat) (hp : ¬ pos < s.size) (h2 : (s.data.toList.take pos).all okByte = true) : Hid (partOk s.data.toList = (!s.toList.isEmpty && !s.toList == [46] && !s.toList == [46, 46])) := by
  show _ = _
  rw [List.take_of_length_le (by have : s.data.toList.length = s.size := rfl; omega)] at h2
  unfold partOk
  rw [h2, ByteArray.toList_eq]
  simp

theorem take_ok (s : ByteArray) (pos : Nat) (hp : pos < s.size) (h : okByte (s[pos]'hp) = true) (h2 : (s.data.toList.take pos).all okByte = true) : (s.data.toList.take (pos + 1)).all okByte = true := by
  have hl : pos < s.data.toList.length := by simpa using hp
  rw [List.take_succ_eq_append_getElem hl, List.all_append, h2]
  simpa [ByteArray.getElem_eq_getElem_data] using h

set_option maxRecDepth 100000 in
set_option maxHeartbeats 1000000 in
theorem part1 (s : ByteArray) (w : World) :
    Calls Tryd.prog 47 #[.string s] w fun e w' => e = .returned (.bool (partOk s.data.toList)) ∧ ∃ pos, w' = w.iter s pos := by
  go_enter Tryd.func47, Tryd.ntmps47
  go_wp2
  go_loopw [] (fun w' => ∃ (pos : Nat), w' = w.iter s pos ∧ pos ≤ s.size ∧ (s.data.toList.take pos).all okByte = true) (fun w' => s.size - w'.iterPos w.heap.size)
  case atStart => exact ⟨0, rfl, by omega, by simp⟩
  case round =>
    obtain ⟨pos, rfl, h1, h2⟩ := hrel
    by_cases hp : pos < s.size
    · have hnx : ∀ ty, (Instr.next (.pointer (some ⟨w.heap.size, 0, none⟩)) true ty).run Tryd.prog (w.iter s pos) = _ := fun ty => run_next_any w s pos ty hp
      go_wp2
      · rename_i g
        rcases dec_cases s pos hp with ⟨k1, k2, k3, k4, k5⟩ | ⟨k1, k2⟩
        · exfalso
          rcases g with g | g
          · omega
          · have := eq_of_beq g; omega
        · have k3 := part_bad s pos hp k1
          go_ret
          exact ⟨by rw [k3]; rfl, _, rfl⟩
      · rename_i g
        rcases dec_cases s pos hp with ⟨k1, k2, k3, k4, k5⟩ | ⟨k1, k2⟩
        · rw [k2]
          exact ⟨⟨pos + 1, rfl, by omega, take_ok s pos hp k1 h2⟩, by simp; omega⟩
        · exfalso
          obtain ⟨g, g'⟩ := g
          have := ne_of_beq_false g'
          omega
      · rename_i g
        rcases dec_cases s pos hp with ⟨k1, k2, k3, k4, k5⟩ | ⟨k1, k2⟩
        · exfalso; omega
        · have k3 := part_bad s pos hp k1
          go_ret
          exact ⟨by rw [k3]; rfl, _, rfl⟩
      · rename_i g
        rcases dec_cases s pos hp with ⟨k1, k2, k3, k4, k5⟩ | ⟨k1, k2⟩
        · exfalso; omega
        · have k3 := part_bad s pos hp k1
          go_ret
          exact ⟨by rw [k3]; rfl, _, rfl⟩
    · have hnx : ∀ ty, (Instr.next (.pointer (some ⟨w.heap.size, 0, none⟩)) true ty).run Tryd.prog (w.iter s pos) = _ := fun ty => run_next_end w s pos ty hp
      have h3 := part_end s pos hp h2
      go_wp2
      · rename_i g
        go_ret
        refine ⟨?_, _, rfl⟩
        rw [h3.out, g]; rfl
      · rename_i g
        go_ret
        refine ⟨?_, _, rfl⟩
        rw [h3.out, g]; rfl
      · go_ret
        refine ⟨?_, _, rfl⟩
        rw [h3.out]; rfl
end Go.Proofs.YtiabopbigplklaaDoor

namespace Go.Proofs.YtiabopbigplklaaDoor
open Go.RowKit Go.Shelf
attribute [local go_sem] Oper.semAt_some

/-- The parts between the slashes. -/
def splitL : List UInt8 → List (List UInt8)
  | [] => [[]]
  | b :: l => bif b == 47 then [] :: splitL l else match splitL l with
    | x :: xs => (b :: x) :: xs
    | [] => [[b]]

/-- What stands behind the first slash. -/
def restOk (q : List UInt8) : Bool := q.isEmpty || (splitL q).all partOk

theorem splitL_none : ∀ (l : List UInt8), (∀ b ∈ l, b ≠ 47) → splitL l = [l]
  | [], _ => rfl
  | b :: l, h => by
    have hb : (b == 47) = false := by simpa using h b (by simp)
    simp [splitL, hb, splitL_none l (fun x hx => h x (by simp [hx]))]

theorem splitL_cut : ∀ (a b : List UInt8), (∀ x ∈ a, x ≠ 47) → splitL (a ++ 47 :: b) = a :: splitL b
  | [], b, _ => by simp [splitL]
  | x :: a, b, h => by
    have hb : (x == 47) = false := by simpa using h x (by simp)
    simp [splitL, hb, splitL_cut a b (fun y hy => h y (by simp [hy]))]

theorem index_cases : ∀ (l : List UInt8), (Lib.index l [47] = -1 ∧ ∀ x ∈ l, x ≠ 47) ∨ (∃ a b, l = a ++ 47 :: b ∧ (∀ x ∈ a, x ≠ 47) ∧ Lib.index l [47] = a.length)
  | [] => .inl ⟨rfl, by simp⟩
  | x :: l => by
    by_cases hx : x = 47
    · subst hx
      exact .inr ⟨[], l, rfl, by simp, by simp [Lib.index, List.isPrefixOf]⟩
    · have e : List.isPrefixOf [47] (x :: l) = false := by
        simp [List.isPrefixOf]
        exact fun h => hx h.symm
      rcases index_cases l with ⟨h1, h2⟩ | ⟨a, b, h1, h2, h3⟩
      · refine .inl ⟨by simp [Lib.index, e, h1], fun y hy => ?_⟩
        rcases List.mem_cons.1 hy with rfl | hy
        · exact hx
        · exact h2 y hy
      · refine .inr ⟨x :: a, b, by simp [h1], fun y hy => ?_, ?_⟩
        · rcases List.mem_cons.1 hy with rfl | hy
          · exact hx
          · exact h2 y hy
        · have : ((a.length : Int) == -1) = false := by rw [beq_eq_false_iff_ne]; omega
          simp [Lib.index, e, h3, this]

/-- A text, cut at its first slash. -/
def CutFacts (q n1 n2 : List UInt8) : Prop :=
  (n1 = q ∧ n2 = [] ∧ splitL q = [q]) ∨ (q = n1 ++ 47 :: n2 ∧ splitL q = n1 :: splitL n2)

theorem cut_facts (q : List UInt8) : CutFacts q (Lib.cut q [47]).1 (Lib.cut q [47]).2.1 := by
  unfold Lib.cut
  rcases index_cases q with ⟨h1, h2⟩ | ⟨a, b, h1, h2, h3⟩
  · rw [h1]
    exact .inl ⟨rfl, rfl, splitL_none q h2⟩
  · rw [h3, if_pos (by omega)]
    refine .inr ?_
    have e1 : q.take (↑a.length : Int).toNat = a := by rw [h1]; simp
    have e2 : q.drop ((↑a.length : Int).toNat + [47].length) = b := by
      rw [h1]
      simp
    simp only [e1]
    rw [show q.drop ((↑a.length : Int).toNat + [(47 : UInt8)].length) = b from e2]
    rw [h1]
    exact ⟨rfl, splitL_cut a b h2⟩

theorem cut3 (s : ByteArray) (hs : s.size < 4294967281) (w : World) :
    Calls Tryd.prog 62 #[.string s, .string ⟨#[47]⟩] w fun e w' => ∃ n1 n2 b n, e = .returned (.tuple #[.string n1, .string n2, .bool b]) ∧ w' = w.drewN n ∧ Hid (CutFacts s.data.toList n1.data.toList n2.data.toList) := by
  refine (cut2 s hs w).mono ?_
  rintro e w' ⟨rfl, n, rfl⟩
  exact ⟨_, _, _, n, rfl, rfl, cut_facts _⟩

end Go.Proofs.YtiabopbigplklaaDoor

namespace Go.Proofs.YtiabopbigplklaaDoor
open Go.RowKit Go.Shelf
attribute [local go_sem] Oper.semAt_some

def strSize : Option Value → Nat
  | some (.string s) => s.size
  | _ => 0

theorem ext_tail {p : ByteArray} {b : UInt8} {q : List UInt8} (hp : p.data.toList = b :: q) : (p.extract 1 p.size).data.toList = q := by
  have : (p.extract 1 p.size).data.toList = (p.data.toList.drop 1).take (p.size - 1) := by
    rw [ByteArray.data_extract]
    simp [Array.toList_extract]
  rw [this, hp]
  have h : p.size = (b :: q).length := by rw [← hp]; rfl
  simp [h]

theorem wrap64_in' (n : Int) (h : -9223372036854775808 ≤ n ∧ n ≤ 9223372036854775807) : wrap64 n = n := by unfold wrap64; omega

theorem size_list (p : ByteArray) : p.size = p.data.toList.length := rfl

theorem part_nil : partOk [] = false := rfl

/-- A cut part that is none. -/
theorem rest_bad {q n1 n2 : List UInt8} (hq : q ≠ []) (h : CutFacts q n1 n2) (ho : partOk n1 = false) : restOk q = false := by
  unfold restOk
  rcases h with ⟨h1, _, h3⟩ | ⟨_, h3⟩
  · rw [h3, ← h1]
    cases n1 with
    | nil => exact absurd h1.symm hq
    | cons x xs => simp [ho]
  · rw [h3]
    cases q with
    | nil => exact absurd rfl hq
    | cons x xs => simp [ho]

/-- The last part. -/
theorem rest_last {q n1 n2 : List UInt8} (h : CutFacts q n1 n2) (ho : partOk n1 = true) (hl : n1.length = q.length) : restOk q = true := by
  unfold restOk
  rcases h with ⟨h1, _, h3⟩ | ⟨h1, _⟩
  · rw [h3, ← h1]
    simp [ho]
  · rw [h1] at hl; simp at hl

/-- A part with others behind it. -/
theorem rest_more {q n1 n2 : List UInt8} (h : CutFacts q n1 n2) (ho : partOk n1 = true) (hl : n1.length ≠ q.length) : q.length = n1.length + n2.length + 1 ∧ restOk q = (splitL n2).all partOk := by
  rcases h with ⟨h1, _, h3⟩ | ⟨h1, h2⟩
  · exact absurd (by rw [h1]) hl
  · refine ⟨by rw [h1]; simp; omega, ?_⟩
    unfold restOk
    rw [h2]
    cases q with
    | nil => simp at h1
    | cons x xs => simp [ho]

set_option maxRecDepth 100000 in
set_option maxHeartbeats 4000000 in
theorem iter1 (n : Nat) (_ : 2 ≤ n) (l Bn : Nat) (J Jx : ByteArray → World → Prop)
    (jc : ∀ p W, J p W → W.cell? ⟨Bn, 0, none⟩ = some (.string p) ∧ W.frozen? ⟨Bn, 0, none⟩ = false)
    (xc : ∀ p W, Jx p W → W.cell? ⟨Bn, 0, none⟩ = some (.string p))
    (jd : ∀ p W k, J p W → J p (W.drewN k))
    (js : ∀ p p' W, J p W → J p' (W.setCell ⟨Bn, 0, none⟩ (.string p')))
    (hY : ∀ p x W, J p W → YieldAt Fence.wide (n - 1) Tryd.prog l #[.string x] W fun e W' => (Hid (partOk x.data.toList = true) ∧ e = .returned (.bool true) ∧ J p W') ∨ (Hid (partOk x.data.toList = false) ∧ e = .returned (.bool false) ∧ Jx p W'))
    (p0 : ByteArray) (q0 : List UInt8) (hp0 : Hid (p0.data.toList = 47 :: q0)) (hsz : p0.size ≤ 200) (W : World) (h0 : J p0 W) :
    CallsIn Fence.wide n Tryd.prog 61 #[.func (.yield l) #[] #[], .pointer (some ⟨Bn, 0, none⟩)] W fun e W' => (∃ v, e = .returned v) ∧
      ((restOk q0 = true ∧ ∃ p, J p W') ∨ (restOk q0 = false ∧ ∃ p, Jx p W')) := by
  refine callsIn_of_wp Tryd.func61 rfl trivial ?_ rfl
  simp only [Tryd.ntmps61, List.size_toArray, List.length_cons, List.length_nil, Nat.reduceAdd, Nat.reduceSub, Array.replicate_succ, Array.replicate_zero, List.push_toArray, List.append_toArray, List.nil_append, List.cons_append]
  gi_wp2
  gi_loopw [] (fun wr => (∃ (p : ByteArray) (q : List UInt8), J p wr ∧ Hid (p.data.toList = 47 :: q) ∧ Hid (restOk q = restOk q0) ∧ p.size ≤ 200) ∨ (∃ p : ByteArray, Jx p wr ∧ Hid (p = ⟨#[47]⟩) ∧ Hid (restOk q0 = false)))
    (fun wr => strSize (wr.cell? ⟨Bn, 0, none⟩))
  case atStart => exact .inl ⟨p0, q0, h0, hp0, rfl, hsz⟩
  case round =>
    rcases hrel with ⟨p, q, hJ, hp, hq, hs⟩ | ⟨p, hX, hp, hq⟩
    · obtain ⟨hc, hf⟩ := jc p wr hJ
      have hs1 : (1 : Int) ≤ ↑p.size := by
        have : p.size = (47 :: q).length := by rw [← hp.out]; rfl
        simp at this; omega
      have hsq : Hid (p.size = q.length + 1) := by show _ = _; rw [size_list, hp.out]; rfl
      by_cases hq' : q = []
      · -- '/' alone
        have hp' : p = ⟨#[47]⟩ := by
          have h := hp.out
          rw [hq'] at h
          obtain ⟨⟨x⟩⟩ := p
          simp at h
          rw [h]
        subst hp'
        have hq2 : Hid (restOk q0 = true) := by
          have h := hq.out
          rw [hq'] at h
          exact h.symm
        clear hq'
        gi_wp2
        go_end0
        exact ⟨⟨_, rfl⟩, .inl ⟨hq2.out, _, hJ⟩⟩
      · have hne : (p.toList == [47]) = false := by
          rw [beq_eq_false_iff_ne, ByteArray.toList_eq, hp.out]
          intro h
          injection h with _ h
          exact hq' h
        have hee : p.toList.isEmpty = false := by
          rw [ByteArray.toList_eq, hp.out]; rfl
        have hq2 : Hid (q ≠ []) := hq'
        clear hq'
        gi_wp2
        refine ⟨trivial, fun h => (by cases h), ?_⟩
        refine (callsIn_wide.2 (cut3 _ (by rw [ByteArray.size_extract]; omega) _)).mono ?_
        rintro e w' ⟨n1, n2, b, k, rfl, rfl, hcut⟩
        have hcut' : Hid (CutFacts q n1.data.toList n2.data.toList) := by
          have h := hcut.out
          rw [ext_tail hp.out] at h
          exact h
        clear hcut
        have hJ1 := jd _ _ k hJ
        obtain ⟨hc1, hf1⟩ := jc _ _ hJ1
        obtain ⟨fn, tmps, assign, body, hy, hR⟩ := hY _ n1 _ hJ1
        gi_wp2
        refine ⟨fun h => (by cases h), hR.mono ?_⟩
        rintro e W3 (⟨ho, rfl, hJ3⟩ | ⟨ho, rfl, hX3⟩)
        · obtain ⟨hc3, hf3⟩ := jc _ _ hJ3
          by_cases hl : n1.data.toList.length = q.length
          · have hlast : Hid (restOk q0 = true) := by
              rw [← hq.out]; exact rest_last hcut'.out ho.out hl
            have hlen : wrap64 ((n1.size : Int) + 1) = (p.size : Int) := by
              have h1 := hsq.out
              rw [wrap64_in' _ (by rw [size_list]; omega), size_list n1, hl, h1]
              simp
            clear hl
            gi_wp2
            refine bodyPost_ret (results_none rfl _ _ _) rfl ?_
            exact ⟨⟨_, rfl⟩, .inl ⟨hlast.out, _, hJ3⟩⟩
          · obtain ⟨hlq, hmore'⟩ := rest_more hcut'.out ho.out hl
            have hmore : Hid (restOk q0 = (splitL n2.data.toList).all partOk) := by
              rw [← hq.out]; exact hmore'
            have hlen : (wrap64 ((n1.size : Int) + 1) == (p.size : Int)) = false := by
              have h1 := hsq.out
              rw [wrap64_in' _ (by rw [size_list]; omega), size_list n1, h1, beq_eq_false_iff_ne]
              omega
            have hn2 : ¬ 9223372036854775807 < 1 + n2.size := by
              have h1 := hsq.out
              rw [size_list]; omega
            have hlq2 : Hid (q.length = n1.data.toList.length + n2.data.toList.length + 1) := hlq
            clear hl hlq hmore'
            have hJ4 := js p (⟨#[47]⟩ ++ n2) W3 hJ3
            obtain ⟨fn2, tm2, as2, bo2, hy2, hR2⟩ := hY _ ⟨#[]⟩ _ hJ4
            gi_wp2
            · rename_i hz _ _
              have hz' : n2.data.toList = [] := by
                rw [ByteArray.toList_eq] at hz
                exact List.isEmpty_iff.1 hz
              have hz2 : n2 = ⟨#[]⟩ := by
                obtain ⟨⟨x⟩⟩ := n2
                simp at hz'
                rw [hz']
              clear hz hz'
              refine ⟨fun h => (by cases h), hR2.mono ?_⟩
              rintro e W4 (⟨ho2, rfl, hJ5⟩ | ⟨ho2, rfl, hX5⟩)
              · exact absurd (ho2.out : partOk [] = true) (by decide)
              · have hc4 := xc _ _ hX5
                have hbad : Hid (restOk q0 = false) := by
                  rw [hmore.out, hz2]; rfl
                gi_wp2
                refine ⟨.inr ⟨_, hX5, ?_, hbad⟩, ?_⟩
                · rw [hz2]; rfl
                · have h1 := hsq.out; have h2 := hlq2.out
                  rw [hc4, hc, hz2]
                  show 1 < p.size
                  omega
            · rename_i hz
              have hz' : n2.data.toList ≠ [] := by
                rw [ByteArray.toList_eq] at hz
                intro h
                rw [h] at hz
                cases hz
              have hs2 : (⟨#[47]⟩ ++ n2 : ByteArray).size = n2.size + 1 := by
                rw [ByteArray.size_append]
                have : (⟨#[47]⟩ : ByteArray).size = 1 := rfl
                omega
              have h1 := hsq.out; have h2 := hlq2.out
              have h3 := size_list n2
              refine ⟨.inl ⟨_, n2.data.toList, hJ4, ?_, ?_, ?_⟩, ?_⟩
              · show _ = _
                rw [ByteArray.data_append, Array.toList_append]; rfl
              · show _ = _
                rw [hmore.out]
                unfold restOk
                cases hd : n2.data.toList with
                | nil => exact absurd hd hz'
                | cons x xs => simp
              · rw [hs2]; omega
              · rw [(jc _ _ hJ4).1, hc]
                show (⟨#[47]⟩ ++ n2 : ByteArray).size < p.size
                rw [hs2]; omega
        · have hc3 := xc _ _ hX3
          have hbad : Hid (restOk q0 = false) := by
            rw [← hq.out]; exact rest_bad hq2.out hcut'.out ho.out
          gi_wp2
          refine bodyPost_ret (results_none rfl _ _ _) rfl ?_
          exact ⟨⟨_, rfl⟩, .inr ⟨hbad.out, _, hX3⟩⟩
    · have hc := xc _ _ hX
      have hp' := hp.out
      subst hp'
      gi_wp2
      go_end0
      exact ⟨⟨_, rfl⟩, .inr ⟨hq.out, _, hX⟩⟩
end Go.Proofs.YtiabopbigplklaaDoor

namespace Go.Proofs.YtiabopbigplklaaDoor
open Go.RowKit Go.Shelf
attribute [local go_sem] Oper.semAt_some

theorem cellNew (W : World) (v : Value) (t : TypeId) : (W.alloc (.cells #[v] t)).cell? ⟨W.heap.size, 0, none⟩ = some v ∧ (W.alloc (.cells #[v] t)).frozen? ⟨W.heap.size, 0, none⟩ = false := by
  have h := World.alloc_heap_new W (.cells #[v] t)
  constructor
  · simp only [World.cell?, h]; rfl
  · simp only [World.frozen?, h]; rfl

theorem setOther {W : World} {p a : Addr} (v : Value) (h : p.block ≠ a.block) : (W.setCell p v).cell? a = W.cell? a :=
  World.cell?_of_block (Below.heap_setCell _ _ _ _ (fun e => h e.symm))

theorem cellAlloc {W : World} {a : Addr} {v : Value} (o : Obj) (h : W.cell? a = some v) : (W.alloc o).cell? a = some v := cell_kept h (World.grownBy_alloc W o none) (fun r e => by cases e)
theorem frozenAlloc {W : World} {a : Addr} {v : Value} (o : Obj) (h : W.cell? a = some v) (hf : W.frozen? a = false) : (W.alloc o).frozen? a = false := (frozen_kept h (World.grownBy_alloc W o none) (fun r e => by cases e)).trans hf

theorem head_of (p : ByteArray) (h : 0 < p.size) (e : (((p[0]'h).toNat : Nat) : Int) = 47) : ∃ q, p.data.toList = 47 :: q ∧ q.length + 1 = p.size := by
  obtain ⟨⟨l⟩⟩ := p
  cases l with
  | nil => simp [ByteArray.size] at h
  | cons b l =>
    refine ⟨l, ?_, rfl⟩
    have e' : ((b.toNat : Nat) : Int) = 47 := e
    have : b = 47 := UInt8.toNat_inj.1 (by have h47 : (47 : UInt8).toNat = 47 := rfl; omega)
    rw [this]

theorem size_pos_of (p : ByteArray) (h : ¬ p.toList = []) : 0 < p.size := by
  rw [ByteArray.toList_eq] at h
  rw [size_list]
  exact List.length_pos_iff.2 h

theorem not_head (p : ByteArray) (q : List UInt8) (hp : p.data.toList = 47 :: q) (h : 0 < p.size) : (((p[0]'h).toNat : Nat) : Int) = 47 := by
  obtain ⟨⟨l⟩⟩ := p
  simp at hp
  subst hp
  rfl

/-- Is it a right path? -/
def pathOk : List UInt8 → Bool
  | 47 :: q => decide (q.length < 200) && restOk q
  | _ => false

set_option maxRecDepth 100000 in
theorem parts1 (p : ByteArray) (w : World) :
    Calls Tryd.prog 46 #[.string p] w fun e w' => e = .returned (.func (.func 61) #[] #[.pointer (some ⟨w.heap.size, 0, none⟩)]) ∧ w' = w.alloc (.cells #[.string p] 9) := by
  go_enter Tryd.func46, Tryd.ntmps46
  go_wp2
  go_ret
  exact ⟨rfl, rfl⟩

theorem pathOk_no {l : List UInt8} (h : ∀ q, l = 47 :: q → ¬ q.length < 200) : pathOk l = false := by
  unfold pathOk
  split
  · rename_i q
    simp [h q rfl]
  · rfl

/-- Where the function leaves ahead of the loop. -/
theorem leave0 {R : Ending → World → Prop} {fn : Func} {a : Act} {w : World} (hd : a.defers = []) {v : Value} (hr : (results fn a.tmps).run Tryd.prog w = .ok v w) (h : R (.returned v) w) : bodyPostM Fence.wide 5 Tryd.prog fn R .ret a w := by
  show LeavesInM _ _ _ _ _ _ _ _ _
  rw [hd]
  exact ⟨v, hr, h⟩

/-- What lies between two rounds. -/
structure I0 (w0 : World) (p : ByteArray) (W : World) : Prop where
  ca : W.cell? ⟨w0.heap.size, 0, none⟩ = some (.bool false)
  fa : W.frozen? ⟨w0.heap.size, 0, none⟩ = false
  cb : W.cell? ⟨w0.heap.size + 1, 0, none⟩ = some (.string p)
  fb : W.frozen? ⟨w0.heap.size + 1, 0, none⟩ = false
  bl : Below w0.heap.size w0 W

theorem I0.own {w0 : World} {p : ByteArray} {W W' : World} {row : Option Nat} (h : I0 w0 p W) (hg : W.grownBy W' row) (hr : ∀ r, row = some r → w0.heap.size ≤ r ∧ ∃ o : Obj, W.heap[r]? = some o ∧ o.isCells = false) : I0 w0 p W' :=
  ⟨cell_kept h.ca hg (fun r e => (hr r e).2), (frozen_kept h.ca hg (fun r e => (hr r e).2)).trans h.fa, cell_kept h.cb hg (fun r e => (hr r e).2), (frozen_kept h.cb hg (fun r e => (hr r e).2)).trans h.fb, h.bl.grown hg h.bl.size (fun k e => (hr k e).1)⟩

theorem I0.put {w0 : World} {p : ByteArray} {W : World} {k : Nat} {o : Obj} (o' : Obj) (h : I0 w0 p W) (hk : w0.heap.size ≤ k) (ho : W.heap[k]? = some o) (hc : o.isCells = false) : I0 w0 p (W.putObj k o') :=
  h.own (grownBy_putObj' W k o') (fun r e => by cases e; exact ⟨hk, o, ho, hc⟩)

theorem I0.alloc {w0 : World} {p : ByteArray} {W : World} (o : Obj) (h : I0 w0 p W) : I0 w0 p (W.alloc o) :=
  h.own (World.grownBy_alloc W o none) (fun r e => by cases e)

theorem I0.drew {w0 : World} {p : ByteArray} {W : World} (k : Nat) (h : I0 w0 p W) : I0 w0 p (W.drewN k) :=
  ⟨h.ca, h.fa, h.cb, h.fb, below_drewN h.bl k⟩

theorem I0.set {w0 : World} {p : ByteArray} {W : World} (p' : ByteArray) (h : I0 w0 p W) : I0 w0 p' (W.setCell ⟨w0.heap.size + 1, 0, none⟩ (.string p')) := by
  refine ⟨?_, ?_, ?_, ?_, h.bl.setCell (by simp) _⟩
  · exact (setOther _ (by show _ ≠ _; simp)).trans h.ca
  · rw [World.frozen?_setCell]; exact h.fa
  · exact World.cell?_setCell_same' _ _ _ (by rw [h.cb]; rfl)
  · rw [World.frozen?_setCell]; exact h.fb

/-- A round's body, where it goes on and where it leaves. -/
def bodyEnd (w0 : World) (p x : ByteArray) (W : World) : Exit → Act → World → Prop
  | .normal, _, W' => Hid (partOk x.data.toList = true) ∧ KeepsOthers W W' ∧ I0 w0 p W'
  | .ret, _, W' => Hid (partOk x.data.toList = false) ∧ KeepsOthers W W' ∧ I0 w0 p W'
  | _, _, _ => False

/-- The loop, at whatever assignments and body. -/
theorem loop0 {n : Nat} (hn : 3 ≤ n) {t : Tmp} {g : Operand} {assign body : Code} {Q : Exit → Act → World → Prop} {a : Act} {w0 w : World} (hw : w0.heap.size + 2 ≤ w.heap.size)
    (hg : a.eval g = .func (.func 61) #[] #[.pointer (some ⟨w0.heap.size + 1, 0, none⟩)]) (p0 : ByteArray) (q0 : List UInt8) (hp0 : Hid (p0.data.toList = 47 :: q0)) (hsz : p0.size ≤ 200)
    (hI : I0 w0 p0 w) (a₁ : ByteArray → Act)
    (hassign : ∀ (l : Nat) (x : ByteArray) (W : World) (K : Act → World → Prop), K (a₁ x) W →
      assign.wpIn (Fence.wide.inRound l) (n - 1 - 1) Tryd.prog (Exit.then K (fun _ _ _ => False)) { tmps := ((#[t] : Array Tmp).zip #[Value.string x]).foldl (fun t (p, v) => t.setIfInBounds p v) a.tmps, defers := [] } W)
    (hbody : ∀ (l : Nat) (p x : ByteArray) (W : World), I0 w0 p W → body.wpIn (Fence.wide.inRound l) (n - 1 - 1) Tryd.prog (bodyEnd w0 p x W) (a₁ x) W)
    (hdone : ∀ (D : Nat) (p : ByteArray) (W : World), w0.heap.size ≤ D → Hid (restOk q0 = true) → I0 w0 p W → W.heap[D]? = some (.deferred (some [])) → Q .normal { a with defers := { target := .collected D, args := #[] } :: a.defers } W)
    (hstop : ∀ (D : Nat) (p : ByteArray) (W : World), w0.heap.size ≤ D → Hid (restOk q0 = false) → I0 w0 p W → W.heap[D]? = some (.deferred (some [])) → Code.ret.wpIn Fence.wide n Tryd.prog Q { a with defers := { target := .collected D, args := #[] } :: a.defers } W) :
    (Code.rangeFunc g #[t] assign body).wpIn Fence.wide n Tryd.prog Q a w := by
  refine wpIn_rangeFunc ?_
  intro fn hfn
  obtain ⟨rec, hrec⟩ : ∃ rec : LoopState → Option Code → Loop, rec = fun st pe => { state := st, pending := pe, fn, tmps := a.tmps, params := #[t], assign, body, defers := w.heap.size } := ⟨_, rfl⟩
  obtain ⟨W1, hW1⟩ : ∃ W1, (w.alloc (.deferred (some []))).alloc (.loop (rec .ready none)) = W1 := ⟨_, rfl⟩
  have hL1 : W1.heap[w.heap.size + 1]? = some (.loop (rec .ready none)) := by
    rw [← hW1]; have := World.alloc_heap_new (w.alloc (.deferred (some []))) (.loop (rec .ready none)); rwa [World.size_alloc] at this
  have hK1 : W1.heap[w.heap.size]? = some (.deferred (some [])) := by
    rw [← hW1]; exact (Below.heap_alloc _ _ _ (by simp)).trans (World.alloc_heap_new w _)
  have hI1 : I0 w0 p0 W1 := by rw [← hW1]; exact (hI.alloc _).alloc _
  have eg : ∀ args w, (callFunc 61 args).run Tryd.prog w = .ok (.enter 61 args) w := enters_of Tryd.func61 (by kernel_rfl) rfl
  refine ⟨w.heap.size + 1, [{ target := .collected w.heap.size, args := #[] }], W1, { target := .fn (.func 61) #[.pointer (some ⟨w0.heap.size + 1, 0, none⟩)], args := #[.func (.yield (w.heap.size + 1)) #[] #[]] }, W1, 61,
    #[.func (.yield (w.heap.size + 1)) #[] #[]] ++ #[.pointer (some ⟨w0.heap.size + 1, 0, none⟩)], W1, ?_, ?_, ?_, ?_, fun h => (by cases h), ?_⟩
  · rw [← hW1, hrec]; exact run_enterLoop_outer _ _ _ _ _
  · simp only [resolve, hg]
    simp [go_sem]
  · intro f' hf'; trivial
  · simp [invoke, go_sem, eg]
  · refine (iter1 (n - 1) (by omega) (w.heap.size + 1) (w0.heap.size + 1)
      (fun p W => I0 w0 p W ∧ W.heap[w.heap.size + 1]? = some (.loop (rec .ready none)) ∧ W.heap[w.heap.size]? = some (.deferred (some [])))
      (fun p W => I0 w0 p W ∧ W.heap[w.heap.size + 1]? = some (.loop (rec .done (some .ret))) ∧ W.heap[w.heap.size]? = some (.deferred (some [])))
      (fun p W h => ⟨h.1.cb, h.1.fb⟩) (fun p W h => h.1.cb) (fun p W k h => ⟨h.1.drew k, h.2.1, h.2.2⟩)
      (fun p p' W h => ⟨h.1.set p', (Below.heap_setCell _ _ _ _ (by show _ ≠ w0.heap.size + 1; omega)).trans h.2.1, (Below.heap_setCell _ _ _ _ (by show _ ≠ w0.heap.size + 1; omega)).trans h.2.2⟩)
      ?_ p0 q0 hp0 hsz W1 ⟨hI1, hL1, hK1⟩).mono ?_
    · -- one round
      rintro p x W ⟨hi, hl, hk⟩
      have hlt : w.heap.size + 1 < W.heap.size := (Array.getElem?_eq_some_iff.1 hl).1
      have hy := run_yield (P := Tryd.prog) (args := #[.string x]) hl (by rw [hrec]; rfl)
      rw [hrec] at hy
      refine ⟨fn, _, assign, body, hy, roundIn_of_wpIn hfn (hassign _ x W _ ⟨_, run_beginRound hl (by rw [hrec]), ?_⟩)⟩
      have hl2 : (W.putObj (w.heap.size + 1) (.loop { rec .ready none with state := .busy })).heap[w.heap.size + 1]? = some (.loop { rec .ready none with state := .busy }) := World.putObj_heap_same hlt
      have hk2 : (W.putObj (w.heap.size + 1) (.loop { rec .ready none with state := .busy })).heap[w.heap.size]? = some (.deferred (some [])) := (World.putObj_heap_other (by omega)).trans hk
      refine wpIn_mono (hbody _ p x _ (hi.put _ (by omega) hl rfl)) ?_
      have fin : ∀ (jump : Option Code) (W3 : World), KeepsOthers (W.putObj (w.heap.size + 1) (.loop { rec .ready none with state := .busy })) W3 →
          (Instr.endRound (w.heap.size + 1) jump).run Tryd.prog W3 = .ok (.bool jump.isNone) (W3.putObj (w.heap.size + 1) (.loop (rec (if jump.isNone then .ready else .done) jump))) ∧
          W3.heap[w.heap.size + 1]? = some (.loop { rec .ready none with state := .busy }) ∧
          (W3.putObj (w.heap.size + 1) (.loop (rec (if jump.isNone then .ready else .done) jump))).heap[w.heap.size + 1]? = some (.loop (rec (if jump.isNone then .ready else .done) jump)) ∧
          (W3.putObj (w.heap.size + 1) (.loop (rec (if jump.isNone then .ready else .done) jump))).heap[w.heap.size]? = some (.deferred (some [])) := fun jump W3 hk3 => by
        have hl3 := hk3.same _ _ hl2 rfl
        have := run_endRound (P := Tryd.prog) jump hl3
        rw [hrec] at this ⊢
        exact ⟨this, by rw [hrec] at hl3; exact hl3, World.putObj_heap_same (Array.getElem?_eq_some_iff.1 hl3).1, (World.putObj_heap_other (by omega)).trans (hk3.same _ _ hk2 rfl)⟩
      rintro e a3 W3 hp
      cases e with
      | normal =>
        obtain ⟨ho, hk3, hi3⟩ := hp
        obtain ⟨hr, hl3, hl4, hk4⟩ := fin none W3 hk3
        exact ⟨_, _, hr, .inl ⟨ho, rfl, hi3.put _ (by omega) hl3 rfl, hl4, hk4⟩⟩
      | ret =>
        obtain ⟨ho, hk3, hi3⟩ := hp
        obtain ⟨hr, hl3, hl4, hk4⟩ := fin (some .ret) W3 hk3
        exact ⟨_, _, hr, .inr ⟨ho, rfl, hi3.put _ (by omega) hl3 rfl, hl4, hk4⟩⟩
      | exit id => exact hp.elim
      | goto t => exact hp.elim
      | panic ch => exact hp.elim
      | outgrown => exact hp.elim
    · -- behind the iterator
      rintro e W2 ⟨⟨v, rfl⟩, (⟨hS, p, hi, hl, hk⟩ | ⟨hS, p, hi, hl, hk⟩)⟩
      · exact ⟨none, _, by have := run_endLoop (P := Tryd.prog) hl (by rw [hrec]; simp); rw [hrec] at this; exact this, hdone _ p _ (by omega) hS (hi.put _ (by omega) hl rfl) ((World.putObj_heap_other (by omega)).trans hk)⟩
      · exact ⟨some .ret, _, by have := run_endLoop (P := Tryd.prog) hl (by rw [hrec]; simp); rw [hrec] at this; exact this, hstop _ p _ (by omega) hS (hi.put _ (by omega) hl rfl) ((World.putObj_heap_other (by omega)).trans hk)⟩

set_option maxRecDepth 100000 in
set_option maxHeartbeats 4000000 in
theorem check0 (p : ByteArray) (w : World) :
    CallsIn Fence.wide 5 Tryd.prog 35 #[.string p] w fun e w' => e = .returned (.bool (pathOk p.data.toList)) ∧ Below w.heap.size w w' := by
  have hb1 : Below w.heap.size w (w.alloc (.cells #[.bool false] 4)) := (Below.refl _ w).alloc (Nat.le_refl _) _
  have hcA := (cellNew w (.bool false) 4).1
  have hfA := (cellNew w (.bool false) 4).2
  by_cases hbad : ∀ q, p.data.toList = 47 :: q → ¬ q.length < 200
  · have hno : Hid (pathOk p.data.toList = false) := pathOk_no hbad
    have hbad' : Hid (∀ q, p.data.toList = 47 :: q → ¬ q.length < 200) := hbad
    clear hbad
    refine callsIn_of_wp_marks Tryd.func35 rfl trivial ?_ rfl
    simp only [Tryd.ntmps35, List.size_toArray, List.length_cons, List.length_nil, Nat.reduceAdd, Nat.reduceSub, Array.replicate_succ, Array.replicate_zero, List.push_toArray, List.append_toArray, List.nil_append, List.cons_append]
    gi_wp2
    · refine leave0 rfl (v := .bool false) ?_ ⟨by rw [hno.out], hb1⟩
      simp [results, Tryd.f35, go_sem, hcA]
    · refine leave0 rfl (v := .bool false) ?_ ⟨by rw [hno.out], hb1⟩
      simp [results, Tryd.f35, go_sem, hcA]
    · exfalso
      rename_i g1 g2 g3 g4 _ _ _ _ _ _
      obtain ⟨q, h1, h2⟩ := head_of p g2 g3
      exact hbad'.out q h1 (by have := g4.2; omega)
    · refine leave0 rfl (v := .bool false) ?_ ⟨by rw [hno.out], hb1⟩
      simp [results, Tryd.f35, go_sem, hcA]
    · exfalso
      rename_i g1 _ _ g3
      exact g3 (size_pos_of p g1)
  · obtain ⟨q, hq⟩ := Classical.not_forall.1 hbad
    obtain ⟨hp, hlen⟩ := Classical.not_imp.1 hq
    have hlen' : q.length < 200 := Classical.not_not.1 hlen
    have hsz : p.size = q.length + 1 := by rw [size_list, hp]; rfl
    have hpos : 0 < p.size := by omega
    have hhd := not_head p q hp hpos
    have hp' : Hid (p.data.toList = 47 :: q) := hp
    have hsz' : Hid (p.size = q.length + 1) := hsz
    have hle : (p.size : Int) ≤ 200 := by omega
    have hee : p.toList.isEmpty = false := by rw [ByteArray.toList_eq, hp]; rfl
    have hok : Hid (pathOk p.data.toList = restOk q) := by
      show _ = _
      rw [hp]; unfold pathOk; simp [hlen']
    clear hbad hq hlen hlen' hp hsz
    refine callsIn_of_wp_marks Tryd.func35 rfl trivial ?_ rfl
    simp only [Tryd.ntmps35, List.size_toArray, List.length_cons, List.length_nil, Nat.reduceAdd, Nat.reduceSub, Array.replicate_succ, Array.replicate_zero, List.push_toArray, List.append_toArray, List.nil_append, List.cons_append]
    gi_wp2
    refine ⟨trivial, (callsIn_wide.2 (parts1 _ _)).mono ?_⟩
    rintro e w' ⟨rfl, rfl⟩
    gi_wp2
    have hI : I0 w p ((w.alloc (.cells #[.bool false] 4)).alloc (.cells #[.string p] 9)) := by
      have h := cellNew (w.alloc (.cells #[.bool false] 4)) (.string p) 9
      rw [World.size_alloc] at h
      exact ⟨cellAlloc _ hcA, frozenAlloc _ hcA hfA, h.1, h.2, hb1.alloc (by simp) _⟩
    refine loop0 (by omega) (w0 := w) (by simp) rfl p q hp' (by omega) hI
      (fun x => { tmps := #[.string p, undef, .pointer (some ⟨w.heap.size, 0, none⟩), .string x, .string p, .bool false, .bool false, .string p, .int .u8 47, .bool false, .bool false, .bool false, .string p, .int .i64 p.size, .bool (decide (200 < (p.size : Int))), .bool (decide (200 < (p.size : Int))), .string p, .func (.func 61) #[] #[.pointer (some ⟨w.heap.size + 1, 0, none⟩)], .string x, undef, undef, undef], defers := [] }) ?assign ?body ?done ?stop
    case assign =>
      intro l x W K hK
      gi_wp2
      exact hK
    case body =>
      intro l p1 x W h1
      have hca := h1.ca
      have hfa := h1.fa
      gi_wp2
      refine ⟨trivial, (CallsIn.inRound l (callsIn_wide.2 (part1 x W))).mono ?_⟩
      rintro e W2 ⟨rfl, pos, rfl⟩
      have hi2 : I0 w p1 (W.iter x pos) := h1.alloc _
      have hk2 : KeepsOthers W (W.iter x pos) := KeepsOthers.alloc W _
      have hca2 := hi2.ca
      have hfa2 := hi2.fa
      cases hx : partOk x.data.toList with
      | true =>
        have hx' : Hid (partOk x.data.toList = true) := hx
        clear hx
        gi_wp2
        exact ⟨hx', hk2, hi2⟩
      | false =>
        have hx' : Hid (partOk x.data.toList = false) := hx
        clear hx
        gi_wp2
        refine ⟨hx', hk2.trans (KeepsOthers.setCell _ _ _), ?_, ?_, ?_, ?_, ?_⟩
        · exact World.cell?_setCell_same' _ _ _ (by rw [hca2]; rfl)
        · rw [World.frozen?_setCell]; exact hfa2
        · exact (setOther _ (by show _ ≠ _; simp)).trans hi2.cb
        · rw [World.frozen?_setCell]; exact hi2.fb
        · exact hi2.bl.setCell (p := ⟨w.heap.size, 0, none⟩) (Nat.le_refl _) _
    case done =>
      intro D p1 W hD hr h1 hK
      have hca := h1.ca
      have hfa := h1.fa
      gi_wp2
      have hK' := (KeepsOthers.setCell W ⟨w.heap.size, 0, none⟩ (.bool true)).same D _ hK rfl
      refine ⟨by simp, .inl ⟨_, _, rfl, run_takeDeferred hK', ?_⟩⟩
      have hc5 := cell_kept (World.cell?_setCell_same' W ⟨w.heap.size, 0, none⟩ (.bool true) (by rw [hca]; rfl)) (grownBy_putObj' _ D (.deferred none)) (fun r e => by cases e; exact ⟨_, hK', rfl⟩)
      refine ⟨.bool true, ?_, by rw [hok.out, hr.out], (h1.bl.setCell (p := ⟨w.heap.size, 0, none⟩) (Nat.le_refl _) _).trans (belowK_b (w := w) (Nat.le_refl _) _ D _ _ hD hK' rfl rfl)⟩
      simp [results, Tryd.f35, go_sem, hc5]
    case stop =>
      intro D p1 W hD hr h1 hK
      gi_wp2
      refine ⟨by simp, .inl ⟨_, _, rfl, run_takeDeferred hK, ?_⟩⟩
      have hc5 := cell_kept h1.ca (grownBy_putObj' _ D (.deferred none)) (fun r e => by cases e; exact ⟨_, hK, rfl⟩)
      refine ⟨.bool false, ?_, by rw [hok.out, hr.out], h1.bl.trans (belowK_b (w := w) (Nat.le_refl _) W D _ _ hD hK rfl rfl)⟩
      simp [results, Tryd.f35, go_sem, hc5]

/-- path.Check, at every text. -/
theorem check1 (p : ByteArray) (w : World) : Calls Tryd.prog 35 #[.string p] w fun e w' => e = .returned (.bool (pathOk p.data.toList)) ∧ Below w.heap.size w w' := callsIn_wide.1 (check0 p w)

#print axioms check1
end Go.Proofs.YtiabopbigplklaaDoor

namespace Go.Proofs.YtiabopbigplklaaDoor
open Go.Sx Go.RowKit Go.Shelf

def ctPath : CT := fun args h K => match args with
  | [.v (.string s)] => K (.v (.bool (pathOk s.data.toList))) h
  | [.str l] => K (.v (.bool (pathOk l))) h
  | _ => false

def ctIdx : CT := fun args h K => match args with
  | [.v (.string s), .v (.int .u8 c)] => K (.v (.int .i64 (Lib.indexByte s.data.toList c.toNat.toUInt8))) h
  | [.str l, .v (.int .u8 c)] => K (.v (.int .i64 (Lib.indexByte l c.toNat.toUInt8))) h
  | _ => false

/-- The functions whose contracts are laid down. -/
def C0 : FuncId → Option CT := fun f => bif Nat.beq f 35 then some ctPath else bif Nat.beq f 76 then some ctIdx else none

theorem C0_sound : CTSound Tryd.prog C0 := by
  intro f ct h args h0 K hk ρ w H hargs
  unfold C0 at h
  cases h1 : Nat.beq f 35 with
  | true =>
    rw [h1] at h
    have := Nat.eq_of_beq_eq_true h1
    subst this
    simp only [cond_true, Option.some.injEq] at h
    subst h
    unfold ctPath at hk
    split at hk
    · rename_i s
      exact goes_of_below Tryd.func35 (by kernel_rfl) rfl (check1 s w) H hk rfl trivial
    · rename_i l
      exact goes_of_below Tryd.func35 (by kernel_rfl) rfl (check1 ⟨l.toArray⟩ w) H hk rfl trivial
    · exact absurd hk Bool.false_ne_true
  | false =>
    rw [h1] at h
    simp only [cond_false] at h
    cases h2 : Nat.beq f 76 with
    | true =>
      rw [h2] at h
      have := Nat.eq_of_beq_eq_true h2
      subst this
      simp only [cond_true, Option.some.injEq] at h
      subst h
      have key : ∀ (s : ByteArray) (c : Int), (callFunc 76 #[.string s, .int .u8 c]).run Tryd.prog w = .ok (.value (.int .i64 (Lib.indexByte s.data.toList c.toNat.toUInt8))) w := fun s c => by
        rw [run_callFunc_extern Tryd.func76 (by kernel_rfl) (by kernel_rfl) (by kernel_rfl) (e := Extern.BytealgIndexByte.indexByte) (by kernel_rfl), Lib.run_indexByteString]
        rfl
      unfold ctIdx at hk
      split at hk
      · rename_i s c
        exact goes_of_entry (key s c) H hk rfl trivial
      · rename_i l c
        exact goes_of_entry (key ⟨l.toArray⟩ c) H hk rfl trivial
      · exact absurd hk Bool.false_ne_true
    | false => rw [h2] at h; cases h

end Go.Proofs.YtiabopbigplklaaDoor

namespace Go.Proofs.YtiabopbigplklaaDoor
open Go.Sx Go.RowKit
noncomputable section
open Classical

theorem wrapI {n : Int} (h0 : -9223372036854775808 ≤ n) (h1 : n ≤ 9223372036854775807) : IntKind.i64.wrap n = n := by
  simp only [IntKind.wrap, IntKind.bits, IntKind.signed]
  simp
  omega

theorem split_nd {p : Prop} {i : Decidable p} {A B : Bool} (h1 : p → B = true) (h2 : ¬ p → A = true) : (bif !(decide p) then A else B) = true := by
  by_cases h : p
  · rw [decide_eq_true h]; exact h1 h
  · rw [decide_eq_false h]; exact h2 h

theorem mixed : Tryd.prog.follows .mixedOrders = true := by kernel_rfl

/-- A loop over the places of a row, that reads only: slot s counts. -/
def cnt (A : Arena) (s : Nat) (keep keepB : List Nat) (n : Nat) (p : Nat → Prop) : LInv := { γ := Nat, G := fun k => k ≤ n ∧ p k, keepS := keep, keepB := keepB, sl := fun k => [(s, .v (.int .i64 k))], bl := fun _ => [], ar := fun _ => A, mu := fun k => n - k }

theorem inc_slot {k : Nat} (h : k < 9223372036854775807) : some (SV.v (.int .i64 (IntKind.i64.wrap ((k : Int) + 1)))) = some (SV.v (.int .i64 ((k + 1 : Nat) : Int))) := by
  rw [Sx.wrap_i64 (by omega) (by omega)]; rfl

theorem beqL_iff {l m : List UInt8} : beqL l m = true ↔ l = m := by rw [beqL_eq]; simp

theorem beqL_ff {l m : List UInt8} : beqL l m = false ↔ ¬ l = m := by rw [← beqL_iff]; simp

theorem goes_of_calls {P : Program} {f : FuncId} {args : Array Value} {w : World} {Φ : Value → World → Prop} {fn : Func} (hf : P.funcs[f]? = some fn) (h1 : (fn.name == "runtime.NumGoroutine") = false ∧ fn.body.isNone = false)
    (h : Calls P f args w fun e w' => ∃ v, e = .returned v ∧ Φ v w') : CallGoes P f args w Φ fun _ _ => False := by
  refine .inl ⟨fn, hf, h1, fun cs => ?_⟩
  obtain ⟨e, w', fr, k1, k2⟩ := h cs
  exact ⟨e, w', fr, .inl k1, k2⟩

end
end Go.Proofs.YtiabopbigplklaaDoor

namespace Go.Proofs.YtiabopbigplklaaDoor
open Go.Sx Go.RowKit
noncomputable section
open Classical

def strV (l : List UInt8) : Value := .string ⟨l.toArray⟩

/-- A slice of texts. -/
def SlT (A : Arena) (v : Value) (l : List (List UInt8)) : Prop := Sl A 1 l.length v (l.map strV) ∧ l.length ≤ 140737488351232

theorem text_at {A : Arena} {g o n : Nat} {ls : List (List UInt8)} (h : A.rd g o (n * 1) = some (ls.map strV)) (k : Nat) (hk : k < ls.length) (hn : n = ls.length) : A.rd g (o + k * 1) 1 = some [.string ⟨ls[k].toArray⟩] := by
  rw [rd_at h (i := k * 1) (m := 1) (by omega)]
  congr 1
  refine List.ext_getElem? fun i => ?_
  cases i with
  | zero => simp [hk, strV]
  | succ i =>
    simp
    omega

end
end Go.Proofs.YtiabopbigplklaaDoor

namespace Go.Proofs.YtiabopbigplklaaDoor
open Go.Sx Go.RowKit
noncomputable section
open Classical

def rootS : ByteArray := ⟨#[47]⟩
def pathL (q : ByteArray) : List UInt8 := q.data.toList

structure ToldD where
  path : ByteArray
  data : List UInt8
  stat : StatD

def bytesOf (l : List UInt8) : ByteArray := ⟨l.toArray⟩

theorem bytesOf_pathL (q : ByteArray) : bytesOf (pathL q) = q := by
  obtain ⟨⟨l⟩⟩ := q; rfl

def nodeC (x : ToldD × Value) : List Value := .string x.1.path :: x.2 :: x.1.stat.cells

theorem flat_at {α : Type} (enc : α → List Value) (k : Nat) (hk : ∀ x, (enc x).length = k) : ∀ (l : List α) (i : Nat) (hi : i < l.length), ((l.flatMap enc).drop (i * k)).take k = enc l[i]
  | [], i, hi => by simp at hi
  | x :: l, 0, _ => by
    rw [Nat.zero_mul, List.drop_zero, List.flatMap_cons, List.take_append_of_le_length (by rw [hk]; omega), List.take_of_length_le (by rw [hk]; omega)]; rfl
  | x :: l, i + 1, hi => by
    rw [List.flatMap_cons, Nat.succ_mul, Nat.add_comm, ← List.drop_drop, List.drop_left' (hk x)]
    exact flat_at enc k hk l i (by simpa using hi)

theorem flat_len {α : Type} (enc : α → List Value) (k : Nat) (hk : ∀ x, (enc x).length = k) (l : List α) : (l.flatMap enc).length = l.length * k := by
  induction l with
  | nil => simp
  | cons x l ih => rw [List.flatMap_cons, List.length_append, hk, ih, List.length_cons, Nat.succ_mul]; omega

theorem row_at {α : Type} {enc : α → List Value} {k : Nat} (hk : ∀ x, (enc x).length = k) {A : Arena} {g o n : Nat} {l : List α} (h : A.rd g o (n * k) = some (l.flatMap enc)) (i : Nat) (hi : i < l.length) (hn : n = l.length) : A.rd g (o + i * k) k = some (enc l[i]) := by
  have hle : i * k + k ≤ n * k := by rw [← Nat.succ_mul]; exact Nat.mul_le_mul_right _ (by omega)
  rw [rd_at h (i := i * k) (m := k) hle, flat_at enc k hk l i hi]

/-- A row of nodes. -/
def NodesS (D : Arena) (v : Value) (ns : List ToldD) : Prop := ∃ l : List (ToldD × Value), l.map (·.1) = ns ∧ Sl D 12 ns.length v (l.flatMap nodeC) ∧ ∀ x ∈ l, SlB D x.2 x.1.data

def NodesR (A : Arena) (v : Value) (l : List (ToldD × Value)) : Prop := Sl A 12 l.length v (l.flatMap nodeC) ∧ ∀ x ∈ l, SlB A x.2 x.1.data

theorem nodesR_of {A B : Arena} {v : Value} {ns : List ToldD} (h : NodesS A v ns) (hs : A.Sub B) : ∃ l : List (ToldD × Value), l.map (·.1) = ns ∧ NodesR B v l := by
  obtain ⟨l, h1, h2, h3⟩ := h
  have hl : l.length = ns.length := by rw [← h1, List.length_map]
  exact ⟨l, h1, by rw [hl]; exact h2.sub hs, fun x hx => (h3 x hx).sub hs⟩

def sitC (s : SitD) : List Value := [.int .i64 s.ses, .int .i64 s.tmo, .int .i64 s.turn]

/-- Sittings as a row that came in. -/
def SlS (A : Arena) (v : Value) (l : List SitD) : Prop := Sl A 3 l.length v (l.flatMap sitC) ∧ l.length ≤ 140737488351232

abbrev natV (n : Nat) : Value := .int .i64 n

theorem wrap_inc {k : Nat} (h : k < 9223372036854775807) : IntKind.i64.wrap ((k : Int) + 1) = ((k + 1 : Nat) : Int) := by
  have h1 := inc_slot h
  injection h1 with h1
  injection h1 with h1
  injection h1

def StatOk (s : StatD) : Prop := 0 ≤ s.czxid ∧ 0 ≤ s.mzxid ∧ 0 ≤ s.pzxid ∧ 0 ≤ s.ctime ∧ 0 ≤ s.mtime ∧ 0 ≤ s.ver ∧ 0 ≤ s.cver ∧ 0 ≤ s.owner ∧ 0 ≤ s.len ∧ 0 ≤ s.kids

def NodeFits (x : ToldD) : Prop := pathOk x.path.data.toList = true ∧ x.data.length ≤ 1000 ∧ StatOk x.stat

def LoadOk (l : List ToldD) : Prop := (∀ x ∈ l, NodeFits x) ∧ (l.Pairwise fun a b => ltL (pathL a.path) (pathL b.path) = true) ∧ ∃ x, l.head? = some x ∧ x.path = rootS

/-- What Load asks, one by one. -/
def LoadC (l : List ToldD) : Prop := (∀ i (h : i < l.length), NodeFits l[i] ∧ (0 < i → ltL (pathL l[i - 1].path) (pathL l[i].path) = true)) ∧ ∃ x, l.head? = some x ∧ x.path = rootS

theorem loadC_of {l : List ToldD} (h : LoadOk l) : LoadC l := by
  refine ⟨fun i hi => ⟨h.1 _ (List.getElem_mem hi), fun h0 => ?_⟩, h.2.2⟩
  have := List.pairwise_iff_getElem.1 h.2.1 (i - 1) i (by omega) hi (by omega)
  exact this

theorem loadC_fail {l : List (ToldD × Value)} {k : Nat} (hk : k < l.length) (h : ¬ (NodeFits l[k].1 ∧ (0 < k → ltL (pathL l[k - 1].1.path) (pathL l[k].1.path) = true))) : ¬ LoadC (l.map (·.1)) := fun hc => h (by
  have := hc.1 k (by rw [List.length_map]; exact hk)
  simpa using this)

theorem loadC_all {l : List (ToldD × Value)} (h : ∀ i (h : i < l.length), NodeFits l[i].1 ∧ (0 < i → ltL (pathL l[i - 1].1.path) (pathL l[i].1.path) = true)) (hr : ∃ x, (l.map (·.1)).head? = some x ∧ x.path = rootS) : LoadC (l.map (·.1)) :=
  ⟨fun i hi => by
    have := h i (by rw [List.length_map] at hi; exact hi)
    simpa using this, hr⟩

theorem ltL_iff : ∀ (l m : List UInt8), ltL l m = true ↔ l < m
  | [], [] => by simp [ltL]
  | _ :: _, [] => by simp [ltL]
  | [], _ :: _ => by simp [ltL]
  | a :: l, b :: m => by
    rw [List.cons_lt_cons_iff, ← ltL_iff l m]
    simp only [ltL]
    by_cases h : a < b
    · have h' : a.toNat < b.toNat := UInt8.lt_iff_toNat_lt.1 h
      have hb : Nat.blt a.toNat b.toNat = true := Nat.ble_eq.mpr h'
      simp [hb, h]
    · have h' : ¬ a.toNat < b.toNat := fun x => h (UInt8.lt_iff_toNat_lt.2 x)
      have hb : Nat.blt a.toNat b.toNat = false := by
        cases hx : Nat.blt a.toNat b.toNat with
        | false => rfl
        | true => exact absurd (Nat.le_of_ble_eq_true hx) h'
      by_cases e : a = b
      · subst e
        simp [hb, h]
      · have he : Nat.beq a.toNat b.toNat = false := by
          cases hx : Nat.beq a.toNat b.toNat with
          | false => rfl
          | true => exact absurd (UInt8.toNat_inj.1 (Nat.eq_of_beq_eq_true hx)) e
        simp [hb, he, h, e]

theorem ltL_no {a b : List UInt8} (h : ltL a b = true) : (ltL b a || beqL b a) = false := by
  have h1 := (ltL_iff a b).1 h
  rw [Bool.or_eq_false_iff]
  constructor
  · cases hx : ltL b a with
    | false => rfl
    | true => exact absurd ((ltL_iff b a).1 hx) (List.lt_asymm h1)
  · cases hx : beqL b a with
    | false => rfl
    | true =>
      have e := beqL_iff.1 hx
      subst e
      exact absurd h1 (List.lt_irrefl _)

theorem bytes_ext {a b : ByteArray} (h : a.data.toList = b.data.toList) : a = b := by
  obtain ⟨⟨a⟩⟩ := a; obtain ⟨⟨b⟩⟩ := b
  obtain rfl : a = b := h; rfl

theorem ltL_tri : ∀ {l m : List UInt8}, ltL l m = false → ltL m l = false → l = m
  | [], [], _, _ => rfl
  | _ :: _, [], _, h => by simp [ltL] at h
  | [], _ :: _, h, _ => by simp [ltL] at h
  | a :: l, b :: m, h1, h2 => by
    simp only [ltL] at h1 h2
    cases hab : Nat.blt a.toNat b.toNat with
    | true => rw [hab] at h1; cases h1
    | false =>
      cases hba : Nat.blt b.toNat a.toNat with
      | true => rw [hba] at h2; cases h2
      | false =>
        have h3 : ¬ a.toNat < b.toNat := fun h => by
          have : Nat.blt a.toNat b.toNat = true := Nat.ble_eq.mpr h
          rw [hab] at this; cases this
        have h4 : ¬ b.toNat < a.toNat := fun h => by
          have : Nat.blt b.toNat a.toNat = true := Nat.ble_eq.mpr h
          rw [hba] at this; cases this
        have e : a.toNat = b.toNat := by omega
        have hb1 : Nat.beq a.toNat b.toNat = true := by rw [e]; exact Nat.beq_refl _
        have hb2 : Nat.beq b.toNat a.toNat = true := by rw [e]; exact Nat.beq_refl _
        rw [hab, hb1] at h1
        rw [hba, hb2] at h2
        rw [UInt8.toNat_inj.1 e, ltL_tri h1 h2]

theorem ltL_yes {a b : List UInt8} (h : (ltL b a || beqL b a) = false) : ltL a b = true := by
  rw [Bool.or_eq_false_iff] at h
  cases hx : ltL a b with
  | true => rfl
  | false =>
    have e := ltL_tri hx h.1
    subst e
    exact absurd rfl (beqL_ff.1 h.2)

def ShortL (l : List (ToldD × Value)) : Prop := ∀ x ∈ l, x.1.path.data.toList.length ≤ 140737488351232

end
end Go.Proofs.YtiabopbigplklaaDoor

namespace Go.Sx
noncomputable section

structure MemD where
  id : Int
  role : Int
  weight : Int
  group : Int

def MemD.cells (m : MemD) : List Value := [.int .i64 m.id, .int .u8 m.role, .int .i64 m.weight, .int .i64 m.group]

def memCells (l : List MemD) : List Value := (l.map MemD.cells).flatten

theorem memCells_rows (l : List MemD) : ∀ r ∈ l.map MemD.cells, r.length = 4 := fun r hr => by
  obtain ⟨m, _, rfl⟩ := List.mem_map.1 hr; rfl

/-- Members. -/
def MemR (B : Arena) (v : Value) (l : List MemD) : Prop := Sl B 4 l.length v (memCells l) ∧ l.length * 32 ≤ 140737488351232

theorem MemR.sub {A B : Arena} (h : B.Sub A) {v : Value} {l : List MemD} (hs : MemR B v l) : MemR A v l := ⟨hs.1.sub h, hs.2⟩

end
end Go.Sx

namespace Go.Proofs.YtiabopbigplklaaDoor
open Go.Sx Go.RowKit
noncomputable section
open Classical

def memberOk (last : Int) (m : MemD) : Bool :=
  if m.id ≤ last ∨ 7 < m.id then false
  else if m.role = 2 then decide (m.weight = 0 ∧ m.group = 0)
  else decide (m.role = 1 ∧ 0 ≤ m.weight ∧ m.weight ≤ 1000 ∧ 0 ≤ m.group ∧ m.group < 7)

theorem memberOk_iff (last : Int) (m : MemD) : memberOk last m = true ↔ last < m.id ∧ m.id ≤ 7 ∧ ((m.role = 2 ∧ m.weight = 0 ∧ m.group = 0) ∨ (m.role = 1 ∧ 0 ≤ m.weight ∧ m.weight ≤ 1000 ∧ 0 ≤ m.group ∧ m.group < 7)) := by
  unfold memberOk
  split
  · simp; omega
  · split
    · simp; omega
    · simp; omega

def ensGo (last w : Int) : List MemD → Option (Int × Int)
  | [] => some (last, w)
  | m :: ms => if memberOk last m = true then ensGo m.id (w + m.weight) ms else none

/-- The error's number of a config. -/
def ensD (ver : Int) (ms : List MemD) : Int :=
  if 7 < ms.length then 3 else match ensGo 0 0 ms with
    | none => 140
    | some (_, w) => if w = 0 ∨ ver < 0 ∨ 4611686018427387904 < ver then 140 else 0

theorem mem_at {A : Arena} {g o n : Nat} {l : List MemD} (h : A.rd g o (n * 4) = some (memCells l)) (k : Nat) (hk : k < l.length) (hn : n = l.length) : A.rd g (o + k * 4) 4 = some [.int .i64 l[k].id, .int .u8 l[k].role, .int .i64 l[k].weight, .int .i64 l[k].group] := by
  have := rows_at (rows := l.map MemD.cells) h (memCells_rows l) k (by simpa using hk) (by simpa using hn)
  simpa [MemD.cells] using this

def ensS : FSpec := ⟨Int × List MemD, fun g vs A => ∃ vm, vs = [.agg #[.int .i64 g.1, vm]] ∧ MemR A vm g.2, fun g _ A v A' => A' = A ∧ v = .int .i64 (ensD g.1 g.2)⟩

def ensInv (A : Arena) (ms : List MemD) : LInv := { γ := Nat × Int × Int, G := fun s => s.1 ≤ ms.length ∧ ensGo s.2.1 s.2.2 (ms.drop s.1) = ensGo 0 0 ms ∧ 0 ≤ s.2.2 ∧ s.2.2 ≤ 1000 * s.1, keepS := [1, 3, 5, 14, 15], keepB := [0], sl := fun s => [(4, .v (.int .i64 s.2.2)), (16, .v (.int .i64 s.1))], bl := fun s => [(1, .cells [.v (.int .i64 s.2.1)] 0 (3 + 1))], ar := fun _ => A, mu := fun s => ms.length - s.1 }

set_option maxRecDepth 100000 in
set_option maxHeartbeats 0 in
theorem ens_ok : FOk Tryd.prog 34 ensS := by
  refine fok_v mixed fun ⟨ver, ms⟩ vs A hp => ?_
  simp only [ensS] at hp
  obtain ⟨vm, rfl, ⟨ao, c, rfl, hc, hl, ha1, ha2, ha3⟩, hxl⟩ := hp
  refine ⟨noC, tabO Tryd.prog noC noL 60 [(34, 0)], 60, noC_sound _, tabO_sound mixed (noC_sound _) (noL_sound _) _ _, fun blk os out tape D hD => ?_⟩
  conv => lhs; whnf
  refine split_dec (fun h7 => ?_) (fun h7 => ?_) <;> (conv => lhs; whnf)
  · refine (hD _).2 ⟨rfl, ?_⟩
    have h7 : (7 : Int) < ms.length := h7
    rw [ensD, if_pos (show 7 < ms.length by omega)]
  have h7 : ¬ (7 : Int) < ms.length := h7
  refine (hD _).2 ⟨ensInv A ms, ⟨(0, 0, 0), ⟨Nat.zero_le _, rfl, by simp, by simp⟩, ⟨rfl, rfl, trivial⟩, ⟨rfl, trivial⟩, rfl⟩, fun ⟨k, last, w⟩ hG => ⟨⟨trivial, trivial, trivial⟩, ⟨Nat.lt_succ_self 1, ⟨trivial, trivial⟩, trivial⟩, ?_⟩⟩
  obtain ⟨hk, hgo, hw0, hw1⟩ : k ≤ ms.length ∧ ensGo last w (ms.drop k) = ensGo 0 0 ms ∧ 0 ≤ w ∧ w ≤ 1000 * k := hG
  conv => lhs; whnf
  refine split_dec (fun hlt => ?_) (fun hlt => ?_)
  · have hkn : k < ms.length := by
      have hlt : (k : Int) < ms.length := hlt
      omega
    obtain ⟨g, o, rfl, hra⟩ := Sl.at_ hc ha1 ha2 ha3 (by omega)
    conv => lhs; whnf
    refine go_in ⟨by show (0 : Int) ≤ (k : Int); omega, hlt⟩ ?_
    conv => lhs; whnf
    refine go_rd (mem_at hra k hkn rfl) ?_
    have hdrop : ms.drop k = ms[k] :: ms.drop (k + 1) := List.drop_eq_getElem_cons hkn
    rw [hdrop] at hgo
    generalize ms[k] = m at hgo
    obtain ⟨id, role, weight, group⟩ := m
    have bad : ¬ (last < id ∧ id ≤ 7 ∧ ((role = 2 ∧ weight = 0 ∧ group = 0) ∨ (role = 1 ∧ 0 ≤ weight ∧ weight ≤ 1000 ∧ 0 ≤ group ∧ group < 7))) → Value.int .i64 140 = .int .i64 (ensD ver ms) := fun h => by
      have hm : ¬ memberOk last ⟨id, role, weight, group⟩ = true := fun hm => h ((memberOk_iff _ _).1 hm)
      rw [ensD, if_neg (by omega), ← hgo, ensGo, if_neg hm]
    have good : last < id → id ≤ 7 → ((role = 2 ∧ weight = 0 ∧ group = 0) ∨ (role = 1 ∧ 0 ≤ weight ∧ weight ≤ 1000 ∧ 0 ≤ group ∧ group < 7)) → IntKind.i64.wrap (w + weight) = w + weight ∧ (ensInv A ms).G (k + 1, id, w + weight) := fun h1 h2 h3 => by
      have hm : memberOk last ⟨id, role, weight, group⟩ = true := (memberOk_iff _ _).2 ⟨h1, h2, h3⟩
      rw [ensGo, if_pos hm] at hgo
      exact ⟨wrapI (by omega) (by omega), by show k + 1 ≤ ms.length; omega, hgo, by show 0 ≤ w + weight; omega, by show w + weight ≤ 1000 * ((k + 1 : Nat) : Int); omega⟩
    clear hgo hdrop hra ha1 ha2 ha3
    conv => lhs; whnf
    repeat' (first
      | exact (hD _).2 ⟨rfl, bad (by dsimp only at *; omega)⟩
      | (have hg := good (by dsimp only at *; omega) (by dsimp only at *; omega) (by dsimp only at *; omega)
         exact (hD _).2 ⟨(k + 1, id, w + weight), ⟨hg.2, ⟨congrArg (fun x => some (SV.v (.int .i64 x))) hg.1, inc_slot (by omega), trivial⟩, ⟨rfl, trivial⟩, rfl⟩, by show ms.length - (k + 1) < ms.length - k; omega, ⟨rfl, rfl, rfl, rfl, rfl, trivial⟩, ⟨rfl, trivial⟩⟩)
      | (refine split_nd (fun _ => ?_) (fun _ => ?_) <;> (conv => lhs; whnf))
      | (refine split_dec (fun _ => ?_) (fun _ => ?_) <;> (conv => lhs; whnf))
      | (refine go_in ⟨by show (0 : Int) ≤ (k : Int); omega, hlt⟩ ?_; conv => lhs; whnf))
  · conv => lhs; whnf
    have hkn : k = ms.length := by
      have hlt : ¬ (k : Int) < ms.length := hlt
      omega
    subst hkn
    rw [List.drop_eq_nil_of_le (Nat.le_refl _), ensGo] at hgo
    have fin1 : (w = 0 ∨ ver < 0 ∨ 4611686018427387904 < ver) → Value.int .i64 140 = .int .i64 (ensD ver ms) := fun h => by
      rw [ensD, if_neg (by omega), ← hgo]; dsimp only; rw [if_pos h]
    have fin2 : ¬ (w = 0 ∨ ver < 0 ∨ 4611686018427387904 < ver) → Value.int .i64 0 = .int .i64 (ensD ver ms) := fun h => by
      rw [ensD, if_neg (by omega), ← hgo]; dsimp only; rw [if_neg h]
    repeat' (first
      | exact (hD _).2 ⟨rfl, fin1 (by dsimp only at *; omega)⟩
      | exact (hD _).2 ⟨rfl, fin2 (by dsimp only at *; omega)⟩
      | (refine split_dec (fun _ => ?_) (fun _ => ?_) <;> (conv => lhs; whnf)))

end
end Go.Proofs.YtiabopbigplklaaDoor

namespace Go.Proofs.YtiabopbigplklaaDoor
open Go.Sx Go.RowKit
noncomputable section

/-- A number with a sign as one without. -/
def zig (n : Int) : Nat := if 0 ≤ n then (2 * n).toNat else (-2 * n - 1).toNat

theorem zig_lt {n : Int} (h1 : -9223372036854775808 ≤ n) (h2 : n ≤ 9223372036854775807) : zig n < 18446744073709551616 := by
  unfold zig
  split <;> omega

/-- Its bytes. -/
def vput : Nat → Nat → List UInt8
  | 0, u => [UInt8.ofNat u]
  | f + 1, u => if u < 128 then [UInt8.ofNat u] else UInt8.ofNat (u % 128 + 128) :: vput f (u / 128)

def vints (n : Int) : List UInt8 := vput 9 (zig n)

theorem vput_len : ∀ f u, (vput f u).length ≤ f + 1
  | 0, _ => Nat.le_refl _
  | f + 1, u => by
    unfold vput
    split
    · simp
    · have := vput_len f (u / 128)
      simp only [List.length_cons]
      omega

/-- What is put so far, and what is left. -/
def VI (T L : List UInt8) (u f : Nat) : Prop := L ++ vput f u = T ∧ u < 2 * 128 ^ f

theorem VI.start {n : Int} (h1 : -9223372036854775808 ≤ n) (h2 : n ≤ 9223372036854775807) (L : List UInt8) : VI (L ++ vints n) L (zig n) 9 :=
  ⟨rfl, by have := zig_lt h1 h2; exact Nat.lt_of_lt_of_eq this (by decide)⟩

theorem VI.next {T L : List UInt8} {u f : Nat} (h : VI T L u f) (hu : 128 ≤ u) : ∃ f', VI T (L ++ [UInt8.ofNat (u % 128 + 128)]) (u / 128) f' := by
  obtain ⟨h1, h2⟩ := h
  cases f with
  | zero => exact absurd h2 (by simp; omega)
  | succ f =>
    refine ⟨f, ?_, ?_⟩
    · rw [← h1]
      show _ = L ++ (if u < 128 then _ else _)
      rw [if_neg (by omega), List.append_assoc]
      rfl
    · rw [Nat.pow_succ] at h2
      omega

theorem VI.last {T L : List UInt8} {u f : Nat} (h : VI T L u f) (hu : u < 128) : L ++ [UInt8.ofNat u] = T := by
  obtain ⟨h1, _⟩ := h
  rw [← h1]
  cases f with
  | zero => rfl
  | succ f =>
    show _ = L ++ (if u < 128 then _ else _)
    rw [if_pos hu]

theorem VI.len {T L : List UInt8} {u f : Nat} (h : VI T L u f) : L.length ≤ T.length := by
  rw [← h.1, List.length_append]
  omega

/-! ### As the program reckons -/

theorem u8_wrap (u : Nat) : IntKind.u8.wrap (u : Int) = ((u % 256 : Nat) : Int) := by
  have h : IntKind.u8.wrap (u : Int) = (u : Int) % 256 := rfl
  rw [h]; omega

theorem u64_wrap {n : Int} (h0 : 0 ≤ n) (h1 : n < 18446744073709551616) : IntKind.u64.wrap n = n := by
  have h : IntKind.u64.wrap n = n % 18446744073709551616 := rfl
  rw [h]; omega

theorem or_128 (u : Nat) : bitsOf .or .u8 ((u % 256 : Nat) : Int) 128 = ((u % 128 + 128 : Nat) : Int) := by
  have key : ∀ x : Fin 256, bitsOf .or .u8 ((x.val : Nat) : Int) 128 = ((x.val % 128 + 128 : Nat) : Int) := by decide +kernel
  have := key ⟨u % 256, Nat.mod_lt _ (by decide)⟩
  rw [this]
  congr 1
  show u % 256 % 128 + 128 = _
  omega

theorem bv_ofNat {x : Nat} (h : x < 256) : bv (UInt8.ofNat x) = .int .u8 (x : Int) := by
  unfold bv
  rw [UInt8.toNat_ofNat_of_lt' h]

theorem shr_7 (u : Nat) : (u : Int).fdiv (2 ^ (min (7 : Int).toNat IntKind.u64.bits)) = ((u / 128 : Nat) : Int) := by
  show (u : Int).fdiv 128 = _
  rw [Int.fdiv_eq_ediv_of_nonneg _ (by decide)]
  omega

theorem shr_63 {n : Int} (h1 : -9223372036854775808 ≤ n) (h2 : n ≤ 9223372036854775807) : n.fdiv (2 ^ (min (63 : Int).toNat IntKind.i64.bits)) = if 0 ≤ n then 0 else -1 := by
  show n.fdiv 9223372036854775808 = _
  rw [Int.fdiv_eq_ediv_of_nonneg _ (by decide)]
  split <;> omega

theorem zig_prog {n : Int} (h1 : -9223372036854775808 ≤ n) (h2 : n ≤ 9223372036854775807) :
    bitsOf .xor .u64 (IntKind.u64.wrap (IntKind.u64.wrap n * 2 ^ (min (1 : Int).toNat IntKind.u64.bits))) (IntKind.u64.wrap (n.fdiv (2 ^ (min (63 : Int).toNat IntKind.i64.bits)))) = (zig n : Int) := by
  rw [shr_63 h1 h2]
  have hw : ∀ m : Int, IntKind.u64.wrap m = m % 18446744073709551616 := fun _ => rfl
  unfold zig
  by_cases h0 : 0 ≤ n
  · rw [if_pos h0, if_pos h0]
    have e1 : IntKind.u64.wrap (IntKind.u64.wrap n * 2 ^ (min (1 : Int).toNat IntKind.u64.bits)) = ((2 * n).toNat : Int) := by
      rw [hw, hw]
      show n % 18446744073709551616 * 2 % 18446744073709551616 = _
      omega
    rw [e1]
    show IntKind.u64.wrap (BitVec.ofInt 64 ((2 * n).toNat : Int) ^^^ BitVec.ofInt 64 0).toNat = _
    have e2 : BitVec.ofInt 64 0 = 0#64 := rfl
    rw [e2, BitVec.xor_zero, hw, BitVec.toNat_ofInt]
    omega
  · rw [if_neg h0, if_neg h0]
    have e1 : IntKind.u64.wrap (IntKind.u64.wrap n * 2 ^ (min (1 : Int).toNat IntKind.u64.bits)) = 18446744073709551616 + 2 * n := by
      rw [hw, hw]
      show n % 18446744073709551616 * 2 % 18446744073709551616 = _
      omega
    rw [e1]
    show IntKind.u64.wrap (BitVec.ofInt 64 (18446744073709551616 + 2 * n) ^^^ BitVec.ofInt 64 (IntKind.u64.wrap (-1))).toNat = _
    have e2 : BitVec.ofInt 64 (IntKind.u64.wrap (-1)) = BitVec.allOnes 64 := by decide +kernel
    rw [e2, BitVec.xor_allOnes, BitVec.toNat_not, BitVec.toNat_ofInt, hw]
    omega

theorem i64_in {n : Int} (h0 : -9223372036854775808 ≤ n) (h1 : n ≤ 9223372036854775807) : IntKind.i64.wrap n = n := by
  simp only [IntKind.wrap, IntKind.bits, IntKind.signed]
  simp
  omega

/-- As the document reckons. -/
theorem zig_ref_neg {n : Int} (h1 : -9223372036854775808 ≤ n) (h0 : n < 0) : IntKind.u64.wrap (IntKind.u64.wrap (2 * IntKind.u64.wrap (IntKind.i64.wrap (-IntKind.i64.wrap (n + 1)))) + 1) = (zig n : Int) := by
  have hw : ∀ m : Int, IntKind.u64.wrap m = m % 18446744073709551616 := fun _ => rfl
  unfold zig
  have e1 : IntKind.i64.wrap (n + 1) = n + 1 := i64_in (by omega) (by omega)
  have e2 : IntKind.i64.wrap (-(n + 1)) = -(n + 1) := i64_in (by omega) (by omega)
  rw [if_neg (by omega), e1, e2, hw, hw, hw]
  omega

theorem zig_ref_pos {n : Int} (h2 : n ≤ 9223372036854775807) (h0 : 0 ≤ n) : IntKind.u64.wrap (2 * IntKind.u64.wrap n) = (zig n : Int) := by
  have hw : ∀ m : Int, IntKind.u64.wrap m = m % 18446744073709551616 := fun _ => rfl
  unfold zig
  rw [if_pos h0, hw, hw]
  omega

end
end Go.Proofs.YtiabopbigplklaaDoor

namespace Go.Proofs.YtiabopbigplklaaDoor
open Go.Sx Go.RowKit
noncomputable section
open Classical

def memB (m : MemD) : List UInt8 := vints m.id ++ vints m.role ++ vints m.weight ++ vints m.group

def ensB (ver : Int) (ms : List MemD) : List UInt8 := vints ver ++ vints ms.length ++ ms.flatMap memB

def MemIn (m : MemD) : Prop := 0 ≤ m.id ∧ m.id ≤ 7 ∧ 0 ≤ m.role ∧ m.role ≤ 2 ∧ 0 ≤ m.weight ∧ m.weight ≤ 1000 ∧ 0 ≤ m.group ∧ m.group ≤ 7

theorem ensGo_in : ∀ (ms : List MemD) {last w : Int} {x : Int × Int}, 0 ≤ last → ensGo last w ms = some x → ∀ m ∈ ms, MemIn m
  | [], _, _, _, _, _, m, hm => by cases hm
  | a :: ms, last, w, x, hl, h, m, hm => by
    simp only [ensGo] at h
    split at h
    · rename_i hk
      have hk := (memberOk_iff _ _).1 hk
      rcases List.mem_cons.1 hm with rfl | hm
      · unfold MemIn
        omega
      · exact ensGo_in ms (by omega) h m hm
    · cases h

theorem ens_in {ver : Int} {ms : List MemD} (h : ensD ver ms = 0) : ms.length ≤ 7 ∧ 0 ≤ ver ∧ ver ≤ 4611686018427387904 ∧ ∀ m ∈ ms, MemIn m := by
  unfold ensD at h
  split at h
  · cases h
  · rename_i h7
    split at h
    · cases h
    · rename_i last w hg
      split at h
      · cases h
      · rename_i hv
        refine ⟨by omega, by omega, by omega, ensGo_in ms (Int.le_refl 0) hg⟩

theorem memB_len (m : MemD) : (memB m).length ≤ 40 := by
  unfold memB
  have h1 := vput_len 9 (zig m.id)
  have h2 := vput_len 9 (zig m.role)
  have h3 := vput_len 9 (zig m.weight)
  have h4 := vput_len 9 (zig m.group)
  simp only [List.length_append]
  show (vput 9 (zig m.id)).length + (vput 9 (zig m.role)).length + (vput 9 (zig m.weight)).length + (vput 9 (zig m.group)).length ≤ 40
  omega

theorem flat_len_le {α : Type} {f : α → List UInt8} {c : Nat} (h : ∀ x, (f x).length ≤ c) : ∀ l : List α, (l.flatMap f).length ≤ l.length * c
  | [] => by simp
  | x :: l => by
    have h1 := h x
    have h2 := flat_len_le h l
    rw [List.flatMap_cons, List.length_append, List.length_cons, Nat.succ_mul]
    omega

theorem vints_le (n : Int) : (vints n).length ≤ 10 := vput_len 9 (zig n)

theorem flatMap_snoc {α β : Type} (f : α → List β) (l : List α) {k : Nat} (h : k < l.length) : (l.take (k + 1)).flatMap f = (l.take k).flatMap f ++ f l[k] := by
  rw [List.take_succ_eq_append_getElem h, List.flatMap_append]
  simp

end
end Go.Proofs.YtiabopbigplklaaDoor

namespace Go.Proofs.YtiabopbigplklaaDoor
open Go.Sx Go.RowKit
noncomputable section
open Classical

def sitsOk : Int → List SitD → Bool
  | _, [] => true
  | last, s :: l => if last < s.ses ∧ 0 ≤ s.tmo ∧ 0 ≤ s.turn then sitsOk s.ses l else false

/-- May these be an image? -/
def RightI (l : List ToldD) (ss : List SitD) (ver : Int) (ms : List MemD) (f t : Int) : Prop := LoadC l ∧ l.length ≤ 500 ∧ ss.length ≤ 200 ∧ ensD ver ms = 0 ∧ 0 ≤ f ∧ f ≤ t ∧ sitsOk 0 ss = true

structure ImgG where
  l : List (ToldD × Value)
  ss : List SitD
  ver : Int
  ms : List MemD
  f : Int
  t : Int

/-- An image as arguments. -/
def ImgA (g : ImgG) (vs : List Value) (A : Arena) : Prop := ∃ x y vm, vs = [x, y, .agg #[.int .i64 g.ver, vm], .int .i64 g.f, .int .i64 g.t] ∧ NodesR A x g.l ∧ SlS A y g.ss ∧ MemR A vm g.ms ∧ g.l.length ≤ 1000000 ∧ ShortL g.l

def ImgG.ok (g : ImgG) : Prop := RightI (g.l.map (·.1)) g.ss g.ver g.ms g.f g.t

/-- Sittings, one after the other. -/
def SitI (ss : List SitD) (s : Nat × Int) : Prop := s.1 ≤ ss.length ∧ sitsOk s.2 (ss.drop s.1) = sitsOk 0 ss

theorem sitI_zero (ss : List SitD) : SitI ss (0, 0) := ⟨Nat.zero_le _, rfl⟩

theorem sitI_next {ss : List SitD} {k : Nat} {last : Int} (h : SitI ss (k, last)) (hk : k < ss.length) (h1 : last < ss[k].ses) (h2 : 0 ≤ ss[k].tmo) (h3 : 0 ≤ ss[k].turn) : SitI ss (k + 1, ss[k].ses) := by
  obtain ⟨_, h⟩ := h
  refine ⟨hk, ?_⟩
  rw [← h]
  show _ = sitsOk last (ss.drop k)
  rw [List.drop_eq_getElem_cons hk, sitsOk, if_pos ⟨h1, h2, h3⟩]

theorem sitI_bad {ss : List SitD} {k : Nat} {last : Int} (h : SitI ss (k, last)) (hk : k < ss.length) (h1 : ¬ (last < ss[k].ses ∧ 0 ≤ ss[k].tmo ∧ 0 ≤ ss[k].turn)) : sitsOk 0 ss = false := by
  obtain ⟨_, h⟩ := h
  rw [← h]
  show sitsOk last (ss.drop k) = false
  rw [List.drop_eq_getElem_cons hk, sitsOk, if_neg h1]

theorem sitI_end {ss : List SitD} {last : Int} (h : SitI ss (ss.length, last)) : sitsOk 0 ss = true := by
  rw [← h.2]
  show sitsOk last (ss.drop ss.length) = true
  rw [List.drop_eq_nil_of_le (Nat.le_refl _), sitsOk]

theorem img_no {g : ImgG} (h : ¬ g.ok) : Value.bool false = .bool (decide g.ok) := by rw [decide_eq_false h]
theorem img_yes {g : ImgG} (h : g.ok) : Value.bool true = .bool (decide g.ok) := by rw [decide_eq_true h]

/-! ### Numbers that are numbers of 64 bits -/

def I64 (n : Int) : Prop := -9223372036854775808 ≤ n ∧ n ≤ 9223372036854775807
def StatIn (s : StatD) : Prop := I64 s.czxid ∧ I64 s.mzxid ∧ I64 s.pzxid ∧ I64 s.ctime ∧ I64 s.mtime ∧ I64 s.ver ∧ I64 s.cver ∧ I64 s.owner
def SitIn (s : SitD) : Prop := I64 s.ses ∧ I64 s.tmo ∧ I64 s.turn
def ImgIn (g : ImgG) : Prop := (∀ x ∈ g.l, StatIn x.1.stat) ∧ (∀ s ∈ g.ss, SitIn s) ∧ I64 g.f ∧ I64 g.t

/-! ### Bytes -/

def statB (s : StatD) : List UInt8 := vints s.czxid ++ vints s.mzxid ++ vints s.pzxid ++ vints s.ctime ++ vints s.mtime ++ vints s.ver ++ vints s.cver ++ vints s.owner

def nodeB (x : ToldD) : List UInt8 := vints x.path.data.toList.length ++ x.path.data.toList ++ (vints x.data.length ++ x.data) ++ statB x.stat

def sitB (s : SitD) : List UInt8 := vints s.ses ++ vints s.tmo ++ vints s.turn

def loadB (l : List ToldD) (ss : List SitD) (ver : Int) (ms : List MemD) (f t : Int) : List UInt8 :=
  [1] ++ vints l.length ++ l.flatMap nodeB ++ vints ss.length ++ ss.flatMap sitB ++ vints (ensB ver ms).length ++ ensB ver ms ++ vints f ++ vints t

theorem pathOk_len {l : List UInt8} (h : pathOk l = true) : l.length ≤ 200 := by
  unfold pathOk at h
  split at h
  · simp at h
    simp; omega
  · cases h

theorem node_len {x : ToldD} (h : NodeFits x) : (nodeB x).length ≤ 1310 := by
  have h1 := pathOk_len h.1
  have h2 := h.2.1
  have k1 := vints_le (x.path.data.toList.length : Int)
  have k2 := vints_le (x.data.length : Int)
  have s1 := vints_le x.stat.czxid
  have s2 := vints_le x.stat.mzxid
  have s3 := vints_le x.stat.pzxid
  have s4 := vints_le x.stat.ctime
  have s5 := vints_le x.stat.mtime
  have s6 := vints_le x.stat.ver
  have s7 := vints_le x.stat.cver
  have s8 := vints_le x.stat.owner
  unfold nodeB statB
  simp only [List.length_append]
  omega

theorem sitB_len (s : SitD) : (sitB s).length ≤ 30 := by
  have s1 := vints_le s.ses
  have s2 := vints_le s.tmo
  have s3 := vints_le s.turn
  unfold sitB
  simp only [List.length_append]
  omega

theorem nodesB_len : ∀ {l : List ToldD}, (∀ x ∈ l, NodeFits x) → (l.flatMap nodeB).length ≤ l.length * 1310
  | [], _ => by simp
  | x :: l, h => by
    have h1 := node_len (h x (by simp))
    have h2 := nodesB_len (l := l) fun y hy => h y (List.mem_cons_of_mem _ hy)
    rw [List.flatMap_cons, List.length_append, List.length_cons, Nat.succ_mul]
    omega

theorem right_fits {l : List ToldD} {ss : List SitD} {ver : Int} {ms : List MemD} {f t : Int} (h : RightI l ss ver ms f t) : ∀ x ∈ l, NodeFits x := fun x hx => by
  obtain ⟨i, hi, rfl⟩ := List.mem_iff_getElem.1 hx
  exact (h.1.1 i hi).1

end
end Go.Proofs.YtiabopbigplklaaDoor
