/-
  Arenas: what lies in one lies in a greater one; what a store, a new row leave; slices that are read.
-/
import Derived.Test.YtompigcfojbpkaaSxY
namespace Go.Sx
noncomputable section

/-! ### One arena in another -/

def Arena.Sub (B A : Arena) : Prop := ∀ k o, B.blk k = some o → A.blk k = some o

theorem Arena.Sub.refl (A : Arena) : A.Sub A := fun _ _ h => h
theorem Arena.Sub.trans {A B C : Arena} (h : A.Sub B) (k : B.Sub C) : A.Sub C := fun i o ho => k i o (h i o ho)

theorem rd_mk {A : Arena} {g o n : Nat} {c : Array Value} {t : TypeId} {fz : Nat × Nat} (h : A.blk g = some (.cells c t fz)) (hle : o + n ≤ c.size) : A.rd g o n = some ((c.toList.drop o).take n) := by
  rw [A.rdeq]
  unfold rdOf
  rw [h]
  simp only
  rw [if_pos hle]

theorem rd_sub {A B : Arena} (h : B.Sub A) {g o n : Nat} {vs : List Value} (hr : B.rd g o n = some vs) : A.rd g o n = some vs := by
  obtain ⟨c, t, fz, hb, hle, rfl⟩ := rd_some hr
  exact rd_mk (h _ _ hb) hle

theorem rd_at {A : Arena} {g o N i m : Nat} {cs : List Value} (h : A.rd g o N = some cs) (hi : i + m ≤ N) : A.rd g (o + i) m = some ((cs.drop i).take m) := by
  obtain ⟨c, t, fz, hb, hle, rfl⟩ := rd_some h
  rw [rd_mk hb (by omega)]
  congr 1
  rw [List.drop_take, List.take_take, List.drop_drop]
  congr 1
  omega

theorem rd_dom {A : Arena} {g o n : Nat} {vs : List Value} (h : A.rd g o n = some vs) : ∃ ob, A.blk g = some ob := by
  obtain ⟨c, t, fz, hb, _⟩ := rd_some h
  exact ⟨_, hb⟩

/-- What is new in A'. -/
def Arena.minus (A' A : Arena) : Arena := Arena.of fun k => match A.blk k with
  | none => A'.blk k
  | some _ => none

theorem minus_blk {A A' : Arena} {k : Nat} {o : Obj} (h : (A'.minus A).blk k = some o) : A.blk k = none ∧ A'.blk k = some o := by
  have h : (match A.blk k with
    | none => A'.blk k
    | some _ => none) = some o := h
  split at h
  · exact ⟨by assumption, h⟩
  · cases h

theorem minus_mk {A A' : Arena} {k : Nat} {o : Obj} (h1 : A.blk k = none) (h2 : A'.blk k = some o) : (A'.minus A).blk k = some o := by
  show (match A.blk k with
    | none => A'.blk k
    | some _ => none) = some o
  rw [h1]; exact h2

theorem minus_sub (A A' : Arena) : (A'.minus A).Sub A' := fun _ _ h => (minus_blk h).2

theorem minus_none {A : Arena} {k : Nat} {o : Obj} (A' : Arena) (h : A.blk k = some o) : (A'.minus A).blk k = none := by
  show (match A.blk k with
    | none => A'.blk k
    | some _ => none) = none
  rw [h]

theorem rd_minus {A A' : Arena} {g o n : Nat} {vs : List Value} (h : A'.rd g o n = some vs) (hg : A.blk g = none) : (A'.minus A).rd g o n = some vs := by
  obtain ⟨c, t, fz, hb, hle, rfl⟩ := rd_some h
  exact rd_mk (minus_mk hg hb) hle

/-- What was new is new. -/
theorem minus_up {A A1 A2 : Arena} (h : A1.Sub A2) : (A1.minus A).Sub (A2.minus A) := fun k o hk => by
  obtain ⟨h1, h2⟩ := minus_blk hk
  exact minus_mk h1 (h _ _ h2)

theorem minus_later {A A1 A2 : Arena} (h : A.Sub A1) : (A2.minus A1).Sub (A2.minus A) := fun k o hk => by
  obtain ⟨h1, h2⟩ := minus_blk hk
  refine minus_mk ?_ h2
  cases hA : A.blk k with
  | none => rfl
  | some o' => rw [h _ _ hA] at h1; cases h1

/-! ### A new row, a store -/

theorem Arena.New.sub {A A' : Arena} {g : Nat} {c : Array Value} {t : TypeId} (h : A.New A' g c t) : A.Sub A' := fun k o hk => by
  rw [h.other k (fun e => by subst e; rw [h.none_] at hk; cases hk)]; exact hk

theorem Arena.New.rd {A A' : Arena} {g : Nat} {c : Array Value} {t : TypeId} (h : A.New A' g c t) {o n : Nat} (hle : o + n ≤ c.size) : A'.rd g o n = some ((c.toList.drop o).take n) := rd_mk h.at_ hle

theorem Arena.Put.sub {A A' B : Arena} {g o : Nat} {vs : List Value} (h : A.Put A' g o vs) (hB : B.Sub A) (hg : B.blk g = none) : B.Sub A' := fun k ob hk => by
  rw [h.other k (fun e => by subst e; rw [hg] at hk; cases hk)]; exact hB k ob hk

theorem Arena.Put.dom {A A' : Arena} {g o : Nat} {vs : List Value} (h : A.Put A' g o vs) (k : Nat) : A'.blk k = none ↔ A.blk k = none := by
  by_cases e : k = g
  · subst e
    obtain ⟨c, t, fz, c', h1, h2, _⟩ := h.at_
    rw [h1, h2]; simp
  · rw [h.other k e]

/-! ### Slices -/

/-- A slice of n elements with these cells. -/
def Sl (A : Arena) (es n : Nat) (v : Value) (cs : List Value) : Prop :=
  ∃ ao c, v = .slice ao n c ∧ n ≤ c ∧ cs.length = n * es ∧ (ao = none → c = 0) ∧ (∀ a, ao = some a → 0 < c → a.spot = none) ∧ (0 < n → ∀ a, ao = some a → A.rd a.block a.off (n * es) = some cs)

theorem Sl.at_ {A : Arena} {es n c : Nat} {ao : Option Addr} {cs : List Value} (h0 : n ≤ c) (h1 : ao = none → c = 0) (h2 : ∀ a, ao = some a → 0 < c → a.spot = none) (h3 : 0 < n → ∀ a, ao = some a → A.rd a.block a.off (n * es) = some cs) (hn : 0 < n) :
    ∃ g o, ao = some ⟨g, o, none⟩ ∧ A.rd g o (n * es) = some cs := by
  cases ao with
  | none => have := h1 rfl; omega
  | some a =>
    obtain ⟨g, o, t⟩ := a
    have h4 := h2 _ rfl (by omega)
    simp only at h4
    subst h4
    exact ⟨g, o, rfl, h3 hn _ rfl⟩

theorem Sl.sub {A B : Arena} (h : B.Sub A) {es n : Nat} {v : Value} {cs : List Value} (hs : Sl B es n v cs) : Sl A es n v cs := by
  obtain ⟨ao, c, h1, h2, h3, h4, h5, h6⟩ := hs
  exact ⟨ao, c, h1, h2, h3, h4, h5, fun hn a ha => rd_sub h (h6 hn a ha)⟩

theorem Sl.nil (A : Arena) (es : Nat) : Sl A es 0 (.slice none 0 0) [] :=
  ⟨none, 0, rfl, Nat.le_refl _, (by simp), fun _ => rfl, fun a h => (by cases h), fun h => (by omega)⟩

/-- Of zero elements: wherever it points. -/
theorem Sl.zero (A : Arena) (es : Nat) {ao : Option Addr} {c : Nat} (h1 : ao = none → c = 0) (h2 : ∀ a, ao = some a → 0 < c → a.spot = none) : Sl A es 0 (.slice ao 0 c) [] :=
  ⟨ao, c, rfl, Nat.zero_le _, (by simp), h1, h2, fun h => (by omega)⟩

theorem Sl.row {A : Arena} {es n g o c : Nat} {cs : List Value} (hc : n ≤ c) (h : A.rd g o (n * es) = some cs) : Sl A es n (.slice (some ⟨g, o, none⟩) n c) cs :=
  ⟨_, c, rfl, hc, rd_len h, fun h => (by cases h), fun a h _ => (by injection h with h; subst h; rfl), fun _ a ha => (by injection ha with ha; subst ha; exact h)⟩

theorem Sl.form {A : Arena} {es n : Nat} {v : Value} {cs : List Value} (h : Sl A es n v cs) : ∃ ao c, v = .slice ao n c := by
  obtain ⟨ao, c, h, _⟩ := h
  exact ⟨ao, c, h⟩

/-- Bytes. -/
def bv (b : UInt8) : Value := .int .u8 b.toNat

def SlB (A : Arena) (v : Value) (bs : List UInt8) : Prop := Sl A 1 bs.length v (bs.map bv) ∧ bs.length ≤ 140737488351232

theorem SlB.sub {A B : Arena} (h : B.Sub A) {v : Value} {bs : List UInt8} (hs : SlB B v bs) : SlB A v bs := ⟨hs.1.sub h, hs.2⟩

theorem byte_at {A : Arena} {g o n : Nat} {bs : List UInt8} (h : A.rd g o (n * 1) = some (bs.map bv)) (k : Nat) (hk : k < bs.length) (hn : n = bs.length) : A.rd g (o + k * 1) 1 = some [bv bs[k]] := by
  have := rd_at (i := k) (m := 1) h (by omega)
  rw [Nat.mul_one, this]
  congr 1
  rw [List.drop_eq_getElem_cons (by simpa using hk)]
  simp [bv]

/-- A row of rows. -/
theorem rows_at {A : Arena} {g o n es : Nat} {rows : List (List Value)} (h : A.rd g o (n * es) = some rows.flatten) (hes : ∀ r ∈ rows, r.length = es) (k : Nat) (hk : k < rows.length) (hn : n = rows.length) : A.rd g (o + k * es) es = some rows[k] := by
  subst hn
  have hle : k * es + es ≤ rows.length * es := by
    have := Nat.mul_le_mul_right es hk
    rwa [Nat.succ_mul] at this
  rw [rd_at h hle]
  congr 1
  have key : ∀ (l : List (List Value)) (k : Nat) (hk : k < l.length), (∀ r ∈ l, r.length = es) → (l.flatten.drop (k * es)).take es = l[k] := by
    intro l
    induction l with
    | nil => intro k hk; simp at hk
    | cons r l ih =>
      intro k hk hes
      have hr := hes r (by simp)
      cases k with
      | zero => simp [← hr]
      | succ k =>
        rw [List.flatten_cons, List.drop_append, List.drop_eq_nil_of_le (by rw [hr, Nat.succ_mul]; omega), List.nil_append]
        rw [show (k + 1) * es - r.length = k * es by rw [hr, Nat.succ_mul]; omega]
        simpa using ih k (by simpa using hk) (fun r' h' => hes r' (List.mem_cons_of_mem _ h'))
  exact key rows k hk hes

/-- A clone: something appended to nothing. -/
theorem clone_end {A A1 A2 : Arena} {base : Option (Nat × Nat)} {es n : Nat} {e : TypeId} {ys : List Value} {v : Value} (h1 : A.Sub A1) (ha : Appended A1 base 0 0 es e [] ys n v A2) (hl : ys.length = n * es) : A.Sub A2 ∧ Sl (A2.minus A) es n v ys := by
  rcases ha with ⟨h0, rfl, h3⟩ | ⟨h0, g, nc, cs, zs, rfl, hn, hcs, _, hN⟩
  · have hn : n = 0 := by omega
    subst hn
    have : ys = [] := List.length_eq_zero_iff.1 (by rw [hl]; simp)
    subst this
    refine ⟨?_, ?_⟩
    · rcases h3 with ⟨_, rfl⟩ | ⟨g, o, hb, hP⟩
      · exact h1
      · intro k o' hk
        by_cases e : k = g
        · subst e
          obtain ⟨c, t, fz, c', k1, k2, k3⟩ := hP.at_
          have hcc : c' = c := Array.toList_inj.1 (by rw [k3]; simp)
          have := h1 _ _ hk
          rw [k1] at this
          rw [k2, hcc]; exact this
        · rw [hP.other k e]; exact h1 _ _ hk
    · exact Sl.zero _ _ (fun _ => rfl) (fun a ha _ => by
        cases base with
        | none => cases ha
        | some go => injection ha with ha; subst ha; rfl)
  · have hs := h1.trans hN.sub
    refine ⟨hs, ?_⟩
    have hg : A.blk g = none := by
      cases hA : A.blk g with
      | none => rfl
      | some o => have := h1 _ _ hA; rw [hN.none_] at this; cases this
    rw [Nat.zero_add] at hn ⊢
    refine Sl.row hn ?_
    have hsz : cs.size = ys.length + zs.length := by rw [← Array.length_toList, hcs]; simp
    refine rd_minus ?_ hg
    rw [hN.rd (by omega), hcs]
    simp [hl]

/-- The same, with the row itself. -/
theorem clone_row {A A1 A2 : Arena} {base : Option (Nat × Nat)} {es n : Nat} {e : TypeId} {ys : List Value} {v : Value} (h1 : A.Sub A1) (ha : Appended A1 base 0 0 es e [] ys n v A2) (hl : ys.length = n * es) (hn : 0 < n) :
    ∃ g nc c t, v = .slice (some ⟨g, 0, none⟩) n nc ∧ n ≤ nc ∧ A.blk g = none ∧ A2.blk g = some (.cells c t (0, 0)) ∧ n * es ≤ c.size := by
  rcases ha with ⟨h0, _⟩ | ⟨h0, g, nc, cs, zs, rfl, hnc, hcs, _, hN⟩
  · omega
  · have hg : A.blk g = none := by
      cases hA : A.blk g with
      | none => rfl
      | some o => have := h1 _ _ hA; rw [hN.none_] at this; cases this
    rw [Nat.zero_add] at hnc ⊢
    refine ⟨g, nc, cs, e, rfl, hnc, hg, hN.at_, ?_⟩
    rw [← Array.length_toList, hcs]
    simp; omega

theorem plain_v (v : Value) : plainV (.v v) = some v := rfl

theorem plainVs_v : ∀ (vs : List Value), plainVs (vs.map SV.v) = some vs
  | [] => rfl
  | v :: vs => by simp only [List.map_cons, plainVs, plain_v, plainVs_v vs]

/-- A contract out of a run, at plain arguments. -/
theorem fok_v {P : Program} (hm : P.follows .mixedOrders = true) {f : FuncId} {S : FSpec}
    (hr : ∀ g vs A, S.pre g vs A → ∃ C Λ n, CTSound P C ∧ LTSound P Λ ∧ Run P C Λ n f (vs.map SV.v) A (endP S g vs A)) : FOk P f S :=
  fok_of_run hm fun g vs A hp => by
    obtain ⟨C, Λ, n, h1, h2, h3⟩ := hr g vs A hp
    exact ⟨C, Λ, n, _, h1, h2, plainVs_v vs, fun ρ x hx => by obtain ⟨v, _, rfl⟩ := List.mem_map.1 hx; trivial, h3⟩

theorem fok_k {P : Program} (hm : P.follows .mixedOrders = true) {f : FuncId} {S : FSpec}
    (hr : ∀ g vs A, S.pre g vs A → ∃ C Λ n, CTSound P C ∧ LTSound P Λ ∧ Run P C Λ n f (vs.map SV.v) A (endK S g vs A)) : FOk P f S :=
  fok_of_end hm (fun _ _ _ _ _ h => h) fun g vs A hp => by
    obtain ⟨C, Λ, n, h1, h2, h3⟩ := hr g vs A hp
    exact ⟨C, Λ, n, _, h1, h2, plainVs_v vs, fun ρ x hx => by obtain ⟨v, _, rfl⟩ := List.mem_map.1 hx; trivial, h3⟩

theorem lt1 (x : SV) (h : ∀ ρ n, x.lt ρ n) : ∀ (ρ : Nat → Loc), ∀ z ∈ [x], z.lt ρ 0 := fun _ z hz => by
  simp only [List.mem_singleton] at hz
  subst hz; exact h _ _

theorem lt_plain {l : List SV} (h : ∀ x ∈ l, ∀ ρ n, x.lt ρ n) : ∀ (ρ : Nat → Loc), ∀ z ∈ l, z.lt ρ 0 := fun _ z hz => h z hz _ _

theorem lts_v (ρ : Nat → Loc) (n : Nat) (vs : List Value) : SV.lts ρ n (vs.map SV.v) := lts_iff.2 fun x hx => by
  obtain ⟨v, _, rfl⟩ := List.mem_map.1 hx
  trivial

/-- A new block of known type joins the arena. -/
theorem HRel.grow {ρ : Nat → Loc} {h : HS} {w : World} (R : HRel ρ h w) {b : Nat} {cs : List SV} {τ : Nat} (hb : h.H.get b = some (.cells cs 0 (τ + 1))) :
    ∃ A' c t fz, (ρ b).off = 0 ∧ h.M.A.Sub A' ∧ h.M.A.blk (ρ b).blk = none ∧ A'.blk (ρ b).blk = some (.cells c t fz) ∧ Fz c.size fz ∧ c.toList = cs.map (SV.den ρ) ∧
      (∀ k o, A'.blk k = some o → w.heap[k]? = some o) ∧ ∀ k o, A'.blk k = some o → (∃ o', h.M.A.blk k = some o') ∨ ∃ b B, h.H.get b = some B ∧ (ρ b).blk = k := by
  obtain ⟨c, t, fz, h1, h2, _, _, h5, h6⟩ := (R.blk b _ hb).2.2
  have hA := R.aprA b _ hb
  rcases h6 with h6 | ⟨_, h7, h8⟩
  · omega
  · have h9 := h8 rfl
    refine ⟨Arena.of fun k => if k = (ρ b).blk then some (.cells c t fz) else h.M.A.blk k, c, t, fz, h7, fun k o hk => ?_, hA, ?_, h5, ?_, fun k o hk => ?_, fun k o hk => ?_⟩
    · show (if k = (ρ b).blk then some (.cells c t fz) else h.M.A.blk k) = some o
      rw [if_neg (fun e => by rw [e, hA] at hk; cases hk)]; exact hk
    · show (if (ρ b).blk = (ρ b).blk then some (.cells c t fz) else h.M.A.blk _) = _
      rw [if_pos rfl]
    · refine List.ext_getElem? fun i => ?_
      by_cases hi : i < cs.length
      · have := h2 i cs[i] (List.getElem?_eq_getElem hi)
        rw [h7, Nat.zero_add] at this
        rw [List.getElem?_map, List.getElem?_eq_getElem hi, Array.getElem?_toList, this]; rfl
      · rw [List.getElem?_eq_none (by rw [Array.length_toList]; omega), List.getElem?_eq_none (by rw [List.length_map]; omega)]
    · have hk' : (if k = (ρ b).blk then some (.cells c t fz) else h.M.A.blk k) = some o := hk
      split at hk'
      · rename_i e
        subst e
        rw [h1]; exact hk'
      · exact R.are k o hk'
    · have hk' : (if k = (ρ b).blk then some (.cells c t fz) else h.M.A.blk k) = some o := hk
      split at hk'
      · rename_i e
        exact .inr ⟨b, _, hb, e.symm⟩
      · exact .inl ⟨o, hk'⟩

end
end Go.Sx
