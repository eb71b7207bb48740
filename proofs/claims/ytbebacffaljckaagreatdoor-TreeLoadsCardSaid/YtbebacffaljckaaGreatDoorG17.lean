/-
  Plain: the document's rows: in rising order; what stands in them behind a change.
  Trees, plain: what nodes hold; loaded nodes; trees alike but for what is reckoned; rows of deeds.
  Trees, plain: nodes taken at whichever times, and all deeds from the first on (the stage's theorem).
  Contracts: two rows of bytes: are they the same?
  Contracts: the paths of a session's nodes; a text among some; are two nodes the same?
  Plain: what the document's rows tell is what the program's maps tell.
  A tree of the program's and one of the document's, side by side in memory; what a get tells.
  Contracts: the document's tree: a node as it is told; get.
  Contracts: the document's tree: all nodes, a session's nodes, all sittings.
  Contracts: the document's tree: a new one.
  Contracts: are rows of nodes, of sittings the same?
  Contracts: a tree and the document's one tell the same.
-/
import Derived.Test.YtbebacffaljckaaGreatDoorG16
import Derived.Test.YtbebacffaljckaaGreatDoorG06
namespace Go.Proofs.YtbebacffaljckaaGreatDoor
open Go.Sx Go.RowKit
noncomputable section
open Classical

theorem rl_irr (a : List UInt8) : ltL a a = false := by
  cases h : ltL a a with
  | false => rfl
  | true => exact absurd ((ltL_iff a a).1 h) (List.lt_irrefl a)

theorem rl_trans {a b c : List UInt8} (h1 : ltL a b = true) (h2 : ltL b c = true) : ltL a c = true :=
  (ltL_iff a c).2 (List.lt_trans ((ltL_iff a b).1 h1) ((ltL_iff b c).1 h2))

section
variable {α : Type}

theorem take_tw (f : α → Bool) : ∀ M : List α, M.take (M.takeWhile f).length = M.takeWhile f
  | [] => rfl
  | x :: M => by
    cases h : f x with
    | true => rw [List.takeWhile_cons, if_pos h, List.length_cons, List.take_succ_cons, take_tw f M]
    | false => rw [List.takeWhile_cons, if_neg (by simp [h])]; rfl

theorem drop_tw (f : α → Bool) : ∀ M : List α, M.drop (M.takeWhile f).length = M.dropWhile f
  | [] => rfl
  | x :: M => by
    cases h : f x with
    | true => rw [List.takeWhile_cons, if_pos h, List.length_cons, List.drop_succ_cons, drop_tw f M, List.dropWhile_cons, if_pos h]
    | false => rw [List.takeWhile_cons, if_neg (by simp [h]), List.dropWhile_cons, if_neg (by simp [h])]; rfl

theorem tw_all (f : α → Bool) : ∀ M : List α, ∀ x ∈ M.takeWhile f, f x = true
  | [], x, hx => by simp at hx
  | y :: M, x, hx => by
    cases h : f y with
    | true =>
      rw [List.takeWhile_cons, if_pos h] at hx
      rcases List.mem_cons.1 hx with rfl | hx
      · exact h
      · exact tw_all f M x hx
    | false => rw [List.takeWhile_cons, if_neg (by simp [h])] at hx; simp at hx

theorem dw_all {R : α → α → Prop} (ht : ∀ a b c, R a b → R b c → R a c) {f : α → Bool} {n : α} : ∀ M : List α, M.Pairwise R → (∀ x ∈ M, f x = false → R n x) → ∀ x ∈ M.dropWhile f, R n x
  | [], _, _, x, hx => by simp at hx
  | y :: M, hp, hn, x, hx => by
    rw [List.pairwise_cons] at hp
    cases h : f y with
    | true =>
      rw [List.dropWhile_cons, if_pos h] at hx
      exact dw_all ht M hp.2 (fun z hz => hn z (List.mem_cons_of_mem _ hz)) x hx
    | false =>
      rw [List.dropWhile_cons, if_neg (by simp [h])] at hx
      have hy := hn y (by simp) h
      rcases List.mem_cons.1 hx with rfl | hx
      · exact hy
      · exact ht _ _ _ hy (hp.1 x hx)

/-- Something is put where it belongs. -/
theorem ins_pair {R : α → α → Prop} (ht : ∀ a b c, R a b → R b c → R a c) {f : α → Bool} {n : α} {M : List α} (hp : M.Pairwise R) (h1 : ∀ x ∈ M, f x = true → R x n) (h2 : ∀ x ∈ M, f x = false → R n x) : (M.take (M.takeWhile f).length ++ n :: M.drop (M.takeWhile f).length).Pairwise R := by
  rw [take_tw, drop_tw]
  have hM := List.takeWhile_append_dropWhile (p := f) (l := M)
  rw [← hM, List.pairwise_append] at hp
  have hA : ∀ x ∈ M.takeWhile f, R x n := fun x hx => h1 x (by rw [← hM]; exact List.mem_append_left _ hx) (tw_all f M x hx)
  have hp0 : M.Pairwise R := by rw [← hM, List.pairwise_append]; exact hp
  have hB := dw_all ht M hp0 h2
  rw [List.pairwise_append, List.pairwise_cons]
  refine ⟨hp.1, ⟨hB, hp.2.1⟩, fun a ha b hb => ?_⟩
  rcases List.mem_cons.1 hb with rfl | hb
  · exact hA a ha
  · exact hp.2.2 a ha b hb

theorem ins_memR (n x : α) (q : Nat) (M : List α) : x ∈ M.take q ++ n :: M.drop q ↔ x = n ∨ x ∈ M := by
  conv => rhs; rw [← List.take_append_drop q M]
  simp only [List.mem_append, List.mem_cons]
  constructor
  · rintro (h | h | h)
    · exact .inr (.inl h)
    · exact .inl h
    · exact .inr (.inr h)
  · rintro (h | h | h)
    · exact .inr (.inl h)
    · exact .inl h
    · exact .inr (.inr h)

theorem split_k {M : List α} {k : Nat} (hk : k < M.length) : M = M.take k ++ M[k] :: M.drop (k + 1) := by
  rw [← List.drop_eq_getElem_cons hk, List.take_append_drop]

theorem set_split {M : List α} {k : Nat} (hk : k < M.length) (y : α) : M.set k y = M.take k ++ y :: M.drop (k + 1) := by
  rw [List.set_eq_take_append_cons_drop, if_pos hk]
end

/-! ### Nodes -/

abbrev ltN (a b : ToldD) : Prop := ltL (pathL a.path) (pathL b.path) = true
def Asc (N : List ToldD) : Prop := N.Pairwise ltN
def MemN (N : List ToldD) (F : ByteArray → Option NodeD) : Prop := ∀ x : ToldD, x ∈ N ↔ F x.path = some ⟨x.data, x.stat⟩

theorem ltN_trans : ∀ a b c : ToldD, ltN a b → ltN b c → ltN a c := fun _ _ _ h1 h2 => rl_trans h1 h2

theorem ltN_ne {a b : ToldD} (h : ltN a b) : a.path ≠ b.path := fun e => by
  have h : ltL (pathL a.path) (pathL b.path) = true := h
  rw [e, rl_irr] at h; cases h

theorem findI_cases (N : List ToldD) (p : ByteArray) : (findI N p < 0 ∧ ∀ x ∈ N, x.path ≠ p) ∨ ∃ k : Nat, ∃ hk : k < N.length, findI N p = (k : Nat) ∧ N[k].path = p := by
  unfold findI
  cases hf : N.findIdx? fun x => decide (x.path = p) with
  | none =>
    refine .inl ⟨by show (-1 : Int) < 0; omega, fun x hx => ?_⟩
    rw [List.findIdx?_eq_none_iff] at hf
    simpa using hf x hx
  | some i =>
    rw [List.findIdx?_eq_some_iff_getElem] at hf
    obtain ⟨h1, h2, _⟩ := hf
    exact .inr ⟨i, h1, rfl, by simpa using h2⟩

/-- One node is cut out of a row. -/
theorem cut_mem {N : List ToldD} (hA : Asc N) {k : Nat} (hk : k < N.length) (x : ToldD) : x ∈ N.take k ++ N.drop (k + 1) ↔ x ∈ N ∧ x.path ≠ N[k].path := by
  have hs := split_k hk
  have hp : Asc N := hA
  unfold Asc at hp
  rw [hs, List.pairwise_append, List.pairwise_cons] at hp
  have hm : x ∈ N ↔ x ∈ N.take k ++ N[k] :: N.drop (k + 1) := by rw [← hs]
  rw [hm]
  simp only [List.mem_append, List.mem_cons]
  constructor
  · rintro (h | h)
    · exact ⟨.inl h, ltN_ne (hp.2.2 x h _ (List.mem_cons.2 (.inl rfl)))⟩
    · exact ⟨.inr (.inr h), fun e => ltN_ne (hp.2.1.1 x h) e.symm⟩
  · rintro ⟨h | h | h, hne⟩
    · exact .inl h
    · exact absurd (by rw [h]) hne
    · exact .inr h

theorem drop_mem {N : List ToldD} (hA : Asc N) (p : ByteArray) (x : ToldD) : x ∈ dropL N p ↔ x ∈ N ∧ x.path ≠ p := by
  unfold dropL
  rcases findI_cases N p with ⟨h1, h2⟩ | ⟨k, hk, h1, h2⟩
  · rw [if_pos h1]
    exact ⟨fun h => ⟨h, h2 x h⟩, fun h => h.1⟩
  · rw [h1, if_neg (by omega), Int.toNat_natCast, cut_mem hA hk, h2]

theorem drop_asc {N : List ToldD} (hA : Asc N) (p : ByteArray) : Asc (dropL N p) := by
  unfold dropL
  split
  · exact hA
  · refine List.Pairwise.sublist ?_ hA
    conv => rhs; rw [← List.take_append_drop (findI N p).toNat N]
    refine List.Sublist.append (List.Sublist.refl _) ?_
    rw [← List.drop_drop]
    exact List.drop_sublist _ _

theorem put_mem {N : List ToldD} (hA : Asc N) (n x : ToldD) : x ∈ putL N n ↔ x = n ∨ (x ∈ N ∧ x.path ≠ n.path) := by
  unfold putL
  rw [ins_memR, drop_mem hA]

theorem put_asc {N : List ToldD} (hA : Asc N) (n : ToldD) : Asc (putL N n) := by
  unfold putL placeL
  refine ins_pair ltN_trans (drop_asc hA n.path) (fun x _ h => h) fun x hx h => ?_
  have h2 := ((drop_mem hA n.path x).1 hx).2
  show ltL (pathL n.path) (pathL x.path) = true
  cases h3 : ltL (pathL n.path) (pathL x.path) with
  | true => rfl
  | false => exact absurd (pathL_inj (ltL_tri h h3)) h2

/-- One node is turned. -/
def modL (N : List ToldD) (p : ByteArray) (f : ToldD → ToldD) : List ToldD := if findI N p < 0 then N else match N[(findI N p).toNat]? with
  | some x => N.set (findI N p).toNat (f x)
  | none => N

theorem mark_mod (N : List ToldD) (p : ByteArray) (z cv : Int) : rmarkL N p z cv = modL N (parentP p) (markX z cv) := rfl
theorem set_mod (N : List ToldD) (h : DeedH) (z time : Int) : rsetL N h z time = modL N h.path (setX h z time) := rfl

theorem mod_paths {N : List ToldD} {p : ByteArray} {f : ToldD → ToldD} (hf : ∀ x, (f x).path = x.path) : (modL N p f).map (·.path) = N.map (·.path) := by
  unfold modL
  rcases findI_cases N p with ⟨h1, h2⟩ | ⟨k, hk, h1, h2⟩
  · rw [if_pos h1]
  · rw [h1, if_neg (by omega), Int.toNat_natCast, List.getElem?_eq_getElem hk]
    show (N.set k (f N[k])).map (·.path) = _
    rw [List.map_set, hf]
    have : (N.map (·.path))[k]'(by rw [List.length_map]; exact hk) = N[k].path := List.getElem_map _
    rw [← this, List.set_getElem_self]

theorem asc_paths {N : List ToldD} : Asc N ↔ (N.map (·.path)).Pairwise fun a b => ltL (pathL a) (pathL b) = true := by
  rw [List.pairwise_map]; rfl

theorem mod_asc {N : List ToldD} (hA : Asc N) (p : ByteArray) {f : ToldD → ToldD} (hf : ∀ x, (f x).path = x.path) : Asc (modL N p f) := by
  rw [asc_paths, mod_paths hf, ← asc_paths]; exact hA

theorem mod_mem {N : List ToldD} (hA : Asc N) (p : ByteArray) (f : ToldD → ToldD) (x : ToldD) : x ∈ modL N p f ↔ (x ∈ N ∧ x.path ≠ p) ∨ ∃ y ∈ N, y.path = p ∧ x = f y := by
  unfold modL
  rcases findI_cases N p with ⟨h1, h2⟩ | ⟨k, hk, h1, h2⟩
  · rw [if_pos h1]
    exact ⟨fun h => .inl ⟨h, h2 x h⟩, fun h => h.elim (·.1) fun ⟨y, hy, h3, _⟩ => absurd h3 (h2 y hy)⟩
  · rw [h1, if_neg (by omega), Int.toNat_natCast, List.getElem?_eq_getElem hk]
    show x ∈ N.set k (f N[k]) ↔ _
    rw [set_split hk, ← h2, ← cut_mem hA hk]
    simp only [List.mem_append, List.mem_cons]
    have huniq : ∀ y ∈ N, y.path = N[k].path → y = N[k] := fun y hy hp => by
      rcases Classical.em (y = N[k]) with h | h
      · exact h
      · have this : ¬ y ∈ N.take k ++ N.drop (k + 1) := fun h => ((cut_mem hA hk y).1 h).2 hp
        have hm : y ∈ N.take k ++ N[k] :: N.drop (k + 1) := by rw [← split_k hk]; exact hy
        simp only [List.mem_append, List.mem_cons] at hm this
        rcases hm with hm | hm | hm
        · exact absurd (.inl hm) this
        · exact absurd hm h
        · exact absurd (.inr hm) this
    constructor
    · rintro (h | h | h)
      · exact .inl (.inl h)
      · exact .inr ⟨N[k], List.getElem_mem hk, rfl, h⟩
      · exact .inl (.inr h)
    · rintro ((h | h) | ⟨y, hy, hp, h⟩)
      · exact .inl h
      · exact .inr (.inr h)
      · rw [huniq y hy hp] at h
        exact .inr (.inl h)

theorem memN_mod {N : List ToldD} {F : ByteArray → Option NodeD} (hA : Asc N) (hM : MemN N F) (p : ByteArray) {f : ToldD → ToldD} {f' : NodeD → NodeD} (hf : ∀ x, f x = ⟨x.path, (f' ⟨x.data, x.stat⟩).data, (f' ⟨x.data, x.stat⟩).stat⟩) : MemN (modL N p f) fun q => if q = p then (F q).map f' else F q := fun x => by
  rw [mod_mem hA]
  dsimp only
  by_cases e : x.path = p
  · rw [if_pos e]
    constructor
    · rintro (⟨_, h⟩ | ⟨y, hy, hp, rfl⟩)
      · exact absurd e h
      · have h1 := (hM y).1 hy
        have h2 : (f y).path = y.path := by rw [hf]
        rw [h2, h1, hf]; rfl
    · intro h
      obtain ⟨n, h1, h2⟩ := Option.map_eq_some_iff.1 h
      refine .inr ⟨⟨x.path, n.data, n.stat⟩, (hM _).2 h1, e, ?_⟩
      rw [hf]
      show x = ⟨x.path, (f' n).data, (f' n).stat⟩
      rw [h2]
  · rw [if_neg e, ← hM x]
    exact ⟨fun h => h.elim (·.1) fun ⟨y, hy, hp, h⟩ => absurd (by rw [h, hf]; exact hp) e, fun h => .inl ⟨h, e⟩⟩

theorem memN_put {N : List ToldD} {F : ByteArray → Option NodeD} (hA : Asc N) (hM : MemN N F) (p : ByteArray) (n : NodeD) : MemN (putL N ⟨p, n.data, n.stat⟩) fun q => if q = p then some n else F q := fun x => by
  rw [put_mem hA]
  dsimp only
  by_cases e : x.path = p
  · rw [if_pos e]
    constructor
    · rintro (rfl | h)
      · rfl
      · exact absurd e h.2
    · intro h
      injection h with h
      refine .inl ?_
      rw [h]
      show x = ⟨p, x.data, x.stat⟩
      rw [← e]
  · rw [if_neg e, ← hM x]
    exact ⟨fun h => h.elim (fun h => absurd (by rw [h]) e) (·.1), fun h => .inr ⟨h, e⟩⟩

theorem memN_drop {N : List ToldD} {F : ByteArray → Option NodeD} (hA : Asc N) (hM : MemN N F) (p : ByteArray) : MemN (dropL N p) fun q => if q = p then none else F q := fun x => by
  rw [drop_mem hA]
  dsimp only
  by_cases e : x.path = p
  · rw [if_pos e]
    exact ⟨fun h => absurd e h.2, fun h => by cases h⟩
  · rw [if_neg e, ← hM x]
    exact ⟨(·.1), fun h => ⟨h, e⟩⟩

theorem memN_mark {N : List ToldD} {F : ByteArray → Option NodeD} (hA : Asc N) (hM : MemN N F) (h : DeedH) (z : Int) : MemN (rmarkL N h.path z h.cver) fun q => markF h z q (F q) := by
  rw [mark_mod]
  exact memN_mod hA hM (parentP h.path) (f' := nodeMark z h.cver) fun x => rfl

theorem rchange_all {N : List ToldD} {F : ByteArray → Option NodeD} (hA : Asc N) (hM : MemN N F) {h : DeedH} (hk : h.kind = 1 ∨ h.kind = 2 ∨ h.kind = 3) (z time : Int) : Asc (rchangeL N h z time) ∧ MemN (rchangeL N h z time) fun q => chgF h z time q (F q) := by
  rcases hk with k | k | k
  · rw [rchange1 k]
    have h1 := put_asc hA ⟨h.path, h.data, ⟨z, z, z, time, time, 0, 0, h.owner, 0, 0⟩⟩
    refine ⟨by rw [mark_mod]; exact mod_asc h1 _ fun _ => rfl, ?_⟩
    have h2 := memN_mark h1 (memN_put hA hM h.path (nodeNew h z time)) h z
    have e : (fun q => chgF h z time q (F q)) = fun q => markF h z q (if q = h.path then some (nodeNew h z time) else F q) := by
      funext q
      unfold chgF
      rw [if_neg (by omega), if_pos k]
    rw [e]; exact h2
  · rw [rchange2 k]
    have h1 := drop_asc hA h.path
    refine ⟨by rw [mark_mod]; exact mod_asc h1 _ fun _ => rfl, ?_⟩
    have h2 := memN_mark h1 (memN_drop hA hM h.path) h z
    have e : (fun q => chgF h z time q (F q)) = fun q => markF h z q (if q = h.path then none else F q) := by
      funext q
      unfold chgF
      rw [if_neg (by omega), if_neg (by omega), if_pos k]
    rw [e]; exact h2
  · rw [rchange3 k, set_mod]
    refine ⟨mod_asc hA _ fun _ => rfl, ?_⟩
    have h2 := memN_mod hA hM h.path (f := setX h z time) (f' := nodeSet h z time) fun x => rfl
    have e : (fun q => chgF h z time q (F q)) = fun q => if q = h.path then (F q).map (nodeSet h z time) else F q := by
      funext q
      unfold chgF
      rw [if_pos k]
    rw [e]; exact h2

def rpartsL (N : List ToldD) (ps : List DeedD) (z time : Int) : List ToldD := ps.foldl (fun N p => rchangeL N p.h z time) N

theorem rparts_all (z time : Int) : ∀ (ps : List DeedD) {N : List ToldD} {F : ByteArray → Option NodeD}, Asc N → MemN N F → (∀ p ∈ ps, p.h.kind = 1 ∨ p.h.kind = 2 ∨ p.h.kind = 3) → Asc (rpartsL N ps z time) ∧ MemN (rpartsL N ps z time) fun q => partsF ps z time q (F q)
  | [], _, _, hA, hM, _ => ⟨hA, hM⟩
  | p :: ps, N, F, hA, hM, hk => by
    obtain ⟨h1, h2⟩ := rchange_all hA hM (hk p (by simp)) z time
    exact rparts_all z time ps h1 h2 fun x hx => hk x (List.mem_cons_of_mem _ hx)

/-! ### Sittings -/

abbrev ltS (a b : SitD) : Prop := a.ses < b.ses
def AscS (S : List SitD) : Prop := S.Pairwise ltS
def MemS (S : List SitD) (G : Int → Option SitD) : Prop := ∀ x : SitD, x ∈ S ↔ G x.ses = some x

theorem rise_mem (S : List SitD) (s : Int) (x : SitD) : x ∈ riseL S s ↔ x ∈ S ∧ x.ses ≠ s := by
  unfold riseL
  rw [List.mem_filter, notS]
  simp

theorem rise_asc {S : List SitD} (hA : AscS S) (s : Int) : AscS (riseL S s) := List.Pairwise.sublist List.filter_sublist hA

theorem seat_mem (S : List SitD) (y x : SitD) : x ∈ seatL S y ↔ x = y ∨ (x ∈ S ∧ x.ses ≠ y.ses) := by
  unfold seatL
  rw [ins_memR, rise_mem]

theorem seat_asc {S : List SitD} (hA : AscS S) (y : SitD) : AscS (seatL S y) := by
  unfold seatL placeS
  refine ins_pair (fun a b c (h1 : a.ses < b.ses) (h2 : b.ses < c.ses) => by show a.ses < c.ses; omega) (rise_asc hA y.ses) (fun x _ h => of_decide_eq_true h) fun x hx h => ?_
  have h2 := ((rise_mem S y.ses x).1 hx).2
  have h3 : ¬ x.ses < y.ses := of_decide_eq_false h
  show y.ses < x.ses
  omega

theorem memS_rise {S : List SitD} {G : Int → Option SitD} (hM : MemS S G) (s : Int) : MemS (riseL S s) fun q => if q = s then none else G q := fun x => by
  rw [rise_mem]
  dsimp only
  by_cases e : x.ses = s
  · rw [if_pos e]
    exact ⟨fun h => absurd e h.2, fun h => by cases h⟩
  · rw [if_neg e, ← hM x]
    exact ⟨(·.1), fun h => ⟨h, e⟩⟩

theorem memS_seat {S : List SitD} {G : Int → Option SitD} (hM : MemS S G) (y : SitD) : MemS (seatL S y) fun q => if q = y.ses then some y else G q := fun x => by
  rw [seat_mem]
  dsimp only
  by_cases e : x.ses = y.ses
  · rw [if_pos e]
    constructor
    · rintro (rfl | h)
      · rfl
      · exact absurd e h.2
    · intro h
      injection h with h
      exact .inl h.symm
  · rw [if_neg e, ← hM x]
    exact ⟨fun h => h.elim (fun h => absurd (by rw [h]) e) (·.1), fun h => .inr ⟨h, e⟩⟩

def touchX (ses turn : Int) (x : SitD) : SitD := if 1 ≤ ses ∧ x.ses = ses then ⟨x.ses, x.tmo, max x.turn turn⟩ else x

theorem touchX_ses (ses turn : Int) (x : SitD) : (touchX ses turn x).ses = x.ses := by
  unfold touchX; split <;> rfl

theorem touch_asc {S : List SitD} (hA : AscS S) (ses turn : Int) : AscS (S.map (touchX ses turn)) := by
  refine List.pairwise_map.2 (hA.imp fun {a b} h => ?_)
  show (touchX ses turn a).ses < (touchX ses turn b).ses
  rw [touchX_ses, touchX_ses]; exact h

theorem memS_touch {S : List SitD} {G : Int → Option SitD} (hM : MemS S G) (hG : ∀ s x, G s = some x → x.ses = s ∧ 1 ≤ s) (d : DeedD) : MemS (S.map (touchX d.h.ses d.h.turn)) fun q => touchF d q (G q) := fun x => by
  rw [List.mem_map]
  dsimp only
  unfold touchF
  by_cases e : x.ses = d.h.ses
  · rw [if_pos e]
    constructor
    · rintro ⟨y, hy, rfl⟩
      rw [touchX_ses] at e ⊢
      have h1 := (hM y).1 hy
      have h2 := (hG _ _ h1).2
      rw [h1]
      show some _ = some _
      unfold touchX
      rw [if_pos ⟨by omega, e⟩]
    · intro h
      obtain ⟨y, h1, h2⟩ := Option.map_eq_some_iff.1 h
      obtain ⟨h3, h4⟩ := hG _ _ h1
      refine ⟨y, (hM y).2 (by rw [h3]; exact h1), ?_⟩
      unfold touchX
      rw [if_pos ⟨by omega, by omega⟩]
      exact h2
  · rw [if_neg e, ← hM x]
    constructor
    · rintro ⟨y, hy, rfl⟩
      rw [touchX_ses] at e
      have : touchX d.h.ses d.h.turn y = y := by unfold touchX; rw [if_neg fun h => e h.2]
      rw [this]; exact hy
    · intro h
      refine ⟨x, h, ?_⟩
      unfold touchX; rw [if_neg fun h => e h.2]

/-! ### A deed -/

def rsitL (S : List SitD) (d : DeedD) : List SitD := if d.h.kind = 4 then seatL S ⟨d.h.zxid, d.h.tmo, d.h.turn⟩ else if d.h.kind = 5 then riseL S d.h.owner else S
def rapplyN (N : List ToldD) (d : DeedD) : List ToldD := if RightD d then rpartsL (rchangeL N d.h d.h.zxid d.h.time) d.parts d.h.zxid d.h.time else N
def rapplyS (S : List SitD) (d : DeedD) : List SitD := if RightD d then (rsitL S d).map (touchX d.h.ses d.h.turn) else S

/-- The document's rows tell what the program's maps do. -/
structure RT (T : TreeD) (N : List ToldD) (S : List SitD) : Prop where
  ok : TOk T
  asc : Asc N
  mem : MemN N fun q => kGet q T.nodes
  ascS : AscS S
  memS : MemS S fun s => kGet s T.seats

theorem rt_new : RT treeNew [⟨rootS, [], ⟨0, 0, 0, 0, 0, 0, 0, 0, 0, 0⟩⟩] [] := by
  refine ⟨tok_new, List.pairwise_singleton _ _, fun x => ?_, List.Pairwise.nil, fun x => by simp [treeNew, kGet]⟩
  rw [List.mem_singleton]
  show _ ↔ kGet x.path [(rootS, _)] = _
  rw [kGet, kGet]
  by_cases e : x.path = rootS
  · rw [show (x.path == rootS) = true from beq_iff_eq.2 e]
    constructor
    · rintro rfl; rfl
    · intro h
      have h : some (⟨[], ⟨0, 0, 0, 0, 0, 0, 0, 0, 0, 0⟩⟩ : NodeD) = some ⟨x.data, x.stat⟩ := h
      injection h with h
      injection h with h1 h2
      obtain ⟨xp, xd, xs⟩ := x
      dsimp only at e h1 h2
      rw [e, ← h1, ← h2]
  · rw [show (x.path == rootS) = false from by simp [e]]
    constructor
    · rintro rfl; exact absurd rfl e
    · intro h; cases h

theorem no_parts {d : DeedD} (hr : RightD d) (h : d.h.kind = 1 ∨ d.h.kind = 2 ∨ d.h.kind = 3 ∨ d.h.kind = 4 ∨ d.h.kind = 6 ∨ d.h.kind = 7 ∨ d.h.kind = 9) : d.parts = [] := by
  have hf := hr.2.2.2.2.2.2.1.2.2.2.2.2.2.2.2.1
  rcases hf with hf | hf
  · unfold hasK at hf
    rcases h with e | e | e | e | e | e | e <;> (rw [e] at hf; exact absurd hf (by decide))
  · exact List.length_eq_zero_iff.1 hf

theorem RT.apply {T : TreeD} {N : List ToldD} {S : List SitD} (h : RT T N S) (d : DeedD) : RT (treeApply T d) (rapplyN N d) (rapplyS S d) := by
  obtain ⟨h1, h2, h3⟩ := apply_all h.ok.nd d
  by_cases hr : RightD d
  · simp only [if_pos hr] at h2 h3
    have hN : Asc (rapplyN N d) ∧ MemN (rapplyN N d) fun q => doF d q (kGet q T.nodes) := by
      unfold rapplyN
      rw [if_pos hr]
      by_cases hk : d.h.kind = 1 ∨ d.h.kind = 2 ∨ d.h.kind = 3
      · have hp := no_parts hr (by omega)
        have e : (fun q => doF d q (kGet q T.nodes)) = fun q => chgF d.h d.h.zxid d.h.time q (kGet q T.nodes) := by
          funext q; unfold doF; rw [if_pos hk]
        rw [hp, e]
        exact rchange_all h.asc h.mem hk _ _
      · rw [rchange0 (fun h => hk (.inl h)) (fun h => hk (.inr (.inl h))) (fun h => hk (.inr (.inr h)))]
        by_cases h58 : d.h.kind = 5 ∨ d.h.kind = 8
        · have e : (fun q => doF d q (kGet q T.nodes)) = fun q => partsF d.parts d.h.zxid d.h.time q (kGet q T.nodes) := by
            funext q; unfold doF; rw [if_neg hk, if_pos h58]
          rw [e]
          refine rparts_all _ _ _ h.asc h.mem fun p hp => ?_
          have hpp : 1 ≤ p.h.kind ∧ p.h.kind ≤ 3 := by
            rcases h58 with h5 | h8
            · have := (hr.2.2.2.2.2.2.2.1 h5).2.2 p hp
              have hk1 := this.2.2.2.2.2.1.1
              have hk2 := this.2.2.2.2.2.2.1
              omega
            · have := (hr.2.2.2.2.2.2.2.2.2 h8).2.2 p hp
              have hk1 := this.2.2.2.2.2.1.1
              have hk2 := this.2.2.2.2.2.2.1
              omega
          omega
        · have hk9 := hr.2.2.2.2.2.2.1.1
          have hp := no_parts hr (by omega)
          have e : (fun q => doF d q (kGet q T.nodes)) = fun q => kGet q T.nodes := by
            funext q; unfold doF; rw [if_neg hk, if_neg h58]
          rw [hp, e]
          exact ⟨h.asc, h.mem⟩
    have hS : AscS (rapplyS S d) ∧ MemS (rapplyS S d) fun s => sitF d s (kGet s T.seats) := by
      unfold rapplyS
      rw [if_pos hr]
      have h0 : AscS (rsitL S d) ∧ MemS (rsitL S d) (fun s => if d.h.kind = 4 then (if s = d.h.zxid then some ⟨d.h.zxid, d.h.tmo, d.h.turn⟩ else kGet s T.seats) else if d.h.kind = 5 then (if s = d.h.owner then none else kGet s T.seats) else kGet s T.seats) := by
        unfold rsitL
        by_cases h4 : d.h.kind = 4
        · simp only [if_pos h4]
          exact ⟨seat_asc h.ascS _, memS_seat h.memS ⟨d.h.zxid, d.h.tmo, d.h.turn⟩⟩
        · by_cases h5 : d.h.kind = 5
          · simp only [if_neg h4, if_pos h5]
            exact ⟨rise_asc h.ascS _, memS_rise h.memS d.h.owner⟩
          · simp only [if_neg h4, if_neg h5]
            exact ⟨h.ascS, h.memS⟩
      refine ⟨touch_asc h0.1 _ _, memS_touch h0.2 (fun s x hx => ?_) d⟩
      by_cases h4 : d.h.kind = 4
      · simp only [if_pos h4] at hx
        by_cases e : s = d.h.zxid
        · rw [if_pos e] at hx
          injection hx with hx
          rw [← hx, e]
          exact ⟨rfl, hr.1⟩
        · rw [if_neg e] at hx
          exact h.ok.ses s x hx
      · by_cases h5 : d.h.kind = 5
        · simp only [if_neg h4, if_pos h5] at hx
          by_cases e : s = d.h.owner
          · rw [if_pos e] at hx; cases hx
          · rw [if_neg e] at hx; exact h.ok.ses s x hx
        · simp only [if_neg h4, if_neg h5] at hx
          exact h.ok.ses s x hx
    refine ⟨h.ok.apply d, hN.1, fun x => ?_, hS.1, fun x => ?_⟩
    · rw [hN.2 x]
      dsimp only
      rw [h2]
    · rw [hS.2 x]
      dsimp only
      rw [h3]
  · have e1 : treeApply T d = T := by rw [treeApply, if_neg hr]
    have e2 : rapplyN N d = N := by rw [rapplyN, if_neg hr]
    have e3 : rapplyS S d = S := by rw [rapplyS, if_neg hr]
    rw [e1, e2, e3]; exact h

end
end Go.Proofs.YtbebacffaljckaaGreatDoor

namespace Go.Proofs.YtbebacffaljckaaGreatDoor
open Go.Sx Go.RowKit
noncomputable section
open Classical

/-! ### What nodes hold -/

def StatOk (s : StatD) : Prop := 0 ≤ s.czxid ∧ 0 ≤ s.mzxid ∧ 0 ≤ s.pzxid ∧ 0 ≤ s.ctime ∧ 0 ≤ s.mtime ∧ 0 ≤ s.ver ∧ 0 ≤ s.cver ∧ 0 ≤ s.owner ∧ 0 ≤ s.len ∧ 0 ≤ s.kids
def NdOk (n : NodeD) : Prop := n.data.length ≤ 1000 ∧ StatOk n.stat
def NodesOk (T : TreeD) : Prop := ∀ q n, kGet q T.nodes = some n → NdOk n

theorem chg_nd {h : DeedH} {np : Nat} (hf : FitsD h np) {z time : Int} (hz : 0 ≤ z) (ht : 0 ≤ time) {q : ByteArray} {o : Option NodeD} (ho : ∀ n, o = some n → NdOk n) : ∀ n, chgF h z time q o = some n → NdOk n := by
  obtain ⟨_, _, _, _, _, _, _, _, _, _, _, h1, h2, h3, h4, _⟩ := hf
  have hm : ∀ {o : Option NodeD}, (∀ n, o = some n → NdOk n) → ∀ n, markF h z q o = some n → NdOk n := fun {o} ho n hn => by
    unfold markF at hn
    split at hn
    · cases o with
      | none => cases hn
      | some x =>
        injection hn with hn
        obtain ⟨k1, k2, k3, k4, k5, k6, k7, k8, k9, k10, k11⟩ := ho x rfl
        subst hn
        exact ⟨k1, k2, k3, hz, k5, k6, k7, h4, k9, k10, k11⟩
    · exact ho n hn
  intro n hn
  unfold chgF at hn
  split at hn
  · split at hn
    · cases o with
      | none => cases hn
      | some x =>
        injection hn with hn
        obtain ⟨k1, k2, k3, k4, k5, k6, k7, k8, k9, k10, k11⟩ := ho x rfl
        subst hn
        exact ⟨h1, k2, hz, k4, k5, ht, h3, k8, k9, k10, k11⟩
    · exact ho n hn
  · split at hn
    · refine hm (fun m hm => ?_) n hn
      split at hm
      · injection hm with hm
        subst hm
        exact ⟨h1, hz, hz, hz, ht, ht, Int.le_refl _, Int.le_refl _, h2, Int.le_refl _, Int.le_refl _⟩
      · exact ho m hm
    · split at hn
      · refine hm (fun m hm => ?_) n hn
        split at hm
        · cases hm
        · exact ho m hm
      · exact hm ho n hn

theorem parts_nd {z time : Int} (hz : 0 ≤ z) (ht : 0 ≤ time) {q : ByteArray} : ∀ (ps : List DeedD), (∀ p ∈ ps, FitsD p.h p.parts.length) → ∀ {o : Option NodeD}, (∀ n, o = some n → NdOk n) → ∀ n, partsF ps z time q o = some n → NdOk n
  | [], _, _, ho => ho
  | p :: ps, hp, _, ho => parts_nd hz ht ps (fun q hq => hp q (List.mem_cons_of_mem _ hq)) (chg_nd (hp p (by simp)) hz ht ho)

theorem NodesOk.apply {T : TreeD} (h : NodesOk T) (hn : ND T) (d : DeedD) : NodesOk (treeApply T d) := fun q n hq => by
  obtain ⟨_, k1, _⟩ := apply_all hn d
  rw [k1] at hq
  by_cases hr : RightD d
  · rw [if_pos hr] at hq
    have hz : 0 ≤ d.h.zxid := by have := hr.1; omega
    have ht : 0 ≤ d.h.time := hr.2.2.2.2.2.1
    unfold doF at hq
    split at hq
    · exact chg_nd hr.2.2.2.2.2.2.1 hz ht (h q) n hq
    · split at hq
      · rename_i h58
        refine parts_nd hz ht d.parts (fun p hp => ?_) (h q) n hq
        rcases h58 with h5 | h8
        · exact ((hr.2.2.2.2.2.2.2.1 h5).2.2 p hp).2.2.2.2.2.1
        · exact ((hr.2.2.2.2.2.2.2.2.2 h8).2.2 p hp).2.2.2.2.2.1
      · exact h q n hq
  · rw [if_neg hr] at hq
    exact h q n hq

theorem nodesOk_new : NodesOk treeNew := fun q n hq => by
  simp only [treeNew, kGet] at hq
  cases hb : q == rootS with
  | false => rw [hb] at hq; cases hq
  | true =>
    rw [hb] at hq
    injection hq with hq
    subst hq
    exact ⟨by simp, by simp [StatOk]⟩

/-! ### Alike but for what is reckoned -/

def erN (n : NodeD) : NodeD := ⟨n.data, { n.stat with len := 0, kids := 0 }⟩

def TSim (T U : TreeD) : Prop := (∀ q, (kGet q T.nodes).map erN = (kGet q U.nodes).map erN) ∧ ∀ s, kGet s T.seats = kGet s U.seats

theorem TEq.sim {T U : TreeD} (h : TEq T U) : TSim T U := ⟨fun q => by rw [h.1], h.2⟩

theorem keys_sim {T U : TreeD} (h : TSim T U) (hT : ND T) (hU : ND U) : (T.nodes.map (·.1)).Perm (U.nodes.map (·.1)) :=
  (List.perm_ext_iff_of_nodup hT.1 hU.1).2 fun q => by
    rw [← kGet_iff, ← kGet_iff]
    have := h.1 q
    cases h1 : kGet q T.nodes <;> cases h2 : kGet q U.nodes <;> rw [h1, h2] at this <;> simp at this <;> simp

theorem TSim.same {T U : TreeD} (h : TSim T U) (hT : ND T) (hU : ND U) : TSame T U := by
  have hp := keys_sim h hT hU
  constructor
  · have e : treePaths T = treePaths U := by
      have hp := hp.map pathL
      rw [List.map_map, List.map_map] at hp
      exact mergeSort_of_perm hp
    rw [treeAll, treeAll, e]
    refine List.map_congr_left fun x _ => ?_
    have hk : kidsN T (bytesOf x) = kidsN U (bytesOf x) := hp.countP_eq _
    have := h.1 (bytesOf x)
    unfold toldOf
    rw [hk]
    cases h1 : kGet (bytesOf x) T.nodes with
    | none =>
      cases h2 : kGet (bytesOf x) U.nodes with
      | none => rfl
      | some m => rw [h1, h2] at this; cases this
    | some n =>
      cases h2 : kGet (bytesOf x) U.nodes with
      | none => rw [h1, h2] at this; cases this
      | some m =>
        rw [h1, h2] at this
        injection this with this
        obtain ⟨nd, ⟨n1, n2, n3, n4, n5, n6, n7, n8, n9, n10⟩⟩ := n
        obtain ⟨md, ⟨m1, m2, m3, m4, m5, m6, m7, m8, m9, m10⟩⟩ := m
        simp only [erN, NodeD.mk.injEq, StatD.mk.injEq] at this
        obtain ⟨rfl, rfl, rfl, rfl, rfl, rfl, rfl, rfl, rfl, -⟩ := this
        rfl
  · have hs : sitOf T.seats = sitOf U.seats := by
      funext s
      unfold sitOf
      rw [h.2 s]
    have hks := keys_perm h.2 hT.2 hU.2
    rw [treeSits, treeSits, hs, sortI_of_perm hks]

/-! ### Nodes that are loaded -/

def loadN (l : List ToldD) : List (ByteArray × NodeD) := l.foldl (fun m x => kPut x.path ⟨x.data, x.stat⟩ m) []

theorem loadN_snoc (l : List ToldD) (x : ToldD) : loadN (l ++ [x]) = kPut x.path ⟨x.data, x.stat⟩ (loadN l) := by
  unfold loadN; rw [List.foldl_append]; rfl

theorem loadN_get {l : List ToldD} (hn : (l.map (·.path)).Nodup) (q : ByteArray) : kGet q (loadN l) = kGet q (l.map fun x => (x.path, (⟨x.data, x.stat⟩ : NodeD))) := by
  have h1 : loadN l = (l.map fun x => (x.path, (⟨x.data, x.stat⟩ : NodeD))).foldl (fun m e => kPut e.1 e.2 m) [] := by
    unfold loadN; rw [List.foldl_map]
  rw [h1, kGet_fold q _ _ (by rw [List.map_map]; exact hn)]
  cases kGet q (l.map fun x => (x.path, (⟨x.data, x.stat⟩ : NodeD))) <;> rfl

theorem told_path (T : TreeD) (p : ByteArray) : (toldOf T p).path = p := by
  unfold toldOf; split <;> rfl

theorem all_paths (T : TreeD) : (treeAll T).map (·.path) = (treePaths T).map bytesOf := by
  rw [treeAll, List.map_map]
  exact List.map_congr_left fun x _ => told_path T _

theorem all_nodup {T : TreeD} (h : ND T) : ((treeAll T).map (·.path)).Nodup := by
  rw [all_paths]
  refine List.pairwise_map.2 ((paths_nodup h).imp fun {a b} hab e => hab ?_)
  have := congrArg pathL e
  simpa [pathL, bytesOf] using this

theorem load_sim {T : TreeD} (h : ND T) (q : ByteArray) : (kGet q (loadN (treeAll T))).map erN = (kGet q T.nodes).map erN := by
  rw [loadN_get (all_nodup h)]
  have hn : (((treeAll T).map fun x => (x.path, (⟨x.data, x.stat⟩ : NodeD))).map (·.1)).Nodup := by
    rw [List.map_map]; exact all_nodup h
  cases hk : kGet q T.nodes with
  | some n =>
    have hm : pathL q ∈ treePaths T := (sortL_perm _).mem_iff.2 (List.mem_map.2 ⟨(q, n), (kGet_some h.1).1 hk, rfl⟩)
    have ht : toldOf T q = ⟨q, n.data, { n.stat with len := n.data.length, kids := kidsN T q }⟩ := by unfold toldOf; rw [hk]
    have hx : (q, (⟨n.data, { n.stat with len := n.data.length, kids := kidsN T q }⟩ : NodeD)) ∈ (treeAll T).map fun x => (x.path, (⟨x.data, x.stat⟩ : NodeD)) := by
      refine List.mem_map.2 ⟨toldOf T q, List.mem_map.2 ⟨pathL q, hm, by rw [bytesOf_pathL]⟩, ?_⟩
      rw [ht]
    rw [(kGet_some hn).2 hx]
    rfl
  | none =>
    rw [kGet_not fun hm => ?_]
    rw [List.map_map] at hm
    have hm : q ∈ (treeAll T).map (·.path) := hm
    rw [all_paths] at hm
    obtain ⟨x, hx, rfl⟩ := List.mem_map.1 hm
    exact kGet_iff.2 (paths_mem hx) hk

/-! ### Rows of deeds -/

theorem er_chg (h : DeedH) (z time : Int) (q : ByteArray) (o : Option NodeD) : (chgF h z time q o).map erN = chgF h z time q (o.map erN) := by
  have hm : ∀ o : Option NodeD, (markF h z q o).map erN = markF h z q (o.map erN) := fun o => by
    unfold markF
    split
    · cases o <;> rfl
    · rfl
  unfold chgF
  split
  · split
    · cases o <;> rfl
    · rfl
  · split
    · rw [hm]
      split <;> rfl
    · split
      · rw [hm]
        split <;> rfl
      · exact hm o

theorem er_parts (z time : Int) (q : ByteArray) : ∀ (ps : List DeedD) (o : Option NodeD), (partsF ps z time q o).map erN = partsF ps z time q (o.map erN)
  | [], _ => rfl
  | p :: ps, o => by
    show (partsF ps z time q (chgF p.h z time q o)).map erN = partsF ps z time q (chgF p.h z time q (o.map erN))
    rw [er_parts z time q ps, er_chg]

theorem er_do (d : DeedD) (q : ByteArray) (o : Option NodeD) : (doF d q o).map erN = doF d q (o.map erN) := by
  unfold doF
  split
  · exact er_chg _ _ _ _ _
  · split
    · exact er_parts _ _ _ _ _
    · rfl

theorem TSim.apply {T U : TreeD} (h : TSim T U) (hT : ND T) (hU : ND U) (d : DeedD) : TSim (treeApply T d) (treeApply U d) := by
  obtain ⟨_, k1, k2⟩ := apply_all hT d
  obtain ⟨_, j1, j2⟩ := apply_all hU d
  refine ⟨fun q => ?_, fun s => by rw [k2, j2, h.2]⟩
  rw [k1, j1]
  split
  · rw [er_do, er_do, h.1]
  · exact h.1 q

/-- What a row of deeds does to the node of a path. -/
def rowF (ds : List DeedD) (q : ByteArray) (o : Option NodeD) : Option NodeD := ds.foldl (fun o d => if RightD d then doF d q o else o) o
def rowS (ds : List DeedD) (s : Int) (o : Option SitD) : Option SitD := ds.foldl (fun o d => if RightD d then sitF d s o else o) o
def treeRow (T : TreeD) (ds : List DeedD) : TreeD := ds.foldl treeApply T

theorem ow_row (q : ByteArray) : ∀ ds : List DeedD, Ow (rowF ds q)
  | [] => ow_id
  | d :: ds => by
    show Ow fun o => rowF ds q (if RightD d then doF d q o else o)
    by_cases h : RightD d
    · simp only [h, if_true]; exact ow_comp (ow_do d q) (ow_row q ds)
    · simp only [h, if_false]; exact ow_row q ds

theorem row_all : ∀ (ds : List DeedD) {T : TreeD}, ND T → ND (treeRow T ds) ∧ (∀ q, kGet q (treeRow T ds).nodes = rowF ds q (kGet q T.nodes)) ∧ ∀ s, kGet s (treeRow T ds).seats = rowS ds s (kGet s T.seats)
  | [], _, h => ⟨h, fun _ => rfl, fun _ => rfl⟩
  | d :: ds, T, h => by
    obtain ⟨k0, k1, k2⟩ := apply_all h d
    obtain ⟨j0, j1, j2⟩ := row_all ds k0
    exact ⟨j0, fun q => (j1 q).trans (by rw [k1]; rfl), fun s => (j2 s).trans (by rw [k2]; rfl)⟩

theorem row_append (T : TreeD) (ds es : List DeedD) : treeRow T (ds ++ es) = treeRow (treeRow T ds) es := by
  unfold treeRow; rw [List.foldl_append]

theorem TSim.row {T U : TreeD} (h : TSim T U) : ∀ (ds : List DeedD), ND T → ND U → TSim (treeRow T ds) (treeRow U ds) := fun ds => by
  induction ds generalizing T U with
  | nil => exact fun _ _ => h
  | cons d ds ih => exact fun hT hU => ih (h.apply hT hU d) (apply_all hT d).1 (apply_all hU d).1

/-- A sitting's changes. -/
def SOw (f : Option SitD → Option SitD) : Prop := (∃ c, f = fun _ => c) ∨ ∃ t : Option Int, f = Option.map fun x => ⟨x.ses, x.tmo, match t with | some t => max x.turn t | none => x.turn⟩

theorem sow_id : SOw fun o => o := .inr ⟨none, by funext o; cases o <;> rfl⟩

theorem sow_comp {f g : Option SitD → Option SitD} (hf : SOw f) (hg : SOw g) : SOw fun o => g (f o) := by
  rcases hg with ⟨c, rfl⟩ | ⟨t', rfl⟩
  · exact .inl ⟨c, rfl⟩
  · rcases hf with ⟨c, rfl⟩ | ⟨t, rfl⟩
    · exact .inl ⟨c.map _, rfl⟩
    · refine .inr ⟨match t, t' with | some a, some b => some (max a b) | some a, none => some a | none, y => y, ?_⟩
      funext o
      cases o with
      | none => rfl
      | some x =>
        cases t <;> cases t' <;> simp only [Option.map_some] <;> try rfl
        congr 2
        omega

theorem sow_idem {f : Option SitD → Option SitD} (hf : SOw f) (o : Option SitD) : f (f o) = f o := by
  rcases hf with ⟨c, rfl⟩ | ⟨t, rfl⟩
  · rfl
  · cases o with
    | none => rfl
    | some x =>
      cases t with
      | none => rfl
      | some t =>
        simp only [Option.map_some]
        congr 2
        omega

theorem sow_touch (d : DeedD) (s : Int) : SOw (touchF d s) := by
  unfold touchF
  by_cases e : s = d.h.ses
  · simp only [e, if_true]; exact .inr ⟨some d.h.turn, rfl⟩
  · simp only [e, if_false]; exact sow_id

theorem sow_sit (d : DeedD) (s : Int) : SOw (sitF d s) := by
  unfold sitF
  by_cases h4 : d.h.kind = 4
  · simp only [h4, if_true]
    by_cases e : s = d.h.zxid
    · simp only [e, if_true]; exact .inl ⟨_, rfl⟩
    · simp only [e, if_false]; exact sow_touch d s
  · simp only [h4, if_false]
    by_cases h5 : d.h.kind = 5
    · simp only [h5, if_true]
      by_cases e : s = d.h.owner
      · simp only [e, if_true]; exact .inl ⟨_, rfl⟩
      · simp only [e, if_false]; exact sow_touch d s
    · simp only [h5, if_false]; exact sow_touch d s

theorem sow_row (s : Int) : ∀ ds : List DeedD, SOw (rowS ds s)
  | [] => sow_id
  | d :: ds => by
    show SOw fun o => rowS ds s (if RightD d then sitF d s o else o)
    by_cases h : RightD d
    · simp only [h, if_true]; exact sow_comp (sow_sit d s) (sow_row s ds)
    · simp only [h, if_false]; exact sow_row s ds

end
end Go.Proofs.YtbebacffaljckaaGreatDoor

namespace Go.Proofs.YtbebacffaljckaaGreatDoor
open Go.Sx Go.RowKit
noncomputable section
open Classical

theorem er_row (q : ByteArray) : ∀ (ds : List DeedD) (o : Option NodeD), (rowF ds q o).map erN = rowF ds q (o.map erN)
  | [], _ => rfl
  | d :: ds, o => by
    show (rowF ds q (if RightD d then doF d q o else o)).map erN = rowF ds q (if RightD d then doF d q (o.map erN) else o.map erN)
    rw [er_row q ds]
    split
    · rw [er_do]
    · rfl

theorem rowF_app (q : ByteArray) (ds es : List DeedD) (o : Option NodeD) : rowF (ds ++ es) q o = rowF es q (rowF ds q o) := by
  unfold rowF; rw [List.foldl_append]

theorem rowS_app (s : Int) (ds es : List DeedD) (o : Option SitD) : rowS (ds ++ es) s o = rowS es s (rowS ds s o) := by
  unfold rowS; rw [List.foldl_append]

theorem again_sim {T U : TreeD} (hT : ND T) (hU : ND U) (ds : List DeedD)
    (hq : ∀ q, ∃ j, (kGet q U.nodes).map erN = (kGet q (treeRow T (ds.take j)).nodes).map erN) (hs : ∃ j, ∀ s, kGet s U.seats = kGet s (treeRow T (ds.take j)).seats) : TSim (treeRow U ds) (treeRow T ds) := by
  obtain ⟨_, k1, k2⟩ := row_all ds hU
  obtain ⟨_, j1, j2⟩ := row_all ds hT
  refine ⟨fun q => ?_, fun s => ?_⟩
  · obtain ⟨j, hj⟩ := hq q
    rw [k1, j1, er_row, hj, (row_all (ds.take j) hT).2.1, ← er_row]
    congr 1
    have e : ∀ o, rowF ds q o = rowF (ds.drop j) q (rowF (ds.take j) q o) := fun o => by rw [← rowF_app, List.take_append_drop]
    rw [e, e, ow_idem (ow_row q (ds.take j))]
  · obtain ⟨j, hj⟩ := hs
    rw [k2, j2, hj, (row_all (ds.take j) hT).2.2]
    have e : ∀ o, rowS ds s o = rowS (ds.drop j) s (rowS (ds.take j) s o) := fun o => by rw [← rowS_app, List.take_append_drop]
    rw [e, e, sow_idem (sow_row s (ds.take j))]

/-- What deeds keep, all at once. -/
structure TGood (T : TreeD) : Prop where
  ok : TOk T
  keys : KeysOk T
  nodes : NodesOk T

theorem tgood_new : TGood treeNew := ⟨tok_new, fun e he => by
  simp only [treeNew, List.mem_singleton] at he
  subst he; rfl, nodesOk_new⟩

theorem TGood.apply {T : TreeD} (h : TGood T) (d : DeedD) : TGood (treeApply T d) := ⟨h.ok.apply d, apply_keys h.keys d, h.nodes.apply h.ok.nd d⟩

theorem TGood.row {T : TreeD} (h : TGood T) : ∀ ds : List DeedD, TGood (treeRow T ds) := fun ds => by
  induction ds generalizing T with
  | nil => exact h
  | cons d ds ih => exact ih (h.apply d)

/-! ### What may be loaded -/

def NodeFits (x : ToldD) : Prop := pathOk x.path.data.toList = true ∧ x.data.length ≤ 1000 ∧ StatOk x.stat

def LoadOk (l : List ToldD) : Prop := (∀ x ∈ l, NodeFits x) ∧ (l.Pairwise fun a b => ltL (pathL a.path) (pathL b.path) = true) ∧ ∃ x, l.head? = some x ∧ x.path = rootS

theorem told_some {T : TreeD} {p : ByteArray} {n : NodeD} (h : kGet p T.nodes = some n) : toldOf T p = ⟨p, n.data, { n.stat with len := n.data.length, kids := kidsN T p }⟩ := by
  unfold toldOf; rw [h]

theorem all_get {T : TreeD} {x : List UInt8} (hx : x ∈ treePaths T) : ∃ n, kGet (bytesOf x) T.nodes = some n := by
  cases h : kGet (bytesOf x) T.nodes with
  | some n => exact ⟨n, rfl⟩
  | none => exact absurd h (kGet_iff.2 (paths_mem hx))

theorem pathL_bytesOf (x : List UInt8) : pathL (bytesOf x) = x := by simp [pathL, bytesOf]

theorem root_first {T : TreeD} (h : TGood T) : ∃ ps, treePaths T = [47] :: ps := by
  have hr : ([47] : List UInt8) ∈ treePaths T := by
    obtain ⟨e, he, h1⟩ := List.mem_map.1 (kGet_iff.1 h.ok.root)
    exact (sortL_perm _).mem_iff.2 (List.mem_map.2 ⟨e, he, by rw [h1]; rfl⟩)
  have hs := paths_sorted h.ok.nd
  cases hp : treePaths T with
  | nil => rw [hp] at hr; cases hr
  | cons x ps =>
    rw [hp] at hr hs
    rcases List.mem_cons.1 hr with e | hm
    · exact ⟨ps, by rw [e]⟩
    · have hlt := (List.pairwise_cons.1 hs).1 _ hm
      have hx : x ∈ treePaths T := by rw [hp]; simp
      obtain ⟨e, he, h1⟩ := List.mem_map.1 (paths_mem hx)
      have hk := h.keys e he
      have e2 : e.1.data.toList = x := by rw [h1]; exact pathL_bytesOf x
      rw [e2] at hk
      exfalso
      unfold pathOk at hk
      split at hk
      · rename_i q
        simp [ltL] at hlt
      · cases hk

theorem load_ok {T : TreeD} (h : TGood T) : LoadOk (treeAll T) := by
  refine ⟨fun x hx => ?_, ?_, ?_⟩
  · obtain ⟨y, hy, rfl⟩ := List.mem_map.1 hx
    obtain ⟨n, hn⟩ := all_get hy
    obtain ⟨h1, h2, h3, h4, h5, h6, h7, h8, h9, _, _⟩ := h.nodes _ _ hn
    rw [told_some hn]
    obtain ⟨e, he, h0⟩ := List.mem_map.1 (paths_mem hy)
    have hk := h.keys e he
    rw [h0] at hk
    exact ⟨hk, h1, h2, h3, h4, h5, h6, h7, h8, h9, by show (0 : Int) ≤ (n.data.length : Int); omega, by show (0 : Int) ≤ (kidsN T (bytesOf y) : Int); omega⟩
  · rw [treeAll]
    refine List.pairwise_map.2 ((paths_sorted h.ok.nd).imp fun {a b} hab => ?_)
    rw [told_path, told_path, pathL_bytesOf, pathL_bytesOf]
    exact hab
  · obtain ⟨ps, hp⟩ := root_first h
    rw [treeAll, hp]
    exact ⟨_, rfl, told_path T _⟩

/-- What was told, loaded and seated, is the same tree. -/
theorem loaded_sim {T : TreeD} (h : TGood T) : TSim T ⟨loadN (treeAll T), seatsOf (treeSits T)⟩ :=
  ⟨fun q => (load_sim h.ok.nd q).symm, fun s => by
    have hE : T.nodes = kMap (·.2) (T.nodes.map fun e => (e.1, (0 : Nat), e.2)) := by
      unfold kMap
      rw [List.map_map]
      exact (List.map_id _).symm
    exact (copy_eq h.ok hE (List.Perm.refl _)).2 s⟩

end
end Go.Proofs.YtbebacffaljckaaGreatDoor

namespace Go.Proofs.YtbebacffaljckaaGreatDoor
open Go.Sx Go.RowKit
noncomputable section
open Classical

/-! ### Bytes -/

def sameBytesS : FSpec := ⟨List UInt8 × List UInt8, fun g vs A => ∃ x y, vs = [x, y] ∧ SlB A x g.1 ∧ SlB A y g.2, fun g _ A v A' => A' = A ∧ v = .bool (decide (g.1 = g.2))⟩

set_option maxRecDepth 100000 in
set_option maxHeartbeats 0 in
theorem sameBytes_ok : FOk Tryz.prog 75 sameBytesS := by
  refine fok_v mixed fun ⟨ls, bs⟩ vs A hp => ?_
  simp only [sameBytesS] at hp
  obtain ⟨x, y, rfl, ⟨⟨ao, c, rfl, hc, _, ha1, ha2, ha3⟩, hxl⟩, ⟨bo, d, rfl, hd, _, hb1, hb2, hb3⟩, hyl⟩ := hp
  refine ⟨noC, tabO Tryz.prog noC noL 60 [(75, 0)], 60, noC_sound _, tabO_sound mixed (noC_sound _) (noL_sound _) _ _, fun blk os out tape D hD => ?_⟩
  conv => lhs; whnf
  refine split_b (fun hb => ?_) (fun hb => ?_) <;> (conv => lhs; whnf)
  · refine (hD _).2 ⟨rfl, ?_⟩
    have : ls ≠ bs := fun e => by subst e; simp at hb
    simp [this]
  · have hlen : ls.length = bs.length := by
      have : (ls.length : Int) = bs.length := by simpa using hb
      omega
    refine (hD _).2 ⟨cnt A 5 [0, 1] [] ls.length fun k => ls.take k = bs.take k, ⟨(0 : Nat), ⟨Nat.zero_le _, rfl⟩, ⟨rfl, trivial⟩, trivial, rfl⟩, fun (k : Nat) hk => ⟨⟨trivial, trivial⟩, trivial, ?_⟩⟩
    simp only [cnt] at hk
    conv => lhs; whnf
    refine split_dec (fun hlt => ?_) (fun hb => ?_) <;> (conv => lhs; whnf)
    · have hlt : k < ls.length := by omega
      obtain ⟨g, o, rfl, hra⟩ := Sl.at_ hc ha1 ha2 ha3 (by omega)
      obtain ⟨g', o', rfl, hrb⟩ := Sl.at_ hd hb1 hb2 hb3 (by omega)
      conv => lhs; whnf
      refine split_in (fun _ _ => ?_) (fun h => by omega)
      conv => lhs; whnf
      refine go_rd (byte_at hra k hlt rfl) ?_
      conv => lhs; whnf
      refine split_in (fun _ _ => ?_) (fun h => by omega)
      conv => lhs; whnf
      refine go_rd (byte_at hrb k (by omega) rfl) ?_
      conv => lhs; whnf
      refine split_b (fun hb => ?_) (fun hb => ?_) <;> (conv => lhs; whnf)
      · refine (hD _).2 ⟨rfl, ?_⟩
        have : ls ≠ bs := fun e => by subst e; simp at hb
        simp [this]
      · have he : ls[k] = bs[k] := by
          have : (ls[k].toNat : Int) = bs[k].toNat := by simpa using hb
          exact UInt8.toNat_inj.1 (by omega)
        refine (hD _).2 ⟨(k + 1 : Nat), ⟨⟨by omega, ?_⟩, ⟨inc_slot (by omega), trivial⟩, trivial, rfl⟩, ?_, ⟨rfl, rfl, trivial⟩, trivial⟩
        · show ls.take (k + 1) = bs.take (k + 1)
          rw [List.take_succ_eq_append_getElem hlt, List.take_succ_eq_append_getElem (by omega), hk.2, he]
        · show ls.length - (k + 1) < ls.length - k
          omega
    · refine (hD _).2 ⟨rfl, ?_⟩
      have h1 : k = ls.length := by omega
      have : ls = bs := by
        have := hk.2
        rw [h1, List.take_length, hlen, List.take_length] at this
        exact this
      simp [this]

end
end Go.Proofs.YtbebacffaljckaaGreatDoor

namespace Go.Proofs.YtbebacffaljckaaGreatDoor
open Go.Sx Go.RowKit
noncomputable section
open Classical

/-! ### Owned -/

def isOwn (T : TreeD) (s : Int) (x : List UInt8) : Bool := decide (1 ≤ s ∧ ∃ n, kGet (bytesOf x) T.nodes = some n ∧ n.stat.owner = s)
def ownedP (T : TreeD) (s : Int) : List (List UInt8) := (treePaths T).filter (isOwn T s)

def sameNode2S : FSpec := ⟨(ToldD × Value) × (ToldD × Value), fun g vs A => vs = [.agg (nodeC g.1).toArray, .agg (nodeC g.2).toArray] ∧ SlB A g.1.2 g.1.1.data ∧ SlB A g.2.2 g.2.1.data, fun g _ A v A' => A' = A ∧ v = .bool (decide (g.1.1 = g.2.1))⟩

set_option maxRecDepth 100000 in
set_option maxHeartbeats 0 in
theorem sameNode2_ok : FOk Tryz.prog 61 sameNode2S := by
  refine fok_v mixed fun ⟨⟨⟨p, d, ⟨s1, s2, s3, s4, s5, s6, s7, s8, s9, s10⟩⟩, vd⟩, ⟨⟨q, e, ⟨u1, u2, u3, u4, u5, u6, u7, u8, u9, u10⟩⟩, ve⟩⟩ vs A hp => ?_
  obtain ⟨rfl, hd, he⟩ : vs = [.agg #[.string p, vd, .int .i64 s1, .int .i64 s2, .int .i64 s3, .int .i64 s4, .int .i64 s5, .int .i64 s6, .int .i64 s7, .int .i64 s8, .int .i64 s9, .int .i64 s10], .agg #[.string q, ve, .int .i64 u1, .int .i64 u2, .int .i64 u3, .int .i64 u4, .int .i64 u5, .int .i64 u6, .int .i64 u7, .int .i64 u8, .int .i64 u9, .int .i64 u10]] ∧ SlB A vd d ∧ SlB A ve e := hp
  obtain ⟨ad, cd, rfl⟩ := hd.1.form
  obtain ⟨ae, ce, rfl⟩ := he.1.form
  have hCt : CTSound Tryz.prog (lookC [specE 75 sameBytesS] noC) := lookC_sound (noC_sound _) (fun x hx => by
    simp only [List.mem_singleton] at hx
    subst hx; exact specE_ok sameBytes_ok)
  refine ⟨_, noL, 60, hCt, noL_sound _, fun blk os out tape D hD => ?_⟩
  have hend : ∀ b : Bool, (b = true ↔ ((p = q ∧ d = e) ∧ ((s1 = u1 ∧ s2 = u2 ∧ s3 = u3 ∧ s4 = u4 ∧ s5 = u5) ∧ s6 = u6 ∧ s7 = u7 ∧ s8 = u8 ∧ s9 = u9 ∧ s10 = u10))) → sameNode2S.post ⟨⟨⟨p, d, ⟨s1, s2, s3, s4, s5, s6, s7, s8, s9, s10⟩⟩, .slice ad d.length cd⟩, ⟨⟨q, e, ⟨u1, u2, u3, u4, u5, u6, u7, u8, u9, u10⟩⟩, .slice ae e.length ce⟩⟩ [] A (.bool b) A := fun b hb => by
    refine ⟨rfl, ?_⟩
    congr 1
    rw [Bool.eq_iff_iff, hb, decide_eq_true_iff]
    simp only [ToldD.mk.injEq, StatD.mk.injEq]
    constructor
    · rintro ⟨⟨h1, h8⟩, ⟨h2, h3, h4, h5, h6⟩, h7⟩
      exact ⟨h1, h8, h2, h3, h4, h5, h6, h7⟩
    · rintro ⟨h1, h8, h2, h3, h4, h5, h6, h7⟩
      exact ⟨⟨h1, h8⟩, ⟨h2, h3, h4, h5, h6⟩, h7⟩
  conv => lhs; whnf
  refine split_b (fun hb => ?_) (fun hb => ?_) <;> (conv => lhs; whnf)
  rotate_left
  · exact (hD _).2 (hend false ⟨fun h => (by cases h), fun h => absurd (congrArg (fun x : ByteArray => x.data.toList) h.1.1) (beqL_ff.1 hb)⟩)
  have hpq : p = q := bytes_ext (beqL_iff.1 hb)
  refine (hD _).2 ⟨(d, e), ⟨_, _, rfl, hd, he⟩, fun v A' hq => ?_⟩
  obtain ⟨hA, rfl⟩ : A = A' ∧ v = .bool (decide (d = e)) := ⟨hq.1.symm, hq.2⟩
  subst hA
  conv => lhs; whnf
  refine split_dec (fun hde => ?_) (fun hde => ?_) <;> (conv => lhs; whnf)
  rotate_left
  · exact (hD _).2 (hend false ⟨fun h => (by cases h), fun h => absurd h.1.2 hde⟩)
  refine go_D hD (by kernel_rfl) ?_
  conv => lhs; whnf
  exact (hD _).2 (hend _ (by
    simp only [cond_true, Bool.and_eq_true, decide_eq_true_iff]
    constructor
    · intro h
      exact ⟨⟨hpq, hde⟩, by simp at h; omega⟩
    · rintro ⟨-, ⟨rfl, rfl, rfl, rfl, rfl⟩, rfl, rfl, rfl, rfl, rfl⟩
      simp))

end
end Go.Proofs.YtbebacffaljckaaGreatDoor

namespace Go.Proofs.YtbebacffaljckaaGreatDoor
open Go.Sx Go.RowKit
noncomputable section
open Classical

def lookN (N : List ToldD) (p : ByteArray) : Option ToldD := N.find? fun x => decide (x.path = p)

theorem lookN_eq {T : TreeD} {N : List ToldD} {S : List SitD} (h : RT T N S) (p : ByteArray) : lookN N p = (kGet p T.nodes).map fun n => ⟨p, n.data, n.stat⟩ := by
  unfold lookN
  cases hk : kGet p T.nodes with
  | none =>
    rw [Option.map_none, List.find?_eq_none]
    intro x hx
    have := (h.mem x).1 hx
    simp only [decide_eq_true_eq]
    intro e
    dsimp only at this
    rw [e, hk] at this; cases this
  | some n =>
    have hm : (⟨p, n.data, n.stat⟩ : ToldD) ∈ N := (h.mem _).2 hk
    cases hf : N.find? fun x => decide (x.path = p) with
    | none =>
      rw [List.find?_eq_none] at hf
      exact absurd (hf _ hm) (by simp)
    | some x =>
      have h1 := List.mem_of_find?_eq_some hf
      have h2 : x.path = p := by simpa using List.find?_some hf
      have h3 := (h.mem x).1 h1
      dsimp only at h3
      rw [h2, hk] at h3
      injection h3 with h3
      rw [Option.map_some, h3, ← h2]

theorem rt_perm {T : TreeD} {N : List ToldD} {S : List SitD} (h : RT T N S) : (N.map (·.path)).Perm (T.nodes.map (·.1)) := by
  have hn : (N.map (·.path)).Nodup := (asc_paths.1 h.asc).imp fun {a b} hab e => by
    rw [e, rl_irr] at hab; cases hab
  refine (List.perm_ext_iff_of_nodup hn h.ok.nd.1).2 fun q => ?_
  rw [← kGet_iff, List.mem_map]
  constructor
  · rintro ⟨x, hx, rfl⟩ e
    have := (h.mem x).1 hx
    dsimp only at this
    rw [e] at this; cases this
  · intro hq
    obtain ⟨n, hn⟩ := Option.ne_none_iff_exists'.1 hq
    exact ⟨⟨q, n.data, n.stat⟩, (h.mem _).2 hn, rfl⟩

theorem rt_len {T : TreeD} {N : List ToldD} {S : List SitD} (h : RT T N S) : N.length = T.nodes.length := by
  have := (rt_perm h).length_eq
  rwa [List.length_map, List.length_map] at this

theorem sortL_id {l : List (List UInt8)} (h : l.Pairwise fun a b => decide (a ≤ b) = true) : sortL l = l := List.mergeSort_of_pairwise h

theorem sortL_asc {l : List (List UInt8)} (h : l.Pairwise fun a b => ltL a b = true) : sortL l = l :=
  sortL_id (h.imp fun {a b} hab => decide_eq_true (List.le_of_lt ((ltL_iff a b).1 hab)))

theorem rt_paths {T : TreeD} {N : List ToldD} {S : List SitD} (h : RT T N S) : treePaths T = N.map fun x => pathL x.path := by
  have hp := (rt_perm h).map pathL
  rw [List.map_map, List.map_map] at hp
  have h1 : sortL (N.map fun x => pathL x.path) = sortL (T.nodes.map fun e => pathL e.1) := mergeSort_of_perm hp
  rw [treePaths, ← h1, sortL_asc]
  exact List.pairwise_map.2 h.asc

/-- A node as it is told. -/
def rtoldX (N : List ToldD) (x : ToldD) : ToldD := ⟨x.path, x.data, { x.stat with len := x.data.length, kids := (N.countP fun y => decide (parentP y.path = x.path) : Nat) }⟩

theorem rt_kids {T : TreeD} {N : List ToldD} {S : List SitD} (h : RT T N S) (p : ByteArray) : kidsN T p = N.countP fun y => decide (parentP y.path = p) := by
  rw [kidsN, ← (rt_perm h).countP_eq, List.countP_map]
  rfl

theorem rt_told {T : TreeD} {N : List ToldD} {S : List SitD} (h : RT T N S) {x : ToldD} (hx : x ∈ N) : toldOf T x.path = rtoldX N x := by
  have h1 := (h.mem x).1 hx
  dsimp only at h1
  unfold toldOf rtoldX
  rw [h1, rt_kids h]

theorem rt_all {T : TreeD} {N : List ToldD} {S : List SitD} (h : RT T N S) : treeAll T = N.map (rtoldX N) := by
  rw [treeAll, rt_paths h, List.map_map]
  refine List.map_congr_left fun x hx => ?_
  show toldOf T (bytesOf (pathL x.path)) = _
  rw [bytesOf_pathL, rt_told h hx]

/-! ### Names of children -/

def lessB (s : List UInt8) (x : List UInt8) : Bool := ltL x s
def insB (out : List (List UInt8)) (s : List UInt8) : List (List UInt8) := out.take (out.takeWhile (lessB s)).length ++ s :: out.drop (out.takeWhile (lessB s)).length
def rkidsB (N : List ToldD) (p : ByteArray) : List (List UInt8) := (kidsOf (N.map (·.path)) p).foldl insB []

theorem le_not_lt {a b : List UInt8} (h : ltL a b = false) : b ≤ a := by
  refine List.not_lt.1 fun h2 => ?_
  rw [(ltL_iff a b).2 h2] at h; cases h

theorem insB_sorted {out : List (List UInt8)} (h : out.Pairwise fun a b => a ≤ b) (s : List UInt8) : (insB out s).Pairwise fun a b => a ≤ b :=
  ins_pair (R := fun a b : List UInt8 => a ≤ b) (f := lessB s) (n := s) (M := out) (fun a b c (h1 : a ≤ b) (h2 : b ≤ c) => List.le_trans h1 h2) h (fun x _ hx => List.le_of_lt ((ltL_iff x s).1 hx)) fun _ _ hx => le_not_lt hx

theorem insB_perm (out : List (List UInt8)) (s : List UInt8) : (insB out s).Perm (s :: out) := by
  unfold insB
  refine List.perm_middle.trans ?_
  rw [List.take_append_drop]

theorem insB_all : ∀ (l out : List (List UInt8)), out.Pairwise (fun a b => a ≤ b) → (l.foldl insB out).Pairwise (fun a b => a ≤ b) ∧ (l.foldl insB out).Perm (l ++ out)
  | [], out, h => ⟨h, List.Perm.refl _⟩
  | s :: l, out, h => by
    obtain ⟨h1, h2⟩ := insB_all l (insB out s) (insB_sorted h s)
    refine ⟨h1, h2.trans ?_⟩
    exact ((insB_perm out s).append_left l).trans (List.perm_middle.trans (List.Perm.refl _))

theorem rt_list {T : TreeD} {N : List ToldD} {S : List SitD} (h : RT T N S) (p : ByteArray) : rkidsB N p = treeKids T p := by
  obtain ⟨h1, h2⟩ := insB_all (kidsOf (N.map (·.path)) p) [] List.Pairwise.nil
  rw [List.append_nil] at h2
  have h3 : sortL (rkidsB N p) = rkidsB N p := sortL_id (h1.imp fun h => decide_eq_true h)
  rw [← h3, treeKids, ← kids_perm (rt_perm h) p]
  exact mergeSort_of_perm h2

theorem kids_step (N : List ToldD) (k : Nat) (hk : k < N.length) (p : ByteArray) : rkidsB (N.take (k + 1)) p = if parentP N[k].path = p then insB (rkidsB (N.take k) p) (cutP N[k].path.data.toList).2 else rkidsB (N.take k) p := by
  unfold rkidsB
  rw [List.take_succ_eq_append_getElem hk, List.map_append, List.map_singleton, kids_snoc, List.foldl_append]
  split <;> rfl

theorem rkidsB_len (N : List ToldD) (p : ByteArray) : (rkidsB N p).length ≤ N.length := by
  have h2 := (insB_all (kidsOf (N.map (·.path)) p) [] List.Pairwise.nil).2.length_eq
  have := kids_le (N.map (·.path)) p
  rw [List.append_nil] at h2
  unfold rkidsB
  rw [h2]
  rwa [List.length_map] at this

/-! ### Owners, sittings -/

def isOwnN (s : Int) (x : ToldD) : Bool := decide (x.stat.owner = s)
def rownedL (N : List ToldD) (s : Int) : List (List UInt8) := if 1 ≤ s then (N.filter (isOwnN s)).map fun x => pathL x.path else []

theorem rt_owned {T : TreeD} {N : List ToldD} {S : List SitD} (h : RT T N S) (s : Int) : ownedP T s = rownedL N s := by
  unfold ownedP rownedL
  rw [rt_paths h]
  have hx : ∀ x ∈ N, isOwn T s (pathL x.path) = decide (1 ≤ s ∧ x.stat.owner = s) := fun x hx => by
    have h1 := (h.mem x).1 hx
    dsimp only at h1
    unfold isOwn
    rw [bytesOf_pathL, h1]
    have e : (1 ≤ s ∧ ∃ n, some (⟨x.data, x.stat⟩ : NodeD) = some n ∧ n.stat.owner = s) ↔ (1 ≤ s ∧ x.stat.owner = s) := by
      constructor
      · rintro ⟨k1, n, k2, k3⟩
        injection k2 with k2
        rw [← k2] at k3
        exact ⟨k1, k3⟩
      · rintro ⟨k1, k2⟩
        exact ⟨k1, _, rfl, k2⟩
    by_cases h9 : 1 ≤ s ∧ x.stat.owner = s
    · rw [decide_eq_true (e.2 h9), decide_eq_true h9]
    · rw [decide_eq_false fun h => h9 (e.1 h), decide_eq_false h9]
  split
  · rename_i h1
    rw [List.filter_map]
    congr 1
    refine List.filter_congr fun x hxN => ?_
    show isOwn T s (pathL x.path) = isOwnN s x
    rw [hx x hxN]
    unfold isOwnN
    simp [h1]
  · rename_i h1
    refine List.filter_eq_nil_iff.2 fun y hy => ?_
    obtain ⟨x, hxN, rfl⟩ := List.mem_map.1 hy
    rw [hx x hxN]
    simp [h1]

theorem rt_sits {T : TreeD} {N : List ToldD} {S : List SitD} (h : RT T N S) : treeSits T = S := by
  have hn : (S.map (·.ses)).Nodup := List.pairwise_map.2 (h.ascS.imp fun {a b} hab e => by
    have hab : a.ses < b.ses := hab
    omega)
  have hp : (S.map (·.ses)).Perm (T.seats.map (·.1)) := by
    refine (List.perm_ext_iff_of_nodup hn h.ok.nd.2).2 fun q => ?_
    rw [← kGet_iff, List.mem_map]
    constructor
    · rintro ⟨x, hx, rfl⟩ e
      have := (h.memS x).1 hx
      dsimp only at this
      rw [e] at this; cases this
    · intro hq
      obtain ⟨x, hx⟩ := Option.ne_none_iff_exists'.1 hq
      have h1 := (h.ok.ses q x hx).1
      exact ⟨x, (h.memS x).2 (by dsimp only; rw [h1]; exact hx), h1⟩
  have hs : sortI (S.map (·.ses)) = S.map (·.ses) := by
    rw [sortI_eq]
    exact List.mergeSort_of_pairwise (List.pairwise_map.2 (h.ascS.imp fun {a b} hab => decide_eq_true (Int.le_of_lt hab)))
  rw [treeSits, ← sortI_of_perm hp, hs, List.map_map]
  conv => rhs; rw [← List.map_id S]
  refine List.map_congr_left fun x hx => ?_
  have h1 := (h.memS x).1 hx
  show sitOf T.seats x.ses = x
  unfold sitOf
  dsimp only at h1
  rw [h1]
  simp

theorem rt_slen {T : TreeD} {N : List ToldD} {S : List SitD} (h : RT T N S) : S.length = T.seats.length := by
  rw [← rt_sits h, treeSits, List.length_map, sortI_length, List.length_map]

end
end Go.Proofs.YtbebacffaljckaaGreatDoor

namespace Go.Proofs.YtbebacffaljckaaGreatDoor
open Go.Sx Go.RowKit
noncomputable section
open Classical

/-- Two trees do not share memory. -/
def ApartR (B1 : Arena) (O1 : Nat → Prop) (B2 : Arena) (O2 : Nat → Prop) : Prop := (∀ k, O1 k → ¬ O2 k) ∧ (∀ k o, B1.blk k = some o → ¬ O2 k) ∧ ∀ k o, B2.blk k = some o → ¬ O1 k

theorem ApartR.symm {B1 B2 : Arena} {O1 O2 : Nat → Prop} (h : ApartR B1 O1 B2 O2) : ApartR B2 O2 B1 O1 := ⟨fun k h2 h1 => h.1 k h1 h2, h.2.2, h.2.1⟩

theorem apart_step {A A' B1 B1' B2 : Arena} {O1 O1' O2 : Nat → Prop} (live : ∀ k, O2 k → ∃ o, A.blk k = some o) (sub : B2.Sub A) (hA : ApartR B1 O1 B2 O2) (s : Step A B1 O1 A' B1' O1') : ApartR B1' O1' B2 O2 ∧ (∀ k, O2 k → A'.blk k = A.blk k) ∧ B2.Sub A' := by
  refine ⟨⟨fun k h1 h2 => ?_, fun k o h1 h2 => ?_, fun k o hb h1 => ?_⟩, fun k hk => ?_, s.stays sub hA.2.2⟩
  · rcases s.own k h1 with h1 | h1
    · exact hA.1 k h1 h2
    · obtain ⟨o, ho⟩ := live k h2
      rw [h1] at ho; cases ho
  · rcases s.new k o h1 with h1 | h1
    · exact hA.2.1 k o h1 h2
    · obtain ⟨o, ho⟩ := live k h2
      rw [h1] at ho; cases ho
  · rcases s.own k h1 with h1 | h1
    · exact hA.2.2 k o hb h1
    · rw [sub k o hb] at h1; cases h1
  · obtain ⟨o, ho⟩ := live k hk
    rw [ho, s.keep k o ho fun h1 => hA.1 k h1 hk]

/-- The program's tree changes, the document's does not. -/
theorem tree_step {A A' B1 B1' B2 : Arena} {O1 O1' O2 : Nat → Prop} {r : Nat} {N : List ToldD} {S : List SitD} (h2 : RefAt A B2 O2 r N S) (hA : ApartR B1 O1 B2 O2) (s : Step A B1 O1 A' B1' O1') : RefAt A' B2 O2 r N S ∧ ApartR B1' O1' B2 O2 := by
  obtain ⟨l, vn, vs, gn, gs, hl, h⟩ := h2
  obtain ⟨h3, h4, h5⟩ := apart_step h.live h.sub hA s
  exact ⟨⟨l, vn, vs, gn, gs, hl, h.frame h4 h5⟩, h3⟩

/-- The document's tree changes, the program's does not. -/
theorem ref_step {A A' B1 B1' B2 : Arena} {O1 O1' O2 : Nat → Prop} {t : Nat} {T : TreeD} (h2 : TreeAt A B2 O2 t T) (hA : ApartR B1 O1 B2 O2) (s : Step A B1 O1 A' B1' O1') : TreeAt A' B2 O2 t T ∧ ApartR B1' O1' B2 O2 := by
  obtain ⟨m, s', E, h⟩ := h2
  obtain ⟨h3, h4, h5⟩ := apart_step h.live h.sub hA s
  exact ⟨⟨m, s', E, h.frame h4 h5⟩, h3⟩

theorem AsideR.sub {A A' C : Arena} {O : Nat → Prop} (h : Aside A C O) (hs : A.Sub A') : Aside A' C O := ⟨h.1.trans hs, h.2⟩

/-! ### What a get tells -/

def gotX (T : TreeD) (p : ByteArray) : ToldD := match kGet p T.nodes with
  | none => ⟨⟨#[]⟩, [], statZ⟩
  | some n => ⟨p, n.data, { n.stat with len := n.data.length, kids := (treeKids T p).length }⟩

theorem got_of {A A' : Arena} {T : TreeD} {p : ByteArray} {v : Value} (h : GotV A A' T p v) : ∃ vd, v = .tuple #[.agg (nodeC (gotX T p, vd)).toArray, .bool (kGet p T.nodes).isSome] ∧ SlB (A'.minus A) vd (gotX T p).data := by
  unfold GotV at h
  unfold gotX
  cases hk : kGet p T.nodes with
  | none =>
    rw [hk] at h
    exact ⟨.slice none 0 0, h, Sl.nil _ _, by simp⟩
  | some n =>
    rw [hk] at h
    exact h

def rgotX (N : List ToldD) (p : ByteArray) : ToldD := match lookN N p with
  | none => ⟨⟨#[]⟩, [], statZ⟩
  | some x => rtoldX N x

theorem rt_got {T : TreeD} {N : List ToldD} {S : List SitD} (h : RT T N S) (p : ByteArray) : rgotX N p = gotX T p := by
  unfold rgotX gotX
  rw [lookN_eq h]
  cases hk : kGet p T.nodes with
  | none => rfl
  | some n =>
    show rtoldX N ⟨p, n.data, n.stat⟩ = _
    unfold rtoldX
    rw [kids_len, rt_kids h]

theorem rt_is {T : TreeD} {N : List ToldD} {S : List SitD} (h : RT T N S) (p : ByteArray) : (lookN N p).isSome = (kGet p T.nodes).isSome := by
  rw [lookN_eq h]
  cases kGet p T.nodes <;> rfl

theorem rt_short {T : TreeD} {N : List ToldD} {S : List SitD} (h : RT T N S) (hk : KeysOk T) : ∀ x ∈ N, x.path.data.toList.length ≤ 140737488351232 := fun x hx => by
  have h1 := (h.mem x).1 hx
  dsimp only at h1
  have h2 := hk _ ((kGet_some h.ok.nd.1).1 h1)
  obtain ⟨q, h3, h4, _⟩ := pathOk_head h2
  have h3 : x.path.data.toList = 47 :: q := h3
  rw [h3, List.length_cons]
  omega

theorem keys_new : KeysOk treeNew := fun e he => by
  simp only [treeNew, List.mem_singleton] at he
  subst he
  rfl

end
end Go.Proofs.YtbebacffaljckaaGreatDoor

namespace Go.Proofs.YtbebacffaljckaaGreatDoor
open Go.Sx Go.RowKit
noncomputable section
open Classical

def Short (N : List ToldD) : Prop := ∀ x ∈ N, x.path.data.toList.length ≤ 140737488351232

def rtoldS : FSpec := ⟨RG × Nat, fun g vs A => vs = [.pointer (some ⟨g.1.r, 0, none⟩), .int .i64 (g.2 : Nat)] ∧ RefAt A g.1.B g.1.O g.1.r g.1.N g.1.S ∧ g.1.N.length ≤ 1000000 ∧ g.2 < g.1.N.length ∧ Short g.1.N,
  fun g _ A v A' => A.Sub A' ∧ ∃ x, g.1.N[g.2]? = some x ∧ ∃ vd, v = .agg (nodeC (rtoldX g.1.N x, vd)).toArray ∧ SlB (A'.minus A) vd x.data⟩

structure RtG where
  k : Nat
  A : Arena

def rkidsN (N : List ToldD) (p : ByteArray) : Nat := N.countP fun y => decide (parentP y.path = p)

theorem rkidsN_snoc (N : List ToldD) (k : Nat) (hk : k < N.length) (p : ByteArray) : rkidsN (N.take (k + 1)) p = rkidsN (N.take k) p + if parentP N[k].path = p then 1 else 0 := by
  unfold rkidsN
  rw [List.take_succ_eq_append_getElem hk, List.countP_append, List.countP_singleton]
  simp

theorem rkidsN_le (N : List ToldD) (p : ByteArray) : rkidsN N p ≤ N.length := List.countP_le_length

/-- The node that is told, as it stands in its variable. -/
def rtoldInv (A2 : Arena) (N : List ToldD) (xp : ByteArray) (vx : Value) (q1 q2 q3 q4 q5 q6 q7 q8 q9 : Int) : LInv :=
  { γ := RtG, G := fun g => g.k ≤ N.length ∧ A2.Sub g.A, keepS := [0, 4, 5], keepB := [0], sl := fun g => [(6, .v (.int .i64 g.k))],
    bl := fun g => [(1, .cells [.v (.string xp), .v vx, .v (.int .i64 q1), .v (.int .i64 q2), .v (.int .i64 q3), .v (.int .i64 q4), .v (.int .i64 q5), .v (.int .i64 q6), .v (.int .i64 q7), .v (.int .i64 q8), .v (.int .i64 q9), .v (.int .i64 (rkidsN (N.take g.k) xp : Nat))] 0 (49 + 1))],
    ar := fun g => g.A, mu := fun g => N.length - g.k }

set_option maxRecDepth 100000 in
set_option maxHeartbeats 0 in
theorem rtold_ok : FOk Tryz.prog 63 rtoldS := by
  refine fok_v mixed fun ⟨⟨N, S, B, O, r⟩, k⟩ vs A hp => ?_
  obtain ⟨rfl, ⟨l, vn, vs', gn, gs, hl, h⟩, hN, hk, hsh⟩ : vs = [.pointer (some ⟨r, 0, none⟩), .int .i64 (k : Nat)] ∧ RefAt A B O r N S ∧ N.length ≤ 1000000 ∧ k < N.length ∧ Short N := hp
  have hC : CTSound Tryz.prog (lookC [specE 71 refParentS] noC) := lookC_sound (noC_sound _) (fun x hx => by
    simp only [List.mem_singleton] at hx
    subst hx; exact specE_ok refParent_ok)
  refine ⟨_, tabO Tryz.prog _ noL 60 [(63, 0)], 60, hC, tabO_sound mixed hC (noL_sound _) _ _, fun blk os out tape D hD => ?_⟩
  have hll : l.length = N.length := by rw [← hl, List.length_map]
  have hkl : k < l.length := by omega
  obtain ⟨_, ao, c, hvn, hc, hy1, hy2, hy3⟩ := h.nrow
  obtain ⟨e, cc, h8, h9, h10⟩ := hy3 (by omega)
  subst e
  subst hvn
  have htop : A.rd r 0 1 = some [.slice (some ⟨gn, 0, none⟩) l.length c] := h.top.rd (o := 0) (n := 1) (by show 0 + 1 ≤ 2; omega)
  have hra : A.rd gn 0 (l.length * 12) = some (l.flatMap nodeC) := by rw [rd_mk h8 (by omega), List.drop_zero, h10]
  have i0 : (0 : Int) ≤ (k : Int) ∧ (k : Int) < (l.length : Int) := by omega
  obtain ⟨⟨⟨xp, xd, ⟨q1, q2, q3, q4, q5, q6, q7, q8, q9, q10⟩⟩, xv⟩, hx⟩ : ∃ x, x = l[k] := ⟨_, rfl⟩
  have hNk : N[k]? = some ⟨xp, xd, ⟨q1, q2, q3, q4, q5, q6, q7, q8, q9, q10⟩⟩ := by
    rw [← hl, List.getElem?_map, List.getElem?_eq_getElem hkl, ← hx]; rfl
  have hdx : SlB A xv xd := by
    have := (h.data l[k] (List.getElem_mem hkl)).sub h.sub
    rw [← hx] at this
    exact this
  have hrow := row_at (enc := nodeC) (fun _ => rfl) hra k hkl rfl
  rw [← hx] at hrow
  obtain ⟨⟨a7, k7, rfl, hd7, hdl, hz1, hz2, hz3⟩, hdn⟩ := hdx
  have hrow : A.rd gn (0 + k * 12) 12 = some [.string xp, .slice a7 xd.length k7, .int .i64 q1, .int .i64 q2, .int .i64 q3, .int .i64 q4, .int .i64 q5, .int .i64 q6, .int .i64 q7, .int .i64 q8, .int .i64 q9, .int .i64 q10] := hrow
  have hcs : (a7 = none ∧ xd.length = 0) ∨ (∃ g7 o7 t7, a7 = some ⟨g7, o7, some t7⟩ ∧ xd.length = 0) ∨ ∃ g7 o7, a7 = some ⟨g7, o7, none⟩ := by
    cases a7 with
    | none => exact .inl ⟨rfl, by have := hz1 rfl; omega⟩
    | some a =>
      obtain ⟨g7, o7, sp⟩ := a
      cases sp with
      | none => exact .inr (.inr ⟨g7, o7, rfl⟩)
      | some t7 =>
        refine .inr (.inl ⟨g7, o7, t7, rfl, ?_⟩)
        rcases Nat.eq_zero_or_pos k7 with hh | hh
        · omega
        · have := hz2 _ rfl hh
          cases this
  refine Or.elim hcs (fun e => ?_) (fun e => Or.elim e (fun e => ?_) (fun e => ?_))
  obtain ⟨e, h0⟩ := e
  subst e
  have hsrc : ∀ A1, A.Sub A1 → (if xd.length = 0 then some [] else none) = some (xd.map bv) := fun A1 _ => by
    rw [if_pos h0, List.length_eq_zero_iff.1 h0]; rfl
  rotate_left
  obtain ⟨g7, o7, t7, e, h0⟩ := e
  subst e
  have hsrc : ∀ A1, A.Sub A1 → (if xd.length = 0 then some [] else none) = some (xd.map bv) := fun A1 _ => by
    rw [if_pos h0, List.length_eq_zero_iff.1 h0]; rfl
  rotate_left
  obtain ⟨g7, o7, e⟩ := e
  subst e
  have hsrc : ∀ A1, A.Sub A1 → (if xd.length = 0 then some [] else A1.rd g7 o7 (xd.length * 1)) = some (xd.map bv) := fun A1 hs => by
    by_cases h0 : xd.length = 0
    · rw [if_pos h0, List.length_eq_zero_iff.1 h0]; rfl
    · rw [if_neg h0]; exact rd_sub hs (hz3 (by omega) _ rfl)
  rotate_left
  all_goals
    conv => lhs; whnf
    repeat (first | refine go_D hD rfl ?_ | refine go_rd htop ?_ | refine go_in i0 ?_ | refine go_rd hrow ?_
            conv => lhs; whnf)
    refine (hD _).2 fun gb A1 hNw => ?_
    have hNw : A.New A1 gb #[] 5 := hNw
    have htop1 := rd_sub hNw.sub htop
    conv => lhs; whnf
    repeat (first | refine go_D hD rfl ?_ | refine go_rd htop1 ?_ | refine go_in i0 ?_
            conv => lhs; whnf)
    refine (hD _).2 ⟨[], xd.map bv, rfl, hsrc A1 hNw.sub, hdl, fun v hv => (by
      obtain ⟨b, _, rfl⟩ := List.mem_map.1 hv
      rfl), by show 0 + xd.length ≤ 9223372036854775807; omega, fun h0 => (by
      rw [nextcap0 h0]
      show xd.length * 1 ≤ _
      omega), rfl, fun h => (by cases h), fun _ _ _ h1 h2 => absurd (by
      have : xd.length = 0 := by omega
      rw [List.length_eq_zero_iff.1 this]; rfl) h2, fun v A2 hA => ?_⟩
    obtain ⟨s2, hS2⟩ := clone_end hNw.sub hA hdl
    obtain ⟨ax, cx, hvx⟩ := hS2.form
    subst hvx
    have htop2 := rd_sub s2 htop
    conv => lhs; whnf
    repeat (first | refine go_D hD rfl ?_ | refine go_rd htop2 ?_ | refine go_in i0 ?_
            conv => lhs; whnf)
    refine (hD _).2 ⟨rtoldInv A2 N xp (.slice ax xd.length cx) q1 q2 q3 q4 q5 q6 q7 q8 xd.length, ⟨(⟨0, A2⟩ : RtG), ⟨Nat.zero_le _, Arena.Sub.refl _⟩, ⟨rfl, trivial⟩, ⟨rfl, trivial⟩, rfl⟩, fun (sg : RtG) hG => ⟨⟨trivial, trivial⟩, ⟨Nat.lt_succ_self 1, ⟨trivial, trivial, trivial, trivial, trivial, trivial, trivial, trivial, trivial, trivial, trivial, trivial, trivial⟩, trivial⟩, ?_⟩⟩
    obtain ⟨j, As⟩ := sg
    obtain ⟨hj, hAs⟩ : j ≤ N.length ∧ A2.Sub As := hG
    have sA := s2.trans hAs
    have htopj := rd_sub sA htop
    conv => lhs; whnf
    repeat (refine go_rd htopj ?_
            conv => lhs; whnf)
    refine split_dec (fun hlt => ?_) (fun hlt => ?_)
    · have hjl : j < l.length := by
        have hlt : (j : Int) < (l.length : Int) := hlt
        omega
      have hjN : j < N.length := by omega
      have j0 : (0 : Int) ≤ (j : Int) ∧ (j : Int) < (l.length : Int) := by omega
      have r1 := rd_at (row_at (enc := nodeC) (fun _ => rfl) hra j hjl rfl) (i := 0) (m := 1) (by omega)
      have r1 : A.rd gn (0 + j * 12) 1 = some [.string l[j].1.path] := r1
      have hpj : l[j].1.path = N[j].path := by
        have h1 : (l.map (·.1))[j]? = N[j]? := by rw [hl]
        rw [List.getElem?_map, List.getElem?_eq_getElem hjl, List.getElem?_eq_getElem hjN, Option.map_some] at h1
        injection h1 with h1
        rw [h1]
      have hsj := hsh N[j] (List.getElem_mem hjN)
      have hsn := rkidsN_snoc N j hjN xp
      have hle := rkidsN_le (N.take j) xp
      rw [List.length_take] at hle
      rw [hpj] at r1
      obtain ⟨q0, hq0⟩ : ∃ q0, q0 = N[j].path := ⟨_, rfl⟩
      rw [← hq0] at r1 hsj hsn
      have r1s := rd_sub sA r1
      conv => lhs; whnf
      repeat (first | refine go_in j0 ?_ | refine go_rd htopj ?_ | refine go_rd r1s ?_
              conv => lhs; whnf)
      refine (hD _).2 ⟨q0, ⟨rfl, hsj⟩, fun v A3 hq => ?_⟩
      have hq : As.Sub A3 ∧ v = .string (parentP q0) := hq
      obtain ⟨s3, hv⟩ := hq
      subst hv
      have htop3 := rd_sub s3 htopj
      have r13 := rd_sub s3 r1s
      conv => lhs; whnf
      repeat (first | refine go_in j0 ?_ | refine go_rd htop3 ?_ | refine go_rd r13 ?_ | refine go_D hD rfl ?_
              conv => lhs; whnf)
      refine split_b (fun hb => ?_) (fun hb => ?_) <;> (conv => lhs; whnf)
      · have e : parentP q0 = xp := bytes_ext (beqL_iff.1 hb)
        rw [if_pos e] at hsn
        have hcnt : IntKind.i64.wrap ((rkidsN (N.take j) xp : Nat) + 1) = ((rkidsN (N.take (j + 1)) xp : Nat) : Int) := by
          rw [hsn]; exact wrap_inc (by omega)
        exact (hD _).2 ⟨(⟨j + 1, A3⟩ : RtG), ⟨⟨by show j + 1 ≤ N.length; omega, hAs.trans s3⟩, ⟨inc_slot (k := j) (by omega), trivial⟩, ⟨congrArg (fun x : Int => some (SBlk.cells [.v (.string xp), .v (.slice ax xd.length cx), .v (.int .i64 q1), .v (.int .i64 q2), .v (.int .i64 q3), .v (.int .i64 q4), .v (.int .i64 q5), .v (.int .i64 q6), .v (.int .i64 q7), .v (.int .i64 q8), .v (.int .i64 xd.length), .v (.int .i64 x)] 0 (49 + 1))) hcnt, trivial⟩, rfl⟩, by show N.length - (j + 1) < N.length - j; omega, ⟨same1 rfl rfl, same1 rfl rfl, same1 rfl rfl, trivial⟩, ⟨same1 rfl rfl, trivial⟩⟩
      · have e : parentP q0 ≠ xp := fun e => beqL_ff.1 hb (by rw [e])
        rw [if_neg e, Nat.add_zero] at hsn
        have hcnt : ((rkidsN (N.take j) xp : Nat) : Int) = ((rkidsN (N.take (j + 1)) xp : Nat) : Int) := congrArg (fun n : Nat => (n : Int)) hsn.symm
        exact (hD _).2 ⟨(⟨j + 1, A3⟩ : RtG), ⟨⟨by show j + 1 ≤ N.length; omega, hAs.trans s3⟩, ⟨inc_slot (k := j) (by omega), trivial⟩, ⟨congrArg (fun x : Int => some (SBlk.cells [.v (.string xp), .v (.slice ax xd.length cx), .v (.int .i64 q1), .v (.int .i64 q2), .v (.int .i64 q3), .v (.int .i64 q4), .v (.int .i64 q5), .v (.int .i64 q6), .v (.int .i64 q7), .v (.int .i64 q8), .v (.int .i64 xd.length), .v (.int .i64 x)] 0 (49 + 1))) hcnt, trivial⟩, rfl⟩, by show N.length - (j + 1) < N.length - j; omega, ⟨same1 rfl rfl, same1 rfl rfl, same1 rfl rfl, trivial⟩, ⟨same1 rfl rfl, trivial⟩⟩
    · have e : j = N.length := by
        have hlt : ¬ (j : Int) < (l.length : Int) := hlt
        omega
      subst e
      have hend : rtoldS.post (⟨N, S, B, O, r⟩, k) [] A (.agg #[.string xp, .slice ax xd.length cx, .int .i64 q1, .int .i64 q2, .int .i64 q3, .int .i64 q4, .int .i64 q5, .int .i64 q6, .int .i64 q7, .int .i64 q8, .int .i64 xd.length, .int .i64 (rkidsN (N.take N.length) xp : Nat)]) As := by
        refine ⟨sA, _, hNk, .slice ax xd.length cx, ?_, (SlB.sub (minus_up hAs) ⟨hS2, hdn⟩)⟩
        rw [List.take_length]
        rfl
      conv => lhs; whnf
      exact (hD _).2 hend

theorem look_find {N : List ToldD} {p : ByteArray} : (lookN N p = none ∧ findI N p < 0) ∨ ∃ k : Nat, ∃ hk : k < N.length, lookN N p = some N[k] ∧ findI N p = (k : Nat) := by
  unfold lookN findI
  cases hf : N.findIdx? fun x => decide (x.path = p) with
  | none =>
    refine .inl ⟨?_, by show (-1 : Int) < 0; omega⟩
    rw [List.findIdx?_eq_none_iff] at hf
    rw [List.find?_eq_none]
    intro x hx
    simpa using hf x hx
  | some i =>
    rw [List.findIdx?_eq_some_iff_getElem] at hf
    obtain ⟨h1, h2, h3⟩ := hf
    refine .inr ⟨i, h1, ?_, rfl⟩
    rw [List.find?_eq_some_iff_getElem]
    exact ⟨h2, i, h1, rfl, fun j hj => by simpa using h3 j hj⟩

end
end Go.Proofs.YtbebacffaljckaaGreatDoor

namespace Go.Proofs.YtbebacffaljckaaGreatDoor
open Go.Sx Go.RowKit
noncomputable section
open Classical

/-! ### Sittings -/

def rsitsS : FSpec := ⟨RG, fun g vs A => vs = [.pointer (some ⟨g.r, 0, none⟩)] ∧ RefAt A g.B g.O g.r g.N g.S ∧ g.S.length ≤ 1000000,
  fun g _ A v A' => A.Sub A' ∧ Sl (A'.minus A) 3 g.S.length v (g.S.flatMap sitC)⟩

set_option maxRecDepth 100000 in
set_option maxHeartbeats 0 in
theorem rsits_ok : FOk Tryz.prog 35 rsitsS := by
  refine fok_v mixed fun ⟨N, S, B, O, r⟩ vs A hp => ?_
  obtain ⟨rfl, ⟨l, vn, vs', gn, gs, hl, h⟩, hS⟩ : vs = [.pointer (some ⟨r, 0, none⟩)] ∧ RefAt A B O r N S ∧ S.length ≤ 1000000 := hp
  refine ⟨noC, noL, 60, noC_sound _, noL_sound _, fun blk os out tape D hD => ?_⟩
  obtain ⟨hsl, ao, c, hvn, hc, hz1, hz2, hz3⟩ := h.srow
  subst hvn
  have htop : A.rd r 1 1 = some [.slice ao S.length c] := h.top.rd (o := 1) (n := 1) (by show 1 + 1 ≤ 2; omega)
  have hone : ∀ v ∈ S.flatMap sitC, v.oneCell' = true := fun v hv => by
    obtain ⟨x, hx, hv⟩ := List.mem_flatMap.1 hv
    simp only [sitC, List.mem_cons, List.not_mem_nil, or_false] at hv
    rcases hv with rfl | rfl | rfl <;> rfl
  have hcs : (ao = none ∧ S.length = 0) ∨ ∃ g7 o7, ao = some ⟨g7, o7, none⟩ := by
    cases ao with
    | none => exact .inl ⟨rfl, by have := hz1 rfl; omega⟩
    | some a =>
      obtain ⟨g7, o7, sp⟩ := a
      have := hz2 _ rfl
      dsimp only at this
      subst this
      exact .inr ⟨g7, o7, rfl⟩
  refine Or.elim hcs (fun e => ?_) (fun e => ?_)
  obtain ⟨e, h0⟩ := e
  subst e
  have hsrc : ∀ A1, A.Sub A1 → (if S.length = 0 then some [] else none) = some (S.flatMap sitC) := fun A1 _ => by
    rw [if_pos h0, List.length_eq_zero_iff.1 h0]; rfl
  rotate_left
  obtain ⟨g7, o7, e⟩ := e
  subst e
  have hsrc : ∀ A1, A.Sub A1 → (if S.length = 0 then some [] else A1.rd g7 o7 (S.length * 3)) = some (S.flatMap sitC) := fun A1 hs => by
    by_cases h0 : S.length = 0
    · rw [if_pos h0, List.length_eq_zero_iff.1 h0]; rfl
    · obtain ⟨e1, cc, h8, h9, h10⟩ := hz3 (by omega)
      injection e1 with e1
      injection e1 with e2 e3
      rw [if_neg h0, e2, e3]
      refine rd_sub hs ?_
      rw [rd_mk h8 (by omega), List.drop_zero, h10]
  rotate_left
  all_goals
    conv => lhs; whnf
    repeat (first | refine go_D hD rfl ?_ | refine go_rd htop ?_
            conv => lhs; whnf)
    refine (hD _).2 fun gb A1 hNw => ?_
    have hNw : A.New A1 gb #[] 59 := hNw
    have htop1 := rd_sub hNw.sub htop
    conv => lhs; whnf
    repeat (first | refine go_D hD rfl ?_ | refine go_rd htop1 ?_
            conv => lhs; whnf)
    refine (hD _).2 ⟨[], S.flatMap sitC, rfl, hsrc A1 hNw.sub, hsl, hone, by show 0 + S.length ≤ 9223372036854775807; omega, fun h0 => (by
      rw [nextcap0 h0]
      show S.length * 24 ≤ _
      omega), rfl, fun h => (by cases h), fun _ _ _ h1 h2 => absurd (by
      have : S.length = 0 := by omega
      rw [List.length_eq_zero_iff.1 this]; rfl) h2, fun v A2 hA => ?_⟩
    obtain ⟨s2, hS2⟩ := clone_end hNw.sub hA hsl
    have hend : rsitsS.post ⟨N, S, B, O, r⟩ [] A v A2 := ⟨s2, hS2⟩
    obtain ⟨ax, cx, hvx⟩ := hS2.form
    subst hvx
    conv => lhs; whnf
    exact (hD _).2 hend

/-! ### All -/

structure RaG where
  k : Nat
  A : Arena
  K : Arena
  v : Value
  rs : List (ToldD × Value)

def rallInv (A0 : Arena) (N : List ToldD) : LInv :=
  { γ := RaG, G := fun g => g.k ≤ N.length ∧ g.K.Sub g.A ∧ A0.Sub g.K ∧ GrowR g.K g.A 12 49 g.k g.v (g.rs.flatMap nodeC) ∧ g.rs.map (·.1) = (N.take g.k).map (rtoldX N) ∧ ∀ x ∈ g.rs, SlB (g.K.minus A0) x.2 x.1.data,
    keepS := [0], keepB := [], sl := fun g => [(4, .v (.int .i64 g.k)), (3, .v g.v)], bl := fun _ => [], ar := fun g => g.A, mu := fun g => N.length - g.k }

def rallS : FSpec := ⟨RG, fun g vs A => vs = [.pointer (some ⟨g.r, 0, none⟩)] ∧ RefAt A g.B g.O g.r g.N g.S ∧ g.N.length ≤ 1000000 ∧ Short g.N,
  fun g _ A v A' => A.Sub A' ∧ NodesS (A'.minus A) v (g.N.map (rtoldX g.N))⟩

set_option maxRecDepth 100000 in
set_option maxHeartbeats 0 in
theorem rall_ok : FOk Tryz.prog 34 rallS := by
  refine fok_v mixed fun ⟨N, S, B, O, r⟩ vs A hp => ?_
  obtain ⟨rfl, hRef, hN, hsh⟩ : vs = [.pointer (some ⟨r, 0, none⟩)] ∧ RefAt A B O r N S ∧ N.length ≤ 1000000 ∧ Short N := hp
  have hC : CTSound Tryz.prog (lookC [specE 63 rtoldS] noC) := lookC_sound (noC_sound _) (fun x hx => by
    simp only [List.mem_singleton] at hx
    subst hx; exact specE_ok rtold_ok)
  refine ⟨_, tabO Tryz.prog _ noL 60 [(34, 0)], 60, hC, tabO_sound mixed hC (noL_sound _) _ _, fun blk os out tape D hD => ?_⟩
  have hRef0 := hRef
  obtain ⟨l, vn, vs', gn, gs, hl, h⟩ := hRef
  have hll : l.length = N.length := by rw [← hl, List.length_map]
  obtain ⟨_, ao, c, hvn, hc, hz1, hz2, hz3⟩ := h.nrow
  subst hvn
  have htop : A.rd r 0 1 = some [.slice ao l.length c] := h.top.rd (o := 0) (n := 1) (by show 0 + 1 ≤ 2; omega)
  conv => lhs; whnf
  refine (hD _).2 ⟨rallInv A N, ⟨(⟨0, A, A, .slice none 0 0, []⟩ : RaG), ⟨Nat.zero_le _, Arena.Sub.refl _, Arena.Sub.refl _, GrowR.nil _ _ _ _, rfl, fun _ hx => (by cases hx)⟩, ⟨rfl, rfl, trivial⟩, trivial, rfl⟩, fun (sg : RaG) hG => ⟨⟨trivial, trivial, trivial⟩, trivial, ?_⟩⟩
  obtain ⟨k, Ak, K, v0, rs⟩ := sg
  obtain ⟨hk, hKA, hLK, hGr, hrs, hdat⟩ : k ≤ N.length ∧ K.Sub Ak ∧ A.Sub K ∧ GrowR K Ak 12 49 k v0 (rs.flatMap nodeC) ∧ rs.map (·.1) = (N.take k).map (rtoldX N) ∧ ∀ x ∈ rs, SlB (K.minus A) x.2 x.1.data := hG
  have hAk := hLK.trans hKA
  have htop9 := rd_sub hAk htop
  conv => lhs; whnf
  repeat (refine go_rd htop9 ?_
          conv => lhs; whnf)
  refine split_dec (fun hlt => ?_) (fun hlt => ?_)
  rotate_left
  · have e : k = N.length := by
      have hlt : ¬ (k : Int) < (l.length : Int) := hlt
      omega
    rw [e, List.take_length] at hrs
    have hlr : (N.map (rtoldX N)).length = k := by rw [List.length_map, e]
    have hend : rallS.post ⟨N, S, B, O, r⟩ [] A v0 Ak := by
      refine ⟨hAk, rs, hrs, ?_, fun x hx => (hdat x hx).sub (minus_mono hKA)⟩
      show Sl _ 12 (N.map (rtoldX N)).length v0 _
      rw [hlr]
      exact grow_sl hGr hLK
    obtain ⟨b0, c0, hv0, -, -⟩ := hGr.formN
    subst hv0
    conv => lhs; whnf
    exact (hD _).2 hend
  have hkN : k < N.length := by
    have hlt : (k : Int) < (l.length : Int) := hlt
    omega
  conv => lhs; whnf
  refine (hD _).2 ⟨(⟨N, S, B, O, r⟩, k), ⟨rfl, hRef0.more hAk, hN, hkN, hsh⟩, fun v A4 hq4 => ?_⟩
  have hq4 : Ak.Sub A4 ∧ ∃ x, N[k]? = some x ∧ ∃ vd, v = .agg (nodeC (rtoldX N x, vd)).toArray ∧ SlB (A4.minus Ak) vd x.data := hq4
  obtain ⟨s4, x0, hx0, vd, hv, hS4⟩ := hq4
  have hNk : N[k] = x0 := by
    rw [List.getElem?_eq_getElem hkN] at hx0
    injection hx0
  obtain ⟨ad, kd, hvd⟩ := hS4.1.form
  obtain ⟨x, hx⟩ : ∃ x : ToldD × Value, x = (rtoldX N x0, .slice ad x0.data.length kd) := ⟨_, rfl⟩
  have hx1 : x.1 = rtoldX N N[k] := by rw [hx, hNk]
  rw [hvd, ← hx] at hv
  have hxd : SlB (A4.minus Ak) x.2 x.1.data := by rw [hx, ← hvd]; exact hS4
  obtain ⟨⟨p, d, ⟨q1, q2, q3, q4, q5, q6, q7, q8, q9, q10⟩⟩, vx⟩ := x
  obtain ⟨ax, kx, hvx⟩ := hxd.1.form
  dsimp only at hvx hx1 hxd
  subst hvx
  subst hv
  conv => lhs; whnf
  refine (hD _).2 fun gb A5 hN5 => ?_
  obtain ⟨x, hx⟩ : ∃ x : ToldD × Value, x = (⟨p, d, ⟨q1, q2, q3, q4, q5, q6, q7, q8, q9, q10⟩⟩, .slice ax d.length kx) := ⟨_, rfl⟩
  have hNx : A4.New A5 gb (nodeC x).toArray 49 := by rw [hx]; exact hN5
  have hx1 : x.1 = rtoldX N N[k] := by rw [hx]; exact hx1
  have hxl : (nodeC x).length = 12 := rfl
  have hKA4 := hKA.trans s4
  obtain ⟨K', hK'⟩ : ∃ K' : Arena, K' = K.plus (A4.minus Ak) := ⟨_, rfl⟩
  have hKK : K.Sub K' := by rw [hK']; exact plus_l _ _
  have hNK : (A4.minus Ak).Sub K' := by
    rw [hK']
    refine plus_r fun j o hj => ?_
    cases hKj : K.blk j with
    | none => rfl
    | some o' => rw [minus_none _ (hKA _ _ hKj)] at hj; cases hj
  have hK4 : K'.Sub A4 := fun j o hj => by
    rw [hK'] at hj
    rcases plus_cases hj with hj | ⟨_, hj⟩
    · exact hKA4 _ _ hj
    · exact (minus_blk hj).2
  have hG4 : GrowR K' Ak 12 49 k v0 (rs.flatMap nodeC) := grow_know hGr fun j o h1 h2 => by
    rw [hK', plus_blk, h1]; exact minus_none _ h2
  have hG5 := (hG4.sub s4).sub hNx.sub
  have hK5 := hK4.trans hNx.sub
  have hd5 : ∀ j, A5.blk j = none → K'.blk j = none := fun j hj => by
    cases h1 : K'.blk j with
    | none => rfl
    | some o => rw [hK5 _ _ h1] at hj; cases hj
  obtain ⟨base, c9, hv0, hbase, hP, hA⟩ := hG5.form
  subst hv0
  have hP := hP 120 (by omega) (by omega)
  have hrow : A5.rd gb 0 (1 * 12) = some (nodeC x) := hNx.rd (o := 0) (n := 1 * 12) (by rw [List.size_toArray, hxl]; omega)
  refine Or.elim hbase (fun hb => ?_) (fun hb => ?_)
  rotate_left
  obtain ⟨g0, hb⟩ := hb
  all_goals
    subst hb
    conv => lhs; whnf
    refine (hD _).2 ⟨rs.flatMap nodeC, nodeC x, hP.rd, ?_, rfl, ?_, ?_, hP.cap, rfl, hP.none_, fun g' o' he' hle' _ => hP.room 12 rfl g' o' he' hle', fun v A6 hAp => ?_⟩
    · show (if 1 * 12 = 0 then some [] else A5.rd gb 0 (1 * 12)) = _
      rw [if_neg (by omega)]; exact hrow
    · intro v hv
      rw [hx] at hv
      simp only [nodeC, StatD.cells, List.mem_cons, List.not_mem_nil, or_false] at hv
      rcases hv with rfl | rfl | rfl | rfl | rfl | rfl | rfl | rfl | rfl | rfl | rfl | rfl <;> rfl
    · show k + 1 ≤ 9223372036854775807
      omega
    · obtain ⟨hG6, hk6⟩ := hA _ _ _ rfl hd5 hAp
      have hK6 : K'.Sub A6 := fun j o hj => by rw [hk6 j o hj]; exact hK5 _ _ hj
      have hg6 : (rallInv A N).G (⟨k + 1, A6, K', v, rs ++ [x]⟩ : RaG) := by
        refine ⟨by show k + 1 ≤ N.length; omega, hK6, hLK.trans hKK, ?_, ?_, fun y hy => ?_⟩
        · show GrowR K' A6 12 49 (k + 1) v ((rs ++ [x]).flatMap nodeC)
          rw [List.flatMap_append, List.flatMap_singleton]; exact hG6
        · show (rs ++ [x]).map (·.1) = (N.take (k + 1)).map (rtoldX N)
          rw [List.take_succ_eq_append_getElem hkN, List.map_append, List.map_append, hrs, List.map_singleton, List.map_singleton, hx1]
        · rcases List.mem_append.1 hy with hy | hy
          · exact (hdat y hy).sub (minus_mono hKK)
          · simp only [List.mem_singleton] at hy
            subst hy
            rw [hx]
            refine hxd.sub fun j o hj => ?_
            have hAj : A.blk j = none := by
              cases hAj : A.blk j with
              | none => rfl
              | some o' => rw [minus_none _ (hAk _ _ hAj)] at hj; cases hj
            show (match A.blk j with
              | none => K'.blk j
              | some _ => none) = some o
            rw [hAj]; exact hNK _ _ hj
      conv => lhs; whnf
      exact (hD _).2 ⟨(⟨k + 1, A6, K', v, rs ++ [x]⟩ : RaG), ⟨hg6, ⟨inc_slot (k := k) (by omega), rfl, trivial⟩, trivial, rfl⟩, by show N.length - (k + 1) < N.length - k; omega, ⟨same1 rfl rfl, trivial⟩, trivial⟩

end
end Go.Proofs.YtbebacffaljckaaGreatDoor

namespace Go.Proofs.YtbebacffaljckaaGreatDoor
open Go.Sx Go.RowKit
noncomputable section
open Classical

def refNew : List ToldD := [⟨rootS, [], ⟨0, 0, 0, 0, 0, 0, 0, 0, 0, 0⟩⟩]

def alRef : TypeId → Bool := fun t => Nat.beq t 49 || Nat.beq t 68

def rnewS : FSpec := ⟨Unit, fun _ vs _ => vs = [],
  fun _ _ A v A' => ∃ r O, v = .pointer (some ⟨r, 0, none⟩) ∧ RefAt A' Arena.void O r refNew [] ∧ A.Sub A' ∧ ∀ k, O k → A.blk k = none⟩

set_option maxRecDepth 100000 in
set_option maxHeartbeats 0 in
theorem rnew_ok : FOk Tryz.prog 6 rnewS := by
  refine fok_a mixed alRef fun _ vs A hp => ?_
  obtain rfl : vs = [] := hp
  refine ⟨noC, noL, 60, noC_sound _, noL_sound _, fun blk os out tape D hD => ?_⟩
  conv => lhs; whnf
  refine (hD _).2 fun g A1 hN1 => ?_
  have hN1 : A.New A1 g #[.string rootS, .slice none 0 0, .int .i64 0, .int .i64 0, .int .i64 0, .int .i64 0, .int .i64 0, .int .i64 0, .int .i64 0, .int .i64 0, .int .i64 0, .int .i64 0] 49 := hN1
  conv => lhs; whnf
  refine (hD _).2 fun r A2 hN2 => ?_
  have hN2 : A1.New A2 r #[.slice (some ⟨g, 0, none⟩) 1 1, .slice none 0 0] 68 := hN2
  have gr : g ≠ r := fun e => by subst e; have := hN2.none_; rw [hN1.at_] at this; cases this
  have hg2 := hN2.sub _ _ hN1.at_
  have hR : RefR A2 Arena.void (fun k => k = r ∨ k = g) r [((⟨rootS, [], ⟨0, 0, 0, 0, 0, 0, 0, 0, 0, 0⟩⟩ : ToldD), .slice none 0 0)] [] (.slice (some ⟨g, 0, none⟩) 1 1) (.slice none 0 0) g 0 :=
    { top := CellsAt.new hN2
      nrow := ⟨rfl, some ⟨g, 0, none⟩, 1, rfl, Nat.le_refl _, fun h => (by cases h), fun a h => (by injection h with h; subst h; rfl), fun _ => ⟨rfl, _, hg2, by show 1 * 12 ≤ 12; omega, rfl⟩⟩
      srow := RowIn.nil _ _ _ _
      data := fun x hx => by
        simp only [List.mem_singleton] at hx
        subst hx
        exact ⟨Sl.nil _ _, by simp⟩
      sub := fun k o hk => (by cases hk)
      own := ⟨.inl rfl, fun _ => .inr rfl, fun h => absurd h (by simp)⟩
      off := fun _ _ => rfl
      live := fun k hk => by
        rcases hk with rfl | rfl
        · exact ⟨_, hN2.at_⟩
        · exact ⟨_, hg2⟩
      ne := ⟨fun _ => gr, fun h => absurd h (by simp), fun _ h => absurd h (by simp)⟩ }
  have hend : rnewS.post () [] A (.pointer (some ⟨r, 0, none⟩)) A2 := by
    refine ⟨r, _, rfl, ⟨_, _, _, _, _, rfl, hR⟩, hN1.sub.trans hN2.sub, fun k hk => ?_⟩
    rcases hk with rfl | rfl
    · have := hN2.none_
      rw [hN1.other k (Ne.symm gr)] at this
      exact this
    · exact hN1.none_
  conv => lhs; whnf
  exact (hD _).2 hend

end
end Go.Proofs.YtbebacffaljckaaGreatDoor

namespace Go.Proofs.YtbebacffaljckaaGreatDoor
open Go.Sx Go.RowKit
noncomputable section
open Classical

def sameNodesS : FSpec := ⟨List (ToldD × Value) × List (ToldD × Value), fun g vs A => ∃ x y, vs = [x, y] ∧ NodesR A x g.1 ∧ NodesR A y g.2 ∧ g.1.length ≤ 1000000 ∧ g.2.length ≤ 1000000,
  fun g _ A v A' => A' = A ∧ v = .bool (decide (g.1.map (·.1) = g.2.map (·.1)))⟩

set_option maxRecDepth 100000 in
set_option maxHeartbeats 0 in
theorem sameNodes_ok : FOk Tryz.prog 32 sameNodesS := by
  refine fok_v mixed fun ⟨ls, bs⟩ vs A hp => ?_
  obtain ⟨x, y, rfl, ⟨⟨ao, c, rfl, hc, _, ha1, ha2, ha3⟩, hda⟩, ⟨⟨bo, d, rfl, hd, _, hb1, hb2, hb3⟩, hdb⟩, hl1, hl2⟩ : ∃ x y, vs = [x, y] ∧ NodesR A x ls ∧ NodesR A y bs ∧ ls.length ≤ 1000000 ∧ bs.length ≤ 1000000 := hp
  have hC : CTSound Tryz.prog (lookC [specE 61 sameNode2S] noC) := lookC_sound (noC_sound _) (fun x hx => by
    simp only [List.mem_singleton] at hx
    subst hx; exact specE_ok sameNode2_ok)
  refine ⟨_, tabO Tryz.prog _ noL 60 [(32, 0)], 60, hC, tabO_sound mixed hC (noL_sound _) _ _, fun blk os out tape D hD => ?_⟩
  conv => lhs; whnf
  refine split_b (fun hb => ?_) (fun hb => ?_) <;> (conv => lhs; whnf)
  · refine (hD _).2 ⟨rfl, ?_⟩
    have : ls.map (·.1) ≠ bs.map (·.1) := fun e => by
      have e2 := congrArg List.length e
      rw [List.length_map, List.length_map] at e2
      simp [e2] at hb
    simp [this]
  · have hlen : ls.length = bs.length := by
      have : (ls.length : Int) = bs.length := by simpa using hb
      omega
    refine (hD _).2 ⟨cnt A 5 [0, 1] [] ls.length fun k => (ls.take k).map (·.1) = (bs.take k).map (·.1), ⟨(0 : Nat), ⟨Nat.zero_le _, rfl⟩, ⟨rfl, trivial⟩, trivial, rfl⟩, fun (k : Nat) hk => ⟨⟨trivial, trivial⟩, trivial, ?_⟩⟩
    simp only [cnt] at hk
    conv => lhs; whnf
    refine split_dec (fun hlt => ?_) (fun hb => ?_) <;> (conv => lhs; whnf)
    · have hlt : k < ls.length := by omega
      have hlt2 : k < bs.length := by omega
      obtain ⟨g, o, rfl, hra⟩ := Sl.at_ hc ha1 ha2 ha3 (by omega)
      obtain ⟨g', o', rfl, hrb⟩ := Sl.at_ hd hb1 hb2 hb3 (by omega)
      have r1 := row_at (enc := nodeC) (fun _ => rfl) hra k hlt rfl
      have r2 := row_at (enc := nodeC) (fun _ => rfl) hrb k hlt2 rfl
      have d1 := hda ls[k] (List.getElem_mem hlt)
      have d2 := hdb bs[k] (List.getElem_mem hlt2)
      have i1 : (0 : Int) ≤ (k : Int) ∧ (k : Int) < (ls.length : Int) := by omega
      have i2 : (0 : Int) ≤ (k : Int) ∧ (k : Int) < (bs.length : Int) := by omega
      have hx : ∃ x, x = ls[k] := ⟨_, rfl⟩
      have hy : ∃ y, y = bs[k] := ⟨_, rfl⟩
      obtain ⟨⟨⟨p, e, ⟨s1, s2, s3, s4, s5, s6, s7, s8, s9, s10⟩⟩, vd⟩, hx⟩ := hx
      obtain ⟨⟨⟨q, f, ⟨u1, u2, u3, u4, u5, u6, u7, u8, u9, u10⟩⟩, ve⟩, hy⟩ := hy
      rw [← hx] at r1 d1
      rw [← hy] at r2 d2
      have r1 : A.rd g (o + k * 12) 12 = some [.string p, vd, .int .i64 s1, .int .i64 s2, .int .i64 s3, .int .i64 s4, .int .i64 s5, .int .i64 s6, .int .i64 s7, .int .i64 s8, .int .i64 s9, .int .i64 s10] := r1
      have r2 : A.rd g' (o' + k * 12) 12 = some [.string q, ve, .int .i64 u1, .int .i64 u2, .int .i64 u3, .int .i64 u4, .int .i64 u5, .int .i64 u6, .int .i64 u7, .int .i64 u8, .int .i64 u9, .int .i64 u10] := r2
      dsimp only at d1 d2
      obtain ⟨ad, cd, rfl⟩ := d1.1.form
      obtain ⟨ae, ce, rfl⟩ := d2.1.form
      conv => lhs; whnf
      repeat (first | refine go_in i1 ?_ | refine go_in i2 ?_ | refine go_rd r1 ?_ | refine go_rd r2 ?_
              conv => lhs; whnf)
      refine (hD _).2 ⟨((⟨p, e, ⟨s1, s2, s3, s4, s5, s6, s7, s8, s9, s10⟩⟩, .slice ad e.length cd), (⟨q, f, ⟨u1, u2, u3, u4, u5, u6, u7, u8, u9, u10⟩⟩, .slice ae f.length ce)), ⟨rfl, d1, d2⟩, fun v A9 hq => ?_⟩
      obtain ⟨h9, hv⟩ : A = A9 ∧ v = .bool (decide ((⟨p, e, ⟨s1, s2, s3, s4, s5, s6, s7, s8, s9, s10⟩⟩ : ToldD) = ⟨q, f, ⟨u1, u2, u3, u4, u5, u6, u7, u8, u9, u10⟩⟩)) := ⟨hq.1.symm, hq.2⟩
      subst h9
      have hx1 : ls[k].1 = ⟨p, e, ⟨s1, s2, s3, s4, s5, s6, s7, s8, s9, s10⟩⟩ := by rw [← hx]
      have hy1 : bs[k].1 = ⟨q, f, ⟨u1, u2, u3, u4, u5, u6, u7, u8, u9, u10⟩⟩ := by rw [← hy]
      by_cases he : (⟨p, e, ⟨s1, s2, s3, s4, s5, s6, s7, s8, s9, s10⟩⟩ : ToldD) = ⟨q, f, ⟨u1, u2, u3, u4, u5, u6, u7, u8, u9, u10⟩⟩
      · have hv : v = .bool true := by rw [hv, decide_eq_true he]
        subst hv
        conv => lhs; whnf
        refine (hD _).2 ⟨(k + 1 : Nat), ⟨⟨by omega, ?_⟩, ⟨inc_slot (by omega), trivial⟩, trivial, rfl⟩, ?_, ⟨same1 rfl rfl, same1 rfl rfl, trivial⟩, trivial⟩
        · show (ls.take (k + 1)).map (·.1) = (bs.take (k + 1)).map (·.1)
          rw [List.take_succ_eq_append_getElem hlt, List.take_succ_eq_append_getElem hlt2, List.map_append, List.map_append, hk.2, List.map_singleton, List.map_singleton, hx1, hy1, he]
        · show ls.length - (k + 1) < ls.length - k
          omega
      · have hv : v = .bool false := by rw [hv, decide_eq_false he]
        subst hv
        have hend : sameNodesS.post (ls, bs) [] A (.bool false) A := by
          refine ⟨rfl, ?_⟩
          have : ls.map (·.1) ≠ bs.map (·.1) := fun e2 => he (by
            have h1 : (ls.map (·.1))[k]? = (bs.map (·.1))[k]? := by rw [e2]
            rw [List.getElem?_map, List.getElem?_map, List.getElem?_eq_getElem hlt, List.getElem?_eq_getElem hlt2, Option.map_some, Option.map_some, hx1, hy1] at h1
            injection h1)
          show Value.bool false = .bool (decide (ls.map (·.1) = bs.map (·.1)))
          rw [decide_eq_false this]
        conv => lhs; whnf
        exact (hD _).2 hend
    · refine (hD _).2 ⟨rfl, ?_⟩
      have h1 : k = ls.length := by omega
      have : ls.map (·.1) = bs.map (·.1) := by
        have := hk.2
        rw [h1, List.take_length, hlen, List.take_length] at this
        exact this
      simp [this]

def sameSitsS : FSpec := ⟨List SitD × List SitD, fun g vs A => ∃ x y, vs = [x, y] ∧ Sl A 3 g.1.length x (g.1.flatMap sitC) ∧ Sl A 3 g.2.length y (g.2.flatMap sitC) ∧ g.1.length ≤ 1000000 ∧ g.2.length ≤ 1000000,
  fun g _ A v A' => A' = A ∧ v = .bool (decide (g.1 = g.2))⟩

set_option maxRecDepth 100000 in
set_option maxHeartbeats 0 in
theorem sameSits_ok : FOk Tryz.prog 19 sameSitsS := by
  refine fok_v mixed fun ⟨ls, bs⟩ vs A hp => ?_
  obtain ⟨x, y, rfl, ⟨ao, c, rfl, hc, _, ha1, ha2, ha3⟩, ⟨bo, d, rfl, hd, _, hb1, hb2, hb3⟩, hl1, hl2⟩ : ∃ x y, vs = [x, y] ∧ Sl A 3 ls.length x (ls.flatMap sitC) ∧ Sl A 3 bs.length y (bs.flatMap sitC) ∧ ls.length ≤ 1000000 ∧ bs.length ≤ 1000000 := hp
  refine ⟨noC, tabO Tryz.prog noC noL 60 [(19, 0)], 60, noC_sound _, tabO_sound mixed (noC_sound _) (noL_sound _) _ _, fun blk os out tape D hD => ?_⟩
  conv => lhs; whnf
  refine split_b (fun hb => ?_) (fun hb => ?_) <;> (conv => lhs; whnf)
  · refine (hD _).2 ⟨rfl, ?_⟩
    have : ls ≠ bs := fun e => by subst e; simp at hb
    simp [this]
  · have hlen : ls.length = bs.length := by
      have : (ls.length : Int) = bs.length := by simpa using hb
      omega
    refine (hD _).2 ⟨cnt A 5 [0, 1] [] ls.length fun k => ls.take k = bs.take k, ⟨(0 : Nat), ⟨Nat.zero_le _, rfl⟩, ⟨rfl, trivial⟩, trivial, rfl⟩, fun (k : Nat) hk => ⟨⟨trivial, trivial⟩, trivial, ?_⟩⟩
    simp only [cnt] at hk
    conv => lhs; whnf
    refine split_dec (fun hlt => ?_) (fun hb => ?_) <;> (conv => lhs; whnf)
    · have hlt : k < ls.length := by omega
      have hlt2 : k < bs.length := by omega
      obtain ⟨g, o, rfl, hra⟩ := Sl.at_ hc ha1 ha2 ha3 (by omega)
      obtain ⟨g', o', rfl, hrb⟩ := Sl.at_ hd hb1 hb2 hb3 (by omega)
      have r1 := row_at (enc := sitC) (fun _ => rfl) hra k hlt rfl
      have r2 := row_at (enc := sitC) (fun _ => rfl) hrb k hlt2 rfl
      have i1 : (0 : Int) ≤ (k : Int) ∧ (k : Int) < (ls.length : Int) := by omega
      have i2 : (0 : Int) ≤ (k : Int) ∧ (k : Int) < (bs.length : Int) := by omega
      obtain ⟨⟨s1, s2, s3⟩, hx⟩ : ∃ x, x = ls[k] := ⟨_, rfl⟩
      obtain ⟨⟨u1, u2, u3⟩, hy⟩ : ∃ y, y = bs[k] := ⟨_, rfl⟩
      rw [← hx] at r1
      rw [← hy] at r2
      have r1 : A.rd g (o + k * 3) 3 = some [.int .i64 s1, .int .i64 s2, .int .i64 s3] := r1
      have r2 : A.rd g' (o' + k * 3) 3 = some [.int .i64 u1, .int .i64 u2, .int .i64 u3] := r2
      conv => lhs; whnf
      repeat (first | refine go_in i1 ?_ | refine go_in i2 ?_ | refine go_rd r1 ?_ | refine go_rd r2 ?_ | refine go_D hD (by kernel_rfl) ?_
              conv => lhs; whnf)
      refine split_b (fun hb => ?_) (fun hb => ?_) <;> (conv => lhs; whnf)
      · refine (hD _).2 ⟨rfl, ?_⟩
        have hne : ls ≠ bs := fun e => by
          subst e
          rw [← hx] at hy
          injection hy with e1 e2 e3
          subst e1; subst e2; subst e3
          simp at hb
        show Value.bool false = .bool (decide (ls = bs))
        rw [decide_eq_false hne]
      · have he : s1 = u1 ∧ s2 = u2 ∧ s3 = u3 := by
          simp at hb
          omega
        obtain ⟨e1, e2, e3⟩ := he
        subst e1; subst e2; subst e3
        refine (hD _).2 ⟨(k + 1 : Nat), ⟨⟨by omega, ?_⟩, ⟨inc_slot (by omega), trivial⟩, trivial, rfl⟩, ?_, ⟨same1 rfl rfl, same1 rfl rfl, trivial⟩, trivial⟩
        · show ls.take (k + 1) = bs.take (k + 1)
          rw [List.take_succ_eq_append_getElem hlt, List.take_succ_eq_append_getElem hlt2, hk.2, ← hx, ← hy]
        · show ls.length - (k + 1) < ls.length - k
          omega
    · refine (hD _).2 ⟨rfl, ?_⟩
      have h1 : k = ls.length := by omega
      have : ls = bs := by
        have := hk.2
        rw [h1, List.take_length, hlen, List.take_length] at this
        exact this
      simp [this]

end
end Go.Proofs.YtbebacffaljckaaGreatDoor

namespace Go.Proofs.YtbebacffaljckaaGreatDoor
open Go.Sx Go.RowKit
noncomputable section
open Classical

def likeS : FSpec := ⟨TG × RG, fun g vs A => vs = [.pointer (some ⟨g.1.t, 0, none⟩), .pointer (some ⟨g.2.r, 0, none⟩)] ∧ TreeAt A g.1.B g.1.O g.1.t g.1.T ∧ RefAt A g.2.B g.2.O g.2.r g.2.N g.2.S ∧ RT g.1.T g.2.N g.2.S ∧ g.1.T.nodes.length ≤ 1000000 ∧ g.1.T.seats.length ≤ 1000000 ∧ Short g.2.N,
  fun _ _ A v A' => A.Sub A' ∧ v = .bool true⟩

theorem nodesR_sub {A B : Arena} {v : Value} {l : List (ToldD × Value)} (h : NodesR A v l) (hs : A.Sub B) : NodesR B v l := ⟨h.1.sub hs, fun x hx => (h.2 x hx).sub hs⟩

set_option maxRecDepth 100000 in
set_option maxHeartbeats 0 in
theorem like_ok : FOk Tryz.prog 12 likeS := by
  refine fok_v mixed fun ⟨⟨T, B, O, t⟩, ⟨N, S, B2, O2, r⟩⟩ vs A hp => ?_
  obtain ⟨rfl, hT, hR, hRT, hn, hs, hsh⟩ : vs = [.pointer (some ⟨t, 0, none⟩), .pointer (some ⟨r, 0, none⟩)] ∧ TreeAt A B O t T ∧ RefAt A B2 O2 r N S ∧ RT T N S ∧ T.nodes.length ≤ 1000000 ∧ T.seats.length ≤ 1000000 ∧ Short N := hp
  have hC : CTSound Tryz.prog (lookC [specE 33 allS, specE 34 rallS, specE 32 sameNodesS, specE 20 sittingsS, specE 35 rsitsS, specE 19 sameSitsS] noC) := lookC_sound (noC_sound _) (fun x hx => by
    simp only [List.mem_cons, List.not_mem_nil, or_false] at hx
    rcases hx with rfl | rfl | rfl | rfl | rfl | rfl
    · exact specE_ok all_ok
    · exact specE_ok rall_ok
    · exact specE_ok sameNodes_ok
    · exact specE_ok sittings_ok
    · exact specE_ok rsits_ok
    · exact specE_ok sameSits_ok)
  refine ⟨_, noL, 60, hC, noL_sound _, fun blk os out tape D hD => ?_⟩
  have hNl := rt_len hRT
  have hSl := rt_slen hRT
  have hall := rt_all hRT
  have hsit := rt_sits hRT
  conv => lhs; whnf
  refine (hD _).2 ⟨⟨T, B, O, t⟩, ⟨rfl, hT, hn⟩, fun v A1 hq => ?_⟩
  have hq : A.Sub A1 ∧ NodesS (A1.minus A) v (treeAll T) := hq
  obtain ⟨s1, hS1⟩ := hq
  obtain ⟨la, hla, hNa⟩ := nodesR_of hS1 (minus_sub A A1)
  have hlal : la.length = T.nodes.length := by
    have := congrArg List.length hla
    rw [List.length_map, treeAll_len] at this
    exact this
  obtain ⟨ax, cx, hvx⟩ := hNa.1.form
  subst hvx
  conv => lhs; whnf
  refine (hD _).2 ⟨⟨N, S, B2, O2, r⟩, ⟨rfl, hR.more s1, by show N.length ≤ 1000000; omega, hsh⟩, fun v A2 hq => ?_⟩
  have hq : A1.Sub A2 ∧ NodesS (A2.minus A1) v (N.map (rtoldX N)) := hq
  obtain ⟨s2, hS2⟩ := hq
  obtain ⟨lb, hlb, hNb⟩ := nodesR_of hS2 (minus_sub A1 A2)
  have hlbl : lb.length = N.length := by
    have := congrArg List.length hlb
    rw [List.length_map, List.length_map] at this
    exact this
  obtain ⟨bx, dx, hvx⟩ := hNb.1.form
  subst hvx
  have s12 := s1.trans s2
  conv => lhs; whnf
  refine (hD _).2 ⟨(la, lb), ⟨_, _, rfl, nodesR_sub hNa s2, hNb, by show la.length ≤ 1000000; omega, by show lb.length ≤ 1000000; omega⟩, fun v A3 hq => ?_⟩
  have hq : A3 = A2 ∧ v = .bool (decide (la.map (·.1) = lb.map (·.1))) := hq
  have h3 := hq.1.symm
  have hv := hq.2
  subst h3
  rw [hla, hlb, decide_eq_true hall] at hv
  subst hv
  conv => lhs; whnf
  refine (hD _).2 ⟨⟨T, B, O, t⟩, ⟨rfl, TreeAt_sub hT s12, hRT.ok.seatsOk, hs⟩, fun v A4 hq => ?_⟩
  have hq : A2.Sub A4 ∧ Sl (A4.minus A2) 3 (treeSits T).length v ((treeSits T).flatMap sitC) := hq
  rw [hsit] at hq
  obtain ⟨s4, hS4⟩ := hq
  have hS4 := hS4.sub (minus_sub _ _)
  obtain ⟨a4, c4, hv4⟩ := hS4.form
  subst hv4
  conv => lhs; whnf
  refine (hD _).2 ⟨⟨N, S, B2, O2, r⟩, ⟨rfl, hR.more (s12.trans s4), by show S.length ≤ 1000000; omega⟩, fun v A5 hq => ?_⟩
  have hq : A4.Sub A5 ∧ Sl (A5.minus A4) 3 S.length v (S.flatMap sitC) := hq
  obtain ⟨s5, hS5⟩ := hq
  have hS5 := hS5.sub (minus_sub _ _)
  obtain ⟨a5, c5, hv5⟩ := hS5.form
  subst hv5
  conv => lhs; whnf
  refine (hD _).2 ⟨(S, S), ⟨_, _, rfl, hS4.sub s5, hS5, by show S.length ≤ 1000000; omega, by show S.length ≤ 1000000; omega⟩, fun v A6 hq => ?_⟩
  have hq : A6 = A5 ∧ v = .bool (decide (S = S)) := hq
  have h6 := hq.1.symm
  have hv := hq.2
  subst h6
  rw [decide_eq_true rfl] at hv
  subst hv
  have hend : likeS.post (⟨T, B, O, t⟩, ⟨N, S, B2, O2, r⟩) [] A (.bool true) A5 := ⟨s12.trans (s4.trans s5), rfl⟩
  conv => lhs; whnf
  exact (hD _).2 hend

end
end Go.Proofs.YtbebacffaljckaaGreatDoor
