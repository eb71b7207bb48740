/-
  Contracts: two rows of texts: are they the same?
  Contracts: all of a tree's nodes, as they are told.
  Rows of nodes; what it means that two trees tell the same.
  Rows that are made by append: many elements at once.
  Rows of rows: what lies at the front of one, and behind.
  The document's tree in an arena: nodes in a row, sittings in a row.
  Paths, plain: parts and their join; what stands over a path, and its last part.
  Contracts: strings.Split at a slash.
  Contracts: the document's tree: a node less.
  Contracts: the document's tree: a node, whatever was there.
  Contracts: strings.Join with a slash, by the kit's law of it over any program.
  Contracts: the document's paths: a part.
-/
import Derived.Test.YtbebacffaljckaaGreatDoorG14
import Derived.Lib.Join
import Derived.Test.YtbebacffaljckaaGreatDoorG07
import Derived.Shelf.Strings.OnBuilder
namespace Go.Proofs.YtbebacffaljckaaGreatDoor
open Go.Sx Go.RowKit
noncomputable section
open Classical

/-- A slice of texts. -/
def SlT (A : Arena) (v : Value) (l : List (List UInt8)) : Prop := Sl A 1 l.length v (l.map strV) ∧ l.length ≤ 140737488351232

theorem text_at {A : Arena} {g o n : Nat} {ls : List (List UInt8)} (h : A.rd g o (n * 1) = some (ls.map strV)) (k : Nat) (hk : k < ls.length) (hn : n = ls.length) : A.rd g (o + k * 1) 1 = some [.string ⟨ls[k].toArray⟩] := by
  rw [rd_at h (i := k * 1) (m := 1) (by omega)]
  congr 1
  refine List.ext_getElem? fun i => ?_
  cases i with
  | zero => simp [hk, strV]
  | succ i =>
    simp
    omega

def sameTextsS : FSpec := ⟨List (List UInt8) × List (List UInt8), fun g vs A => ∃ x y, vs = [x, y] ∧ SlT A x g.1 ∧ SlT A y g.2, fun g _ A v A' => A' = A ∧ v = .bool (decide (g.1 = g.2))⟩

set_option maxRecDepth 100000 in
set_option maxHeartbeats 0 in
theorem sameTexts_ok : FOk Tryz.prog 18 sameTextsS := by
  refine fok_v mixed fun ⟨ls, bs⟩ vs A hp => ?_
  simp only [sameTextsS] at hp
  obtain ⟨x, y, rfl, ⟨⟨ao, c, rfl, hc, _, ha1, ha2, ha3⟩, hxl⟩, ⟨bo, d, rfl, hd, _, hb1, hb2, hb3⟩, hyl⟩ := hp
  refine ⟨noC, tabO Tryz.prog noC noL 60 [(18, 0)], 60, noC_sound _, tabO_sound mixed (noC_sound _) (noL_sound _) _ _, fun blk os out tape D hD => ?_⟩
  conv => lhs; whnf
  refine split_b (fun hb => ?_) (fun hb => ?_) <;> (conv => lhs; whnf)
  · refine (hD _).2 ⟨rfl, ?_⟩
    have : ls ≠ bs := fun e => by subst e; simp at hb
    simp [this]
  · have hlen : ls.length = bs.length := by
      have : (ls.length : Int) = bs.length := by simpa using hb
      omega
    refine (hD _).2 ⟨cnt A 5 [0, 1] [] ls.length fun k => ls.take k = bs.take k, ⟨(0 : Nat), ⟨Nat.zero_le _, rfl⟩, ⟨rfl, trivial⟩, trivial, rfl⟩, fun (k : Nat) hk => ⟨⟨trivial, trivial⟩, trivial, ?_⟩⟩
    simp only [cnt] at hk
    conv => lhs; whnf
    refine split_dec (fun hlt => ?_) (fun hb => ?_) <;> (conv => lhs; whnf)
    · have hlt : k < ls.length := by omega
      obtain ⟨g, o, rfl, hra⟩ := Sl.at_ hc ha1 ha2 ha3 (by omega)
      obtain ⟨g', o', rfl, hrb⟩ := Sl.at_ hd hb1 hb2 hb3 (by omega)
      conv => lhs; whnf
      refine split_in (fun _ _ => ?_) (fun h => by omega)
      conv => lhs; whnf
      refine go_rd (text_at hra k hlt rfl) ?_
      conv => lhs; whnf
      refine split_in (fun _ _ => ?_) (fun h => by omega)
      conv => lhs; whnf
      refine go_rd (text_at hrb k (by omega) rfl) ?_
      conv => lhs; whnf
      refine split_b (fun hb => ?_) (fun hb => ?_) <;> (conv => lhs; whnf)
      · refine (hD _).2 ⟨rfl, ?_⟩
        have : ls ≠ bs := fun e => by
          subst e
          have h9 : beqL ls[k] ls[k] = true := beqL_iff.2 rfl
          simp [h9] at hb
        simp [this]
      · have he : ls[k] = bs[k] := by
          have h8 : beqL ls[k] bs[k] = true := by simpa using hb
          exact beqL_iff.1 h8
        refine (hD _).2 ⟨(k + 1 : Nat), ⟨⟨by omega, ?_⟩, ⟨inc_slot (by omega), trivial⟩, trivial, rfl⟩, ?_, ⟨rfl, rfl, trivial⟩, trivial⟩
        · show ls.take (k + 1) = bs.take (k + 1)
          rw [List.take_succ_eq_append_getElem hlt, List.take_succ_eq_append_getElem (by omega), hk.2, he]
        · show ls.length - (k + 1) < ls.length - k
          omega
    · refine (hD _).2 ⟨rfl, ?_⟩
      have h1 : k = ls.length := by omega
      have : ls = bs := by
        have := hk.2
        rw [h1, List.take_length, hlen, List.take_length] at this
        exact this
      simp [this]

end
end Go.Proofs.YtbebacffaljckaaGreatDoor

namespace Go.Proofs.YtbebacffaljckaaGreatDoor
open Go.Sx Go.RowKit
noncomputable section
open Classical

structure ToldD where
  path : ByteArray
  data : List UInt8
  stat : StatD

def bytesOf (l : List UInt8) : ByteArray := ⟨l.toArray⟩

theorem bytesOf_pathL (q : ByteArray) : bytesOf (pathL q) = q := by
  obtain ⟨⟨l⟩⟩ := q; rfl

def kidsN (T : TreeD) (p : ByteArray) : Nat := (T.nodes.map (·.1)).countP fun q => decide (parentP q = p)

def toldOf (T : TreeD) (p : ByteArray) : ToldD := match kGet p T.nodes with
  | some n => ⟨p, n.data, { n.stat with len := n.data.length, kids := kidsN T p }⟩
  | none => ⟨p, [], ⟨0, 0, 0, 0, 0, 0, 0, 0, 0, 0⟩⟩

def treeAll (T : TreeD) : List ToldD := (treePaths T).map fun l => toldOf T (bytesOf l)

def nodeC (x : ToldD × Value) : List Value := .string x.1.path :: x.2 :: x.1.stat.cells

/-- A row of nodes. -/
def NodesS (D : Arena) (v : Value) (ns : List ToldD) : Prop := ∃ l : List (ToldD × Value), l.map (·.1) = ns ∧ Sl D 12 ns.length v (l.flatMap nodeC) ∧ ∀ x ∈ l, SlB D x.2 x.1.data

abbrev natV (n : Nat) : Value := .int .i64 n

theorem wrap_inc {k : Nat} (h : k < 9223372036854775807) : IntKind.i64.wrap ((k : Int) + 1) = ((k + 1 : Nat) : Int) := by
  have h1 := inc_slot h
  injection h1 with h1
  injection h1 with h1
  injection h1

structure A1G where
  k : Nat
  A : Arena
  l : List (ByteArray × Nat)

def kidCount (ps : List (List UInt8)) (q : ByteArray) : Nat := ps.countP fun x => decide (parentP (bytesOf x) = q)

theorem kidCount_snoc (ps : List (List UInt8)) (k : Nat) (hk : k < ps.length) (q : ByteArray) : kidCount (ps.take (k + 1)) q = kidCount (ps.take k) q + if q = parentP (bytesOf ps[k]) then 1 else 0 := by
  unfold kidCount
  rw [List.take_succ_eq_append_getElem hk, List.countP_append]
  congr 1
  by_cases h : q = parentP (bytesOf ps[k])
  · rw [if_pos h, h]; simp
  · rw [if_neg h]
    have h' : ¬ parentP (bytesOf ps[k]) = q := fun e => h e.symm
    simp [h']

theorem kidCount_le (ps : List (List UInt8)) (q : ByteArray) : kidCount ps q ≤ ps.length := List.countP_le_length

theorem sortL_perm (l : List (List UInt8)) : (sortL l).Perm l := List.mergeSort_perm _ _

theorem paths_mem {T : TreeD} {x : List UInt8} (h : x ∈ treePaths T) : bytesOf x ∈ T.nodes.map (·.1) := by
  obtain ⟨e, he, h3⟩ := List.mem_map.1 ((sortL_perm _).mem_iff.1 h)
  exact List.mem_map.2 ⟨e, he, by rw [← h3, bytesOf_pathL]⟩

theorem count_paths (T : TreeD) (q : ByteArray) : kidCount (treePaths T) q = kidsN T q := by
  rw [kidCount, kidsN, treePaths, (sortL_perm _).countP_eq, List.countP_map, List.countP_map]
  refine List.countP_congr fun e _ => ?_
  simp only [Function.comp_apply, bytesOf_pathL]

theorem minus_mono {A K K' : Arena} (h : K.Sub K') : (K.minus A).Sub (K'.minus A) := fun k o hk => by
  obtain ⟨h1, h2⟩ := minus_blk hk
  show (match A.blk k with
    | none => K'.blk k
    | some _ => none) = some o
  rw [h1]; exact h _ _ h2

theorem grow_know {K K' A : Arena} {es : Nat} {e : TypeId} {n : Nat} {v : Value} {cs : List Value} (h : GrowR K A es e n v cs) (hk : ∀ k o, K.blk k = none → A.blk k = some o → K'.blk k = none) : GrowR K' A es e n v cs := by
  obtain ⟨h1, h2 | ⟨g, nc, c, h3, h4, h4', h5, h6, h7, h8⟩⟩ := h
  · exact ⟨h1, .inl h2⟩
  · exact ⟨h1, .inr ⟨g, nc, c, h3, h4, h4', hk g _ h5 h6, h6, h7, h8⟩⟩

/-- A row that was made is new memory. -/
theorem grow_sl {A0 K A : Arena} {es : Nat} {e : TypeId} {n : Nat} {v : Value} {cs : List Value} (h : GrowR K A es e n v cs) (h0 : A0.Sub K) : Sl (A.minus A0) es n v cs := by
  obtain ⟨h1, ⟨rfl, rfl⟩ | ⟨g, nc, c, rfl, h4, h4', h5, h6, h7, h8⟩⟩ := h
  · have hc : cs = [] := List.length_eq_zero_iff.1 (by rw [h1]; simp)
    subst hc
    exact Sl.nil _ _
  · have hg : A0.blk g = none := by
      cases hA : A0.blk g with
      | none => rfl
      | some o => rw [h0 _ _ hA] at h5; cases h5
    have hle : n * es ≤ nc * es := Nat.mul_le_mul_right _ h4
    refine Sl.row h4 (rd_minus ?_ hg)
    rw [rd_mk h6 (by omega), List.drop_zero, h8]

def allInv1 (A2 : Arena) (c : Nat) (ps : List (List UInt8)) : LInv :=
  { γ := A1G, G := fun g => g.k ≤ ps.length ∧ (∀ b, b ≠ c → g.A.blk b = A2.blk b) ∧ MapAt g.A c (strL natV g.l) ∧ ∀ q, (kGet q g.l).getD 0 = kidCount (ps.take g.k) q,
    keepS := [0, 3, 4, 14, 15], keepB := [], sl := fun g => [(16, .v (.int .i64 g.k))], bl := fun _ => [], ar := fun g => g.A, mu := fun g => ps.length - g.k }

structure A2G where
  k : Nat
  A : Arena
  K : Arena
  v : Value
  l : List (ToldD × Value)

def allInv2 (A AL : Arena) (T : TreeD) (ps : List (List UInt8)) : LInv :=
  { γ := A2G, G := fun g => g.k ≤ ps.length ∧ g.K.Sub g.A ∧ AL.Sub g.K ∧ GrowR g.K g.A 12 49 g.k g.v (g.l.flatMap nodeC) ∧ g.l.map (·.1) = (ps.take g.k).map (fun x => toldOf T (bytesOf x)) ∧ ∀ x ∈ g.l, SlB (g.K.minus A) x.2 x.1.data,
    keepS := [0, 3, 4, 26, 27], keepB := [], sl := fun g => [(28, .v (.int .i64 g.k)), (7, .v g.v)], bl := fun _ => [], ar := fun g => g.A, mu := fun g => ps.length - g.k }

def allS : FSpec := ⟨TG, fun g vs A => vs = [.pointer (some ⟨g.t, 0, none⟩)] ∧ TreeAt A g.B g.O g.t g.T ∧ g.T.nodes.length ≤ 1000000,
  fun g _ A v A' => A.Sub A' ∧ NodesS (A'.minus A) v (treeAll g.T)⟩

set_option maxRecDepth 100000 in
set_option maxHeartbeats 0 in
theorem all_ok : FOk Tryz.prog 33 allS := by
  refine fok_v mixed fun ⟨T, B, O, t⟩ vs A hp => ?_
  obtain ⟨rfl, hT, hlen⟩ : vs = [.pointer (some ⟨t, 0, none⟩)] ∧ TreeAt A B O t T ∧ T.nodes.length ≤ 1000000 := hp
  have hCt : CTSound Tryz.prog (lookC [specE 62 pathsS, specE 38 parentS, specE 36 toldS] noC) := lookC_sound (noC_sound _) (fun x hx => by
    simp only [List.mem_cons, List.not_mem_nil, or_false] at hx
    rcases hx with rfl | rfl | rfl
    · exact specE_ok paths_ok
    · exact specE_ok parent_ok
    · exact specE_ok told_ok)
  refine ⟨_, tabO Tryz.prog _ noL 60 [(33, 0), (33, 2)], 60, hCt, tabO_sound mixed hCt (noL_sound _) _ _, fun blk os out tape D hD => ?_⟩
  conv => lhs; whnf
  refine (hD _).2 fun c A1 hc hA1 hM1 => ?_
  have hc : A.blk c = none := hc
  have hA1 : ∀ k, k ≠ c → A1.blk k = A.blk k := hA1
  have hM1 : MapAt A1 c [] := hM1
  have s1 : A.Sub A1 := fun k o hk => by rw [hA1 k fun e => by subst e; rw [hc] at hk; cases hk]; exact hk
  conv => lhs; whnf
  refine (hD _).2 ⟨⟨T, B, O, t⟩, ⟨rfl, TreeAt_sub hT s1, hlen⟩, fun v A2 hq => ?_⟩
  obtain ⟨s2, hS⟩ : A1.Sub A2 ∧ Sl (A2.minus A1) 1 (treePaths T).length v ((treePaths T).map strV) := hq
  obtain ⟨ps, hps⟩ : ∃ ps, ps = treePaths T := ⟨_, rfl⟩
  rw [← hps] at hS
  have hpl : ps.length ≤ 1000000 := by rw [hps, treePaths, sortL_length, List.length_map]; exact hlen
  obtain ⟨ao, cp, rfl, hcp, _, ha1, ha2, ha3⟩ := hS
  conv => lhs; whnf
  refine (hD _).2 ⟨allInv1 A2 c ps, ⟨(⟨0, A2, []⟩ : A1G), ⟨Nat.zero_le _, fun _ _ => rfl, hM1.sub fun o ho => s2 _ _ ho, fun q => rfl⟩, ⟨rfl, trivial⟩, trivial, rfl⟩, fun (sg : A1G) hG => ⟨⟨trivial, trivial⟩, trivial, ?_⟩⟩
  obtain ⟨k, As, l⟩ := sg
  obtain ⟨hk, hkeep, hM, hcnt⟩ : k ≤ ps.length ∧ (∀ b, b ≠ c → As.blk b = A2.blk b) ∧ MapAt As c (strL natV l) ∧ ∀ q, (kGet q l).getD 0 = kidCount (ps.take k) q := hG
  obtain ⟨oc, hoc⟩ : ∃ o, A1.blk c = some o := by
    obtain ⟨es, cl, h1, _⟩ := hM1
    exact ⟨_, h1⟩
  have hPs : (A2.minus A1).Sub As := fun b o hb => by
    rw [hkeep b fun e => by subst e; rw [minus_none _ hoc] at hb; cases hb]
    exact (minus_blk hb).2
  have hAs : A.Sub As := fun b o hb => by
    rw [hkeep b fun e => by subst e; rw [hc] at hb; cases hb]
    exact s2 _ _ (s1 _ _ hb)
  conv => lhs; whnf
  refine split_dec (fun hlt => ?_) (fun hlt => ?_) <;> (conv => lhs; whnf)
  · have hkl : k < ps.length := by
      have hlt : (k : Int) < (ps.length : Int) := hlt
      omega
    obtain ⟨g, o, rfl, hra⟩ := Sl.at_ hcp ha1 ha2 ha3 (by omega)
    have hrow := rd_sub hPs (text_at hra k hkl rfl)
    obtain ⟨q, hq⟩ : ∃ q, q = bytesOf ps[k] := ⟨_, rfl⟩
    have hrow : As.rd g (o + k * 1) 1 = some [.string q] := by rw [hrow, hq]; rfl
    conv => lhs; whnf
    refine split_in (fun _ _ => ?_) (fun h => by omega)
    conv => lhs; whnf
    refine go_rd hrow ?_
    conv => lhs; whnf
    refine (hD _).2 ⟨q, rfl, fun v A9 hq9 => ?_⟩
    obtain ⟨h9, rfl⟩ : As = A9 ∧ v = .string (parentP q) := ⟨hq9.1.symm, hq9.2⟩
    subst h9
    conv => lhs; whnf
    refine go_lk (look_str hM (parentP q)) ?_
    have hnb : (kGet (parentP q) l).getD 0 ≤ 1000000 := by
      rw [hcnt]
      have h1 := kidCount_le (ps.take k) (parentP q)
      rw [List.length_take] at h1
      omega
    have hnew : ∀ A3, (∀ b, b ≠ c → A3.blk b = As.blk b) → MapAt A3 c (strL natV (kPut (parentP q) ((kGet (parentP q) l).getD 0 + 1) l)) → (allInv1 A2 c ps).G (⟨k + 1, A3, kPut (parentP q) ((kGet (parentP q) l).getD 0 + 1) l⟩ : A1G) := fun A3 ho hm => by
      refine ⟨by show k + 1 ≤ ps.length; omega, fun b hb => (ho b hb).trans (hkeep b hb), hm, fun q' => ?_⟩
      show (kGet q' (kPut (parentP q) ((kGet (parentP q) l).getD 0 + 1) l)).getD 0 = kidCount (ps.take (k + 1)) q'
      rw [kidCount_snoc ps k hkl, ← hq, kGet_put]
      by_cases e : q' = parentP q
      · rw [if_pos e, if_pos e, e, ← hcnt]; rfl
      · rw [if_neg e, if_neg e, hcnt]; rfl
    cases hkg : kGet (parentP q) l with
    | none =>
      rw [hkg] at hnew
      conv => lhs; whnf
      refine (hD _).2 ⟨_, hM, strL_alike natV (parentP q) _, fun A3 hm3 ho3 => ?_⟩
      have hm3 : MapAt A3 c (putL (.string (parentP q)) (natV (0 + 1)) (strL natV l)) := hm3
      rw [strL_put] at hm3
      conv => lhs; whnf
      exact (hD _).2 ⟨(⟨k + 1, A3, kPut (parentP q) (0 + 1) l⟩ : A1G), ⟨hnew A3 ho3 hm3, ⟨inc_slot (k := k) (by omega), trivial⟩, trivial, rfl⟩, by show ps.length - (k + 1) < ps.length - k; omega, ⟨rfl, rfl, rfl, rfl, rfl, trivial⟩, trivial⟩
    | some n =>
      rw [hkg] at hnew hnb
      have hnb : n ≤ 1000000 := hnb
      conv => lhs; whnf
      refine (hD _).2 ⟨_, hM, strL_alike natV (parentP q) _, fun A3 hm3 ho3 => ?_⟩
      have hm3 : MapAt A3 c (putL (.string (parentP q)) (.int .i64 (IntKind.i64.wrap ((n : Int) + 1))) (strL natV l)) := hm3
      rw [wrap_inc (by omega), show Value.int .i64 ((n + 1 : Nat) : Int) = natV (n + 1) from rfl, strL_put] at hm3
      conv => lhs; whnf
      exact (hD _).2 ⟨(⟨k + 1, A3, kPut (parentP q) (n + 1) l⟩ : A1G), ⟨hnew A3 ho3 hm3, ⟨inc_slot (k := k) (by omega), trivial⟩, trivial, rfl⟩, by show ps.length - (k + 1) < ps.length - k; omega, ⟨rfl, rfl, rfl, rfl, rfl, trivial⟩, trivial⟩
  · have e : k = ps.length := by
      have hlt : ¬ (k : Int) < (ps.length : Int) := hlt
      omega
    subst e
    rw [List.take_length] at hcnt
    have hTA := TreeAt_sub hT hAs
    refine (hD _).2 ⟨allInv2 A As T ps, ⟨(⟨0, As, As, .slice none 0 0, []⟩ : A2G), ⟨Nat.zero_le _, Arena.Sub.refl _, Arena.Sub.refl _, GrowR.nil _ _ _ _, rfl, fun _ hx => (by cases hx)⟩, ⟨rfl, rfl, trivial⟩, trivial, rfl⟩, fun (sg : A2G) hG => ⟨⟨trivial, trivial, trivial⟩, trivial, ?_⟩⟩
    obtain ⟨k, Ak, K, v0, rs⟩ := sg
    obtain ⟨hk, hKA, hLK, hGr, hrs, hdat⟩ : k ≤ ps.length ∧ K.Sub Ak ∧ As.Sub K ∧ GrowR K Ak 12 49 k v0 (rs.flatMap nodeC) ∧ rs.map (·.1) = (ps.take k).map (fun x => toldOf T (bytesOf x)) ∧ ∀ x ∈ rs, SlB (K.minus A) x.2 x.1.data := hG
    conv => lhs; whnf
    refine split_dec (fun hlt => ?_) (fun hlt => ?_) <;> (conv => lhs; whnf)
    · have hkl : k < ps.length := by
        have hlt : (k : Int) < (ps.length : Int) := hlt
        omega
      obtain ⟨g, o, rfl, hra⟩ := Sl.at_ hcp ha1 ha2 ha3 (by omega)
      have hLA := hLK.trans hKA
      have hrow := rd_sub (hPs.trans hLA) (text_at hra k hkl rfl)
      obtain ⟨q, hq⟩ : ∃ q, q = bytesOf ps[k] := ⟨_, rfl⟩
      have hrow : Ak.rd g (o + k * 1) 1 = some [.string q] := by rw [hrow, hq]; rfl
      have hqm : q ∈ T.nodes.map (·.1) := by
        rw [hq]; exact paths_mem (hps ▸ List.getElem_mem hkl)
      obtain ⟨n, hn⟩ : ∃ n, kGet q T.nodes = some n := by
        cases h : kGet q T.nodes with
        | some n => exact ⟨n, rfl⟩
        | none => exact absurd h (kGet_iff.2 hqm)
      conv => lhs; whnf
      refine split_in (fun _ _ => ?_) (fun h => by omega)
      conv => lhs; whnf
      refine go_rd hrow ?_
      conv => lhs; whnf
      refine go_lk (look_str (hM.sub fun o ho => hLA _ _ ho) q) ?_
      obtain ⟨cn, hcn⟩ : ∃ cn, cn = (kGet q l).getD 0 := ⟨_, rfl⟩
      have hkn : cn = kidsN T q := by rw [hcn, hcnt, hps, count_paths]
      have htold : toldOf T q = ⟨q, n.data, { n.stat with len := n.data.length, kids := cn }⟩ := by
        rw [toldOf, hn, hkn]
      rcases hkg : kGet q l with _ | n1
      all_goals
        rw [hkg] at hcn
        conv => lhs; whnf
        refine (hD _).2 ⟨(⟨T, B, O, t⟩, q, n, cn), ⟨by rw [hcn]; rfl, TreeAt_sub hT (hAs.trans hLA), hn⟩, fun v A4 hq4 => ?_⟩
        obtain ⟨s4, vd, rfl, hS4⟩ : Ak.Sub A4 ∧ ∃ vd, v = nodeV q vd { n.stat with len := n.data.length, kids := cn } ∧ SlB (A4.minus Ak) vd n.data := hq4
        obtain ⟨ad, kd, rfl⟩ := hS4.1.form
        conv => lhs; whnf
        refine (hD _).2 fun gb A5 hN => ?_
        obtain ⟨x, hx⟩ : ∃ x : ToldD × Value, x = (toldOf T q, .slice ad n.data.length kd) := ⟨_, rfl⟩
        have hNx : A4.New A5 gb (nodeC x).toArray 49 := by rw [hx, htold]; exact hN
        have hxl : (nodeC x).length = 12 := rfl
        have hKA4 := hKA.trans s4
        obtain ⟨K', hK'⟩ : ∃ K' : Arena, K' = K.plus (A4.minus Ak) := ⟨_, rfl⟩
        have hKK : K.Sub K' := by rw [hK']; exact plus_l _ _
        have hNK : (A4.minus Ak).Sub K' := by
          rw [hK']
          refine plus_r fun j o hj => ?_
          cases hKj : K.blk j with
          | none => rfl
          | some o' => rw [minus_none _ (hKA _ _ hKj)] at hj; cases hj
        have hK4 : K'.Sub A4 := fun j o hj => by
          rw [hK'] at hj
          rcases plus_cases hj with hj | ⟨_, hj⟩
          · exact hKA4 _ _ hj
          · exact (minus_blk hj).2
        have hG4 : GrowR K' Ak 12 49 k v0 (rs.flatMap nodeC) := grow_know hGr fun j o h1 h2 => by
          rw [hK', plus_blk, h1]; exact minus_none _ h2
        have hG5 := (hG4.sub s4).sub hN.sub
        have hK5 := hK4.trans hN.sub
        have hd5 : ∀ j, A5.blk j = none → K'.blk j = none := fun j hj => by
          cases h1 : K'.blk j with
          | none => rfl
          | some o => rw [hK5 _ _ h1] at hj; cases hj
        obtain ⟨base, c9, rfl, hbase, hP, hA⟩ := hG5.form
        have hP := hP 120 (by omega) (by omega)
        have hrow : A5.rd gb 0 (1 * 12) = some (nodeC x) := hNx.rd (o := 0) (n := 1 * 12) (by rw [List.size_toArray, hxl]; omega)
        rcases hbase with rfl | ⟨g0, rfl⟩ <;> (conv => lhs; whnf)
        all_goals
          refine (hD _).2 ⟨rs.flatMap nodeC, nodeC x, hP.rd, ?_, rfl, ?_, ?_, hP.cap, rfl, hP.none_, fun g' o' he' hle' _ => hP.room 12 rfl g' o' he' hle', fun v A6 hAp => ?_⟩
          · show (if 1 * 12 = 0 then some [] else A5.rd gb 0 (1 * 12)) = _
            rw [if_neg (by omega)]; exact hrow
          · intro v hv
            rw [hx] at hv
            simp only [nodeC, StatD.cells, List.mem_cons, List.not_mem_nil, or_false] at hv
            rcases hv with rfl | rfl | rfl | rfl | rfl | rfl | rfl | rfl | rfl | rfl | rfl | rfl <;> rfl
          · show k + 1 ≤ 9223372036854775807
            omega
          · obtain ⟨hG6, hk6⟩ := hA _ _ _ rfl hd5 hAp
            have hK6 : K'.Sub A6 := fun j o hj => by rw [hk6 j o hj]; exact hK5 _ _ hj
            have hg6 : (allInv2 A As T ps).G (⟨k + 1, A6, K', v, rs ++ [x]⟩ : A2G) := by
              refine ⟨by show k + 1 ≤ ps.length; omega, hK6, hLK.trans hKK, ?_, ?_, fun y hy => ?_⟩
              · show GrowR K' A6 12 49 (k + 1) v ((rs ++ [x]).flatMap nodeC)
                rw [List.flatMap_append, List.flatMap_singleton]; exact hG6
              · show (rs ++ [x]).map (·.1) = (ps.take (k + 1)).map fun y => toldOf T (bytesOf y)
                rw [List.take_succ_eq_append_getElem hkl, List.map_append, List.map_append, hrs, List.map_singleton, List.map_singleton, ← hq, hx]
              · rcases List.mem_append.1 hy with hy | hy
                · exact (hdat y hy).sub (minus_mono hKK)
                · simp only [List.mem_singleton] at hy
                  subst hy
                  rw [hx, htold]
                  refine hS4.sub fun j o hj => ?_
                  have hAj : A.blk j = none := by
                    cases hAj : A.blk j with
                    | none => rfl
                    | some o' => rw [minus_none _ (hAs.trans hLA _ _ hAj)] at hj; cases hj
                  show (match A.blk j with
                    | none => K'.blk j
                    | some _ => none) = some o
                  rw [hAj]; exact hNK _ _ hj
            conv => lhs; whnf
            exact (hD _).2 ⟨(⟨k + 1, A6, K', v, rs ++ [x]⟩ : A2G), ⟨hg6, ⟨inc_slot (k := k) (by omega), rfl, trivial⟩, trivial, rfl⟩, by show ps.length - (k + 1) < ps.length - k; omega, ⟨rfl, rfl, rfl, rfl, rfl, trivial⟩, trivial⟩
    · have e : k = ps.length := by
        have hlt : ¬ (k : Int) < (ps.length : Int) := hlt
        omega
      subst e
      rw [List.take_length] at hrs
      have hrs : rs.map (·.1) = treeAll T := by rw [hrs, hps]; rfl
      have hl : (treeAll T).length = ps.length := by rw [treeAll, List.length_map, hps]
      have hend : allS.post ⟨T, B, O, t⟩ [.pointer (some ⟨t, 0, none⟩)] A v0 Ak := by
        refine ⟨hAs.trans (hLK.trans hKA), rs, hrs, ?_, fun x hx => (hdat x hx).sub (minus_mono hKA)⟩
        rw [hl]
        exact grow_sl hGr (hAs.trans hLK)
      exact (hD _).2 hend

end
end Go.Proofs.YtbebacffaljckaaGreatDoor

namespace Go.Proofs.YtbebacffaljckaaGreatDoor
open Go.Sx Go.RowKit
noncomputable section
open Classical

def NodesR (A : Arena) (v : Value) (l : List (ToldD × Value)) : Prop := Sl A 12 l.length v (l.flatMap nodeC) ∧ ∀ x ∈ l, SlB A x.2 x.1.data

theorem treeSits_len (T : TreeD) : (treeSits T).length = T.seats.length := by rw [treeSits, List.length_map, sortI_length, List.length_map]
theorem treeAll_len (T : TreeD) : (treeAll T).length = T.nodes.length := by rw [treeAll, List.length_map, treePaths, sortL_length, List.length_map]

theorem nodesR_of {A B : Arena} {v : Value} {ns : List ToldD} (h : NodesS A v ns) (hs : A.Sub B) : ∃ l : List (ToldD × Value), l.map (·.1) = ns ∧ NodesR B v l := by
  obtain ⟨l, h1, h2, h3⟩ := h
  have hl : l.length = ns.length := by rw [← h1, List.length_map]
  exact ⟨l, h1, by rw [hl]; exact h2.sub hs, fun x hx => (h3 x hx).sub hs⟩

/-- Do two trees tell the same? -/
def TSame (T U : TreeD) : Prop := treeAll T = treeAll U ∧ treeSits T = treeSits U

def TFits (T : TreeD) : Prop := SeatsOk T ∧ T.nodes.length ≤ 1000000 ∧ T.seats.length ≤ 1000000

end
end Go.Proofs.YtbebacffaljckaaGreatDoor

namespace Go.Sx
noncomputable section

/-- What an append of m elements to it asks. -/
structure GrowM (A : Arena) (base : Option (Nat × Nat)) (n m c es bytes : Nat) (cs : List Value) : Prop where
  rd : baseRd A base (n * es) = some cs
  cap : c < n + m → Builtin.nextslicecap (n + m) c * bytes ≤ 281474976710656
  none_ : base = none → n = 0 ∧ c = 0
  room : ∀ (k : Nat), k = m * es → ∀ g o, base = some (g, o) → n + m ≤ c → A.Room g (o + n * es) k

theorem GrowR.formN {A1 A : Arena} {es : Nat} {e : TypeId} {n : Nat} {v : Value} {cs : List Value} (h : GrowR A1 A es e n v cs) :
    ∃ base c, v = .slice (addrA base) n c ∧ (base = none ∨ ∃ g, base = some (g, 0)) ∧ (∀ m bytes, bytes ≤ 65536 → n + m ≤ 1000000000 → GrowM A base n m c es bytes cs) ∧
    ∀ m ys v' A', ys.length = m * es → (∀ k, A.blk k = none → A1.blk k = none) → Appended A base n c es e cs ys m v' A' → GrowR A1 A' es e (n + m) v' (cs ++ ys) ∧ ∀ k o, A1.blk k = some o → A'.blk k = A.blk k := by
  obtain ⟨hl, ⟨rfl, rfl⟩ | ⟨g, nc, c, rfl, hn, hpos, hg, hb, hsz, ht⟩⟩ := h
  · have hcs : cs = [] := List.length_eq_zero_iff.1 (by rw [hl]; simp)
    subst hcs
    refine ⟨none, 0, rfl, .inl rfl, fun m bytes hby hn => ⟨by simp [baseRd], fun h => ?_, fun _ => ⟨rfl, rfl⟩, fun _ _ _ _ h => (by cases h)⟩, fun m ys v' A' hy hd ha => ?_⟩
    · have := nextcap_le h
      calc _ ≤ (2 * (0 + m) + 768) * 65536 := Nat.mul_le_mul this hby
        _ ≤ _ := by omega
    · rcases ha with ⟨h0, rfl, h3⟩ | ⟨hlt, g, nc, c, zs, rfl, hnc, hc, hz, hN⟩
      · have hm : m = 0 := by omega
        subst hm
        have hys : ys = [] := List.length_eq_zero_iff.1 (by rw [hy]; simp)
        subst hys
        rcases h3 with ⟨_, rfl⟩ | ⟨g, o, h, _⟩
        · exact ⟨GrowR.nil _ _ _ _, fun _ _ _ => rfl⟩
        · cases h
      · refine ⟨⟨by simp [hy], .inr ⟨g, nc, c, rfl, hnc, by omega, hd g hN.none_, hN.at_, ?_, ?_⟩⟩, fun k o hk => hN.other k fun e => (by subst e; rw [hd _ hN.none_] at hk; cases hk)⟩
        · rw [← Array.length_toList, hc]
          simp only [List.nil_append, List.length_append, hy, hz, Nat.zero_add]
          rw [← Nat.add_mul]; congr 1; omega
        · rw [hc, Nat.zero_add, List.nil_append, List.take_append_of_le_length (by omega), List.take_of_length_le (by omega)]
  · have hle : n * es ≤ nc * es := Nat.mul_le_mul_right _ hn
    refine ⟨some (g, 0), nc, rfl, .inr ⟨g, rfl⟩, fun m bytes hby hnb => ⟨?_, fun h => ?_, fun h => (by cases h), fun k hk g' o' h hlt => ?_⟩, fun m ys v' A' hy hd ha => ?_⟩
    · show (if n * es = 0 then some [] else A.rd g 0 (n * es)) = some cs
      by_cases h0 : n * es = 0
      · rw [if_pos h0]
        rw [h0] at hl; rw [List.length_eq_zero_iff.1 hl]
      · rw [if_neg h0, rd_mk hb (by omega)]; simp [ht]
    · have := nextcap_le h
      calc _ ≤ (2 * (n + m) + 768) * 65536 := Nat.mul_le_mul this hby
        _ ≤ _ := by omega
    · injection h with h; injection h with h1 h2; subst h1; subst h2; subst hk
      refine ⟨c, e, (0, 0), hb, ?_, .inl rfl⟩
      have := Nat.mul_le_mul_right es hlt
      rw [Nat.add_mul] at this; omega
    · rcases ha with ⟨h0, rfl, h3⟩ | ⟨h0, g', nc', c', zs, rfl, hnc, hc, hz, hN⟩
      · obtain ⟨c', k1, k2, k3⟩ : ∃ c', A'.blk g = some (.cells c' e (0, 0)) ∧ (∀ k, k ≠ g → A'.blk k = A.blk k) ∧ c'.toList = c.toList.take (n * es) ++ ys ++ c.toList.drop (n * es + ys.length) := by
          rcases h3 with ⟨rfl, rfl⟩ | ⟨g', o', h, hP⟩
          · exact ⟨c, hb, fun _ _ => rfl, by simp⟩
          · injection h with h; injection h with h1 h2; subst h1; subst h2
            obtain ⟨c0, t0, fz0, c', k1, k2, k3⟩ := hP.at_
            rw [hb] at k1
            injection k1 with k1; injection k1 with k1 k1' k1''
            subst k1; subst k1'; subst k1''
            exact ⟨c', k2, hP.other, by rw [k3]; simp⟩
        have hlen : n * es + m * es ≤ nc * es := by rw [← Nat.add_mul]; exact Nat.mul_le_mul_right _ h0
        have hcl : (cs ++ ys).length = (n + m) * es := by rw [List.length_append, hl, hy, Nat.add_mul]
        refine ⟨⟨hcl, .inr ⟨g, nc, c', rfl, h0, hpos, hg, k1, ?_, ?_⟩⟩, fun k o hk => k2 k fun e => (by subst e; rw [hg] at hk; cases hk)⟩
        · rw [← Array.length_toList, k3]
          simp only [List.length_append, List.length_take, List.length_drop, Array.length_toList, hsz, hy]
          omega
        · rw [k3, ht, List.take_append_of_le_length (by omega), List.take_of_length_le (by omega)]
      · have hcl : (cs ++ ys).length = (n + m) * es := by rw [List.length_append, hl, hy, Nat.add_mul]
        refine ⟨⟨hcl, .inr ⟨g', nc', c', rfl, hnc, by omega, hd g' hN.none_, hN.at_, ?_, ?_⟩⟩, fun k o hk => hN.other k fun e => (by subst e; rw [hd _ hN.none_] at hk; cases hk)⟩
        · rw [← Array.length_toList, hc]
          simp only [List.length_append, hl, hy, hz]
          rw [← Nat.add_mul, ← Nat.add_mul]; congr 1; omega
        · rw [hc, List.take_append_of_le_length (by omega), List.take_of_length_le (by omega)]

theorem addrA_inj {b b' : Option (Nat × Nat)} (h : addrA b = addrA b') : b = b' := by
  cases b with
  | none => cases b' with
    | none => rfl
    | some y => cases h
  | some x => cases b' with
    | none => cases h
    | some y =>
      obtain ⟨g, o⟩ := x
      obtain ⟨g', o'⟩ := y
      injection h with h
      injection h with h1 h2
      rw [h1, h2]

/-- The same, where the slice is spelled out. -/
theorem GrowR.formB {A1 A : Arena} {es : Nat} {e : TypeId} {n c : Nat} {base : Option (Nat × Nat)} {cs : List Value} (h : GrowR A1 A es e n (.slice (addrA base) n c) cs) :
    (∀ m bytes, bytes ≤ 65536 → n + m ≤ 1000000000 → GrowM A base n m c es bytes cs) ∧
    ∀ m ys v' A', ys.length = m * es → (∀ k, A.blk k = none → A1.blk k = none) → Appended A base n c es e cs ys m v' A' → GrowR A1 A' es e (n + m) v' (cs ++ ys) ∧ ∀ k o, A1.blk k = some o → A'.blk k = A.blk k := by
  obtain ⟨b', c', hv, _, h1, h2⟩ := h.formN
  injection hv with hv1 hv2 hv3
  have e := addrA_inj hv1
  subst e; subst hv3
  exact ⟨h1, h2⟩

theorem GrowR.cap_le {A1 A : Arena} {es : Nat} {e : TypeId} {n m c : Nat} {ao : Option Addr} {cs : List Value} (h : GrowR A1 A es e n (.slice ao m c) cs) : n ≤ c := by
  obtain ⟨_, ⟨rfl, h⟩ | ⟨g, nc, _, h, hn, _⟩⟩ := h
  · omega
  · injection h with h1 h2 h3
    omega

/-- What lies at the front of a row. -/
theorem src_take {A : Arena} {g o n q : Nat} {α : Type} {f : α → Value} {l : List α} (h : A.rd g 0 (n * 1) = some (l.map f)) (hq : q ≤ n) (ho : o = 0) : (if q = 0 then some [] else A.rd g o (q * 1)) = some ((l.take q).map f) := by
  subst ho
  by_cases h0 : q = 0
  · rw [if_pos h0, h0, List.take_zero]; rfl
  · rw [if_neg h0]
    have := rd_at h (i := 0) (m := q * 1) (by omega)
    rw [Nat.add_zero, List.drop_zero, Nat.mul_one, ← List.map_take] at this
    rw [Nat.mul_one]
    exact this

/-- What lies behind. -/
theorem src_drop {A : Arena} {g o n q : Nat} {α : Type} {f : α → Value} {l : List α} (h : A.rd g 0 (n * 1) = some (l.map f)) (hn : n = l.length) (ho : q < n → o = q) : (if n - q = 0 then some [] else A.rd g o ((n - q) * 1)) = some ((l.drop q).map f) := by
  by_cases h0 : n - q = 0
  · rw [if_pos h0, List.drop_eq_nil_of_le (by omega)]; rfl
  · rw [if_neg h0, ho (by omega)]
    have := rd_at h (i := q) (m := (n - q) * 1) (by omega)
    rw [Nat.zero_add] at this
    rw [this, ← List.map_drop, List.take_of_length_le (by rw [List.length_map, List.length_drop]; omega)]

/-- A row made by append, as a slice. -/
theorem GrowR.sl {A1 A : Arena} {es : Nat} {e : TypeId} {n : Nat} {v : Value} {cs : List Value} (h : GrowR A1 A es e n v cs) : Sl A es n v cs := by
  obtain ⟨h1, ⟨rfl, rfl⟩ | ⟨g, nc, c, rfl, h4, h4', h5, h6, h7, h8⟩⟩ := h
  · have hc : cs = [] := List.length_eq_zero_iff.1 (by rw [h1]; simp)
    subst hc
    exact Sl.nil _ _
  · have hle : n * es ≤ nc * es := Nat.mul_le_mul_right _ h4
    refine Sl.row h4 ?_
    rw [rd_mk h6 (by omega), List.drop_zero, h8]

end
end Go.Sx

namespace Go.Sx
noncomputable section

theorem flatN_len {α : Type} {enc : α → List Value} {es : Nat} (he : ∀ x, (enc x).length = es) : ∀ l : List α, (l.flatMap enc).length = l.length * es
  | [] => by simp
  | x :: l => by rw [List.flatMap_cons, List.length_append, he, flatN_len he l, List.length_cons, Nat.succ_mul]; omega

theorem flat_takeN {α : Type} {enc : α → List Value} {es : Nat} (he : ∀ x, (enc x).length = es) : ∀ (q : Nat) (l : List α), (l.flatMap enc).take (q * es) = (l.take q).flatMap enc
  | 0, _ => by simp
  | q + 1, [] => by simp
  | q + 1, x :: l => by
    have e1 : (q + 1) * es - (enc x).length = q * es := by rw [he, Nat.succ_mul]; omega
    have e2 : (enc x).take ((q + 1) * es) = enc x := List.take_of_length_le (by rw [he, Nat.succ_mul]; omega)
    rw [List.flatMap_cons, List.take_append, e1, e2, flat_takeN he q l, List.take_succ_cons, List.flatMap_cons]

theorem flat_dropN {α : Type} {enc : α → List Value} {es : Nat} (he : ∀ x, (enc x).length = es) : ∀ (q : Nat) (l : List α), (l.flatMap enc).drop (q * es) = (l.drop q).flatMap enc
  | 0, _ => by simp
  | q + 1, [] => by simp
  | q + 1, x :: l => by
    have e1 : (q + 1) * es - (enc x).length = q * es := by rw [he, Nat.succ_mul]; omega
    have e2 : (enc x).drop ((q + 1) * es) = [] := List.drop_eq_nil_of_le (by rw [he, Nat.succ_mul]; omega)
    rw [List.flatMap_cons, List.drop_append, e1, e2, flat_dropN he q l, List.drop_succ_cons, List.nil_append]

theorem srcN_take {A : Arena} {g o n q es : Nat} {α : Type} {enc : α → List Value} (he : ∀ x, (enc x).length = es) {l : List α} (h : A.rd g 0 (n * es) = some (l.flatMap enc)) (hq : q ≤ n) (ho : o = 0) : (if q = 0 then some [] else A.rd g o (q * es)) = some ((l.take q).flatMap enc) := by
  subst ho
  by_cases h0 : q = 0
  · rw [if_pos h0, h0, List.take_zero]; rfl
  · rw [if_neg h0]
    have := rd_at h (i := 0) (m := q * es) (by rw [Nat.zero_add]; exact Nat.mul_le_mul_right _ hq)
    rw [Nat.add_zero, List.drop_zero, flat_takeN he] at this
    exact this

theorem srcN_drop {A : Arena} {g o n q es : Nat} {α : Type} {enc : α → List Value} (he : ∀ x, (enc x).length = es) {l : List α} (h : A.rd g 0 (n * es) = some (l.flatMap enc)) (hn : n = l.length) (ho : q < n → o = q * es) : (if n - q = 0 then some [] else A.rd g o ((n - q) * es)) = some ((l.drop q).flatMap enc) := by
  by_cases h0 : n - q = 0
  · rw [if_pos h0, List.drop_eq_nil_of_le (by omega)]; rfl
  · rw [if_neg h0, ho (by omega)]
    have hle : q * es + (n - q) * es ≤ n * es := by rw [← Nat.add_mul]; exact Nat.mul_le_mul_right _ (by omega)
    have := rd_at h (i := q * es) (m := (n - q) * es) hle
    rw [Nat.zero_add, flat_dropN he] at this
    rw [this, List.take_of_length_le]
    rw [flatN_len he, List.length_drop]
    exact Nat.mul_le_mul_right _ (by omega)

end
end Go.Sx

namespace Go.Proofs.YtbebacffaljckaaGreatDoor
open Go.Sx Go.RowKit
noncomputable section
open Classical

/-- A row in a block of its own (wherever, where it has no elements). -/
def RowIn (A : Arena) (g es : Nat) (e : TypeId) (n : Nat) (v : Value) (cs : List Value) : Prop :=
  cs.length = n * es ∧ ∃ ao c, v = .slice ao n c ∧ n ≤ c ∧ (ao = none → c = 0) ∧ (∀ a, ao = some a → a.spot = none) ∧
    (0 < n → ao = some ⟨g, 0, none⟩ ∧ ∃ cc, A.blk g = some (.cells cc e (0, 0)) ∧ n * es ≤ cc.size ∧ cc.toList.take (n * es) = cs)

theorem RowIn.sl {A : Arena} {g es : Nat} {e : TypeId} {n : Nat} {v : Value} {cs : List Value} (h : RowIn A g es e n v cs) : Sl A es n v cs := by
  obtain ⟨h1, ao, c, h2, h3, h4, h5, h6⟩ := h
  refine ⟨ao, c, h2, h3, h1, h4, fun a ha _ => h5 a ha, fun hn a ha => ?_⟩
  obtain ⟨h7, cc, h8, h9, h10⟩ := h6 hn
  rw [h7] at ha
  injection ha with ha
  subst ha
  show A.rd g 0 (n * es) = some cs
  rw [rd_mk h8 (by omega), List.drop_zero, h10]

theorem RowIn.form {A : Arena} {g es : Nat} {e : TypeId} {n : Nat} {v : Value} {cs : List Value} (h : RowIn A g es e n v cs) : ∃ ao c, v = .slice ao n c ∧ n ≤ c ∧ (0 < n → ao = some ⟨g, 0, none⟩) := by
  obtain ⟨h1, ao, c, h2, h3, h4, h5, h6⟩ := h
  exact ⟨ao, c, h2, h3, fun hn => (h6 hn).1⟩

theorem RowIn.keep {A A' : Arena} {g es : Nat} {e : TypeId} {n : Nat} {v : Value} {cs : List Value} (h : RowIn A g es e n v cs) (hk : 0 < n → A'.blk g = A.blk g) : RowIn A' g es e n v cs := by
  obtain ⟨h1, ao, c, h2, h3, h4, h5, h6⟩ := h
  refine ⟨h1, ao, c, h2, h3, h4, h5, fun hn => ?_⟩
  obtain ⟨h7, cc, h8, h9, h10⟩ := h6 hn
  exact ⟨h7, cc, by rw [hk hn]; exact h8, h9, h10⟩

theorem RowIn.nil (A : Arena) (g es : Nat) (e : TypeId) : RowIn A g es e 0 (.slice none 0 0) [] :=
  ⟨by simp, none, 0, rfl, Nat.le_refl _, fun _ => rfl, fun a h => (by cases h), fun h => absurd h (Nat.lt_irrefl _)⟩

/-- What was made by append. -/
theorem RowIn.grown {K A : Arena} {es : Nat} {e : TypeId} {n : Nat} {v : Value} {cs : List Value} (h : GrowR K A es e n v cs) (g0 : Nat) : ∃ g, RowIn A g es e n v cs ∧ (0 < n → K.blk g = none) ∧ (n = 0 → g = g0) := by
  obtain ⟨h1, ⟨rfl, rfl⟩ | ⟨g, nc, c, rfl, h4, h4', h5, h6, h7, h8⟩⟩ := h
  · have hc : cs = [] := List.length_eq_zero_iff.1 (by rw [h1]; simp)
    subst hc
    exact ⟨g0, RowIn.nil _ _ _ _, fun h => absurd h (Nat.lt_irrefl _), fun _ => rfl⟩
  · have hle : n * es ≤ nc * es := Nat.mul_le_mul_right _ h4
    by_cases hn : n = 0
    · refine ⟨g0, ⟨h1, _, nc, rfl, h4, fun h => (by cases h), fun a ha => (by injection ha with ha; subst ha; rfl), fun h => by omega⟩, fun h => by omega, fun _ => rfl⟩
    · exact ⟨g, ⟨h1, _, nc, rfl, h4, fun h => (by cases h), fun a ha => (by injection ha with ha; subst ha; rfl), fun _ => ⟨rfl, c, h6, by omega, h8⟩⟩, fun _ => h5, fun h => absurd h hn⟩

structure RefR (A B : Arena) (O : Nat → Prop) (r : Nat) (l : List (ToldD × Value)) (S : List SitD) (vn vs : Value) (gn gs : Nat) : Prop where
  top : CellsAt A r [vn, vs]
  nrow : RowIn A gn 12 49 l.length vn (l.flatMap nodeC)
  srow : RowIn A gs 3 59 S.length vs (S.flatMap sitC)
  data : ∀ x ∈ l, SlB B x.2 x.1.data
  sub : B.Sub A
  own : O r ∧ (0 < l.length → O gn) ∧ (0 < S.length → O gs)
  off : ∀ k, O k → B.blk k = none
  live : ∀ k, O k → ∃ o, A.blk k = some o
  ne : (0 < l.length → gn ≠ r) ∧ (0 < S.length → gs ≠ r) ∧ (0 < l.length → 0 < S.length → gn ≠ gs)

/-- The document's tree in block r: its nodes in rising order, its sittings. -/
def RefAt (A B : Arena) (O : Nat → Prop) (r : Nat) (N : List ToldD) (S : List SitD) : Prop := ∃ l vn vs gn gs, l.map (·.1) = N ∧ RefR A B O r l S vn vs gn gs

def RefTo (A B : Arena) (O : Nat → Prop) (r : Nat) (N : List ToldD) (S : List SitD) (A' : Arena) : Prop := ∃ B' O', RefAt A' B' O' r N S ∧ Step A B O A' B' O'

theorem RefR.frame {A B A' : Arena} {O : Nat → Prop} {r : Nat} {l : List (ToldD × Value)} {S : List SitD} {vn vs : Value} {gn gs : Nat} (h : RefR A B O r l S vn vs gn gs) (hO : ∀ k, O k → A'.blk k = A.blk k) (hB : B.Sub A') : RefR A' B O r l S vn vs gn gs :=
  ⟨h.top.sub fun o ho => by rw [hO r h.own.1]; exact ho, h.nrow.keep fun hn => hO gn (h.own.2.1 hn), h.srow.keep fun hn => hO gs (h.own.2.2 hn), h.data, hB, h.own, h.off, fun k hk => by rw [hO k hk]; exact h.live k hk, h.ne⟩

theorem RefAt.frame {A B A' : Arena} {O : Nat → Prop} {r : Nat} {N : List ToldD} {S : List SitD} (h : RefAt A B O r N S) (hO : ∀ k, O k → A'.blk k = A.blk k) (hB : B.Sub A') : RefAt A' B O r N S := by
  obtain ⟨l, vn, vs, gn, gs, hl, h⟩ := h
  exact ⟨l, vn, vs, gn, gs, hl, h.frame hO hB⟩

theorem RefAt.more {A B A' : Arena} {O : Nat → Prop} {r : Nat} {N : List ToldD} {S : List SitD} (h : RefAt A B O r N S) (hs : A.Sub A') : RefAt A' B O r N S := by
  obtain ⟨l, vn, vs, gn, gs, hl, h⟩ := h
  exact ⟨l, vn, vs, gn, gs, hl, h.frame (fun k hk => by
    obtain ⟨o, ho⟩ := h.live k hk
    rw [hs k o ho, ho]) (h.sub.trans hs)⟩

/-- What a change leaves, but for what the nodes' data lie in. -/
structure Kept (A : Arena) (O : Nat → Prop) (A' : Arena) (O' : Nat → Prop) : Prop where
  keep : ∀ k o, A.blk k = some o → ¬ O k → A'.blk k = some o
  dom : ∀ k, A'.blk k = none → A.blk k = none
  own : ∀ k, O' k → O k ∨ A.blk k = none

/-- The tree gets another row of nodes. -/
theorem RefR.nodesG {A B A2 A3 B' : Arena} {O : Nat → Prop} {r : Nat} {l : List (ToldD × Value)} {S : List SitD} {vn vs : Value} {gn gs : Nat} (h : RefR A B O r l S vn vs gn gs) {l' : List (ToldD × Value)} {v : Value} (hA2 : A.Sub A2) (hG : GrowR A A2 12 49 l'.length v (l'.flatMap nodeC))
    (hB2 : B'.Sub A2) (hoff : ∀ k, O k → B'.blk k = none) (hrow : ∀ g, A.blk g = none → RowIn A2 g 12 49 l'.length v (l'.flatMap nodeC) → 0 < l'.length → B'.blk g = none) (hd : ∀ x ∈ l', SlB B' x.2 x.1.data) (hP : A2.Put A3 r 0 [v]) : ∃ O', RefAt A3 B' O' r (l'.map (·.1)) S ∧ Kept A O A3 O' := by
  obtain ⟨g, hR, hg, _⟩ := RowIn.grown hG 0
  obtain ⟨orr, hor⟩ := h.live r h.own.1
  have hBr : B'.blk r = none := hoff r h.own.1
  have hgr : 0 < l'.length → g ≠ r := fun hn e => by
    have := hg hn
    rw [e, hor] at this; cases this
  have hgs : 0 < l'.length → 0 < S.length → g ≠ gs := fun hn hs e => by
    obtain ⟨o, ho⟩ := h.live gs (h.own.2.2 hs)
    have := hg hn
    rw [e, ho] at this; cases this
  refine ⟨fun k => O k ∨ (0 < l'.length ∧ k = g), ⟨l', v, vs, g, gs, rfl, ?_⟩, fun k o hk hO => ?_, fun k hk => ?_, fun k hk => ?_⟩
  · refine ⟨?_, hR.keep fun hn => hP.other g (hgr hn), h.srow.keep fun hs => ?_, hd, fun k o hk => ?_, ⟨.inl h.own.1, fun hn => .inr ⟨hn, rfl⟩, fun hs => .inl (h.own.2.2 hs)⟩, fun k hk => ?_, fun k hk => ?_, hgr, h.ne.2.1, hgs⟩
    · have := (h.top.sub fun o ho => hA2 _ _ ho).put hP (by show 0 + 1 ≤ 2; omega)
      exact this
    · obtain ⟨o, ho⟩ := h.live gs (h.own.2.2 hs)
      rw [hP.other gs (h.ne.2.1 hs), hA2 _ _ ho, ho]
    · rw [hP.other k fun e => by rw [e, hBr] at hk; cases hk]
      exact hB2 k o hk
    · rcases hk with hk | ⟨hn, rfl⟩
      · exact hoff k hk
      · exact hrow _ (hg hn) hR hn
    · by_cases e : k = r
      · obtain ⟨c0, t0, fz0, c1, k1, k2, _⟩ := hP.at_
        rw [e]
        exact ⟨_, k2⟩
      · rw [hP.other k e]
        rcases hk with hk | ⟨hn, rfl⟩
        · obtain ⟨o, ho⟩ := h.live k hk
          exact ⟨o, hA2 _ _ ho⟩
        · obtain ⟨_, ao, c, _, _, _, _, h6⟩ := hR
          obtain ⟨_, cc, h8, _⟩ := h6 hn
          exact ⟨_, h8⟩
  · rw [hP.other k fun e => hO (e ▸ h.own.1)]
    exact hA2 k o hk
  · have h2 := (hP.dom k).1 hk
    cases hb : A.blk k with
    | none => rfl
    | some o => rw [hA2 k o hb] at h2; cases h2
  · rcases hk with hk | ⟨hn, rfl⟩
    · exact .inl hk
    · exact .inr (hg hn)

theorem RefR.nodes {A B A2 A3 : Arena} {O : Nat → Prop} {r : Nat} {l : List (ToldD × Value)} {S : List SitD} {vn vs : Value} {gn gs : Nat} (h : RefR A B O r l S vn vs gn gs) {l' : List (ToldD × Value)} {v : Value} (hA2 : A.Sub A2) (hG : GrowR A A2 12 49 l'.length v (l'.flatMap nodeC)) (hd : ∀ x ∈ l', SlB B x.2 x.1.data) (hP : A2.Put A3 r 0 [v]) :
    ∃ O', RefAt A3 B O' r (l'.map (·.1)) S ∧ Kept A O A3 O' :=
  h.nodesG hA2 hG (h.sub.trans hA2) h.off (fun g hg _ _ => by
    cases hb : B.blk g with
    | none => rfl
    | some o => have := h.sub _ _ hb; rw [hg] at this; cases this) hd hP

/-! ### find -/

def findI (N : List ToldD) (p : ByteArray) : Int := match N.findIdx? fun x => decide (x.path = p) with
  | some i => (i : Nat)
  | none => -1

theorem findI_at {N : List ToldD} {p : ByteArray} {k : Nat} (hk : k < N.length) (h0 : ∀ i (h : i < N.length), i < k → N[i].path ≠ p) (h1 : N[k].path = p) : findI N p = (k : Nat) := by
  have h : N.findIdx? (fun x => decide (x.path = p)) = some k := by
    rw [List.findIdx?_eq_some_iff_getElem]
    refine ⟨hk, by simpa using h1, fun i hi => ?_⟩
    simpa using h0 i (by omega) hi
  unfold findI
  rw [h]

theorem findI_no {N : List ToldD} {p : ByteArray} (h0 : ∀ x ∈ N, x.path ≠ p) : findI N p = -1 := by
  have h : N.findIdx? (fun x => decide (x.path = p)) = none := by
    rw [List.findIdx?_eq_none_iff]
    intro x hx
    simpa using h0 x hx
  unfold findI
  rw [h]

structure RG where
  N : List ToldD
  S : List SitD
  B : Arena
  O : Nat → Prop
  r : Nat

def findS : FSpec := ⟨RG × ByteArray, fun g vs A => vs = [.pointer (some ⟨g.1.r, 0, none⟩), .string g.2] ∧ RefAt A g.1.B g.1.O g.1.r g.1.N g.1.S ∧ g.1.N.length ≤ 1000000,
  fun g _ A v A' => A' = A ∧ v = .int .i64 (findI g.1.N g.2)⟩

set_option maxRecDepth 100000 in
set_option maxHeartbeats 0 in
theorem find_ok : FOk Tryz.prog 56 findS := by
  refine fok_v mixed fun ⟨⟨N, S, B, O, r⟩, p⟩ vs A hp => ?_
  obtain ⟨rfl, ⟨l, vn, vs', gn, gs, rfl, h⟩, hN⟩ : vs = [.pointer (some ⟨r, 0, none⟩), .string p] ∧ RefAt A B O r N S ∧ N.length ≤ 1000000 := hp
  rw [List.length_map] at hN
  refine ⟨noC, tabO Tryz.prog noC noL 60 [(56, 0)], 60, noC_sound _, tabO_sound mixed (noC_sound _) (noL_sound _) _ _, fun blk os out tape D hD => ?_⟩
  obtain ⟨ao, c, rfl, hc, hao⟩ := h.nrow.form
  have htop : A.rd r 0 1 = some [.slice ao l.length c] := h.top.rd (o := 0) (n := 1) (by show 0 + 1 ≤ 2; omega)
  conv => lhs; whnf
  refine (hD _).2 ⟨cnt A 5 [0, 1] [] l.length fun k => ∀ i (h : i < l.length), i < k → l[i].1.path ≠ p, ⟨(0 : Nat), ⟨Nat.zero_le _, fun i _ h => absurd h (Nat.not_lt_zero i)⟩, ⟨rfl, trivial⟩, trivial, rfl⟩, fun (k : Nat) hk => ⟨⟨trivial, trivial⟩, trivial, ?_⟩⟩
  simp only [cnt] at hk
  obtain ⟨hkl, hno⟩ := hk
  conv => lhs; whnf
  repeat (refine go_rd htop ?_
          conv => lhs; whnf)
  refine split_dec (fun hlt => ?_) (fun hlt => ?_) <;> (conv => lhs; whnf)
  · have hkl2 : k < l.length := by
      have hlt : (k : Int) < (l.length : Int) := hlt
      omega
    have e := hao (by omega)
    subst e
    obtain ⟨_, ao2, c2, e2, _, _, _, h6⟩ := h.nrow
    obtain ⟨_, cc, h8, h9, h10⟩ := h6 (by omega)
    have hra : A.rd gn 0 (l.length * 12) = some (l.flatMap nodeC) := by rw [rd_mk h8 (by omega), List.drop_zero, h10]
    have r1 := rd_at (row_at (enc := nodeC) (fun _ => rfl) hra k hkl2 rfl) (i := 0) (m := 1) (by omega)
    have r1 : A.rd gn (0 + k * 12) 1 = some [.string l[k].1.path] := r1
    have i0 : (0 : Int) ≤ (k : Int) ∧ (k : Int) < (l.length : Int) := by omega
    repeat (first | refine go_in i0 ?_ | refine go_rd htop ?_ | refine go_rd r1 ?_
            conv => lhs; whnf)
    refine split_b (fun he => ?_) (fun he => ?_) <;> (conv => lhs; whnf)
    · have e : l[k].1.path = p := bytes_ext (beqL_iff.1 he)
      have hend : findS.post (⟨l.map (·.1), S, B, O, r⟩, p) [] A (.int .i64 (k : Nat)) A := by
        refine ⟨rfl, ?_⟩
        show _ = Value.int .i64 (findI (l.map (·.1)) p)
        rw [findI_at (k := k) (by rw [List.length_map]; exact hkl2) (fun i hi hik => by rw [List.getElem_map]; exact hno i (by rw [List.length_map] at hi; exact hi) hik) (by rw [List.getElem_map]; exact e)]
      exact (hD _).2 hend
    · have e : l[k].1.path ≠ p := fun e => beqL_ff.1 he (by rw [e])
      refine (hD _).2 ⟨(k + 1 : Nat), ⟨⟨by omega, fun i hi hik => ?_⟩, ⟨inc_slot (by omega), trivial⟩, trivial, rfl⟩, by show l.length - (k + 1) < l.length - k; omega, ⟨same1 rfl rfl, same1 rfl rfl, trivial⟩, trivial⟩
      by_cases e2 : i = k
      · subst e2; exact e
      · exact hno i hi (by omega)
  · have e : k = l.length := by
      have hlt : ¬ (k : Int) < (l.length : Int) := hlt
      omega
    have hend : findS.post (⟨l.map (·.1), S, B, O, r⟩, p) [] A (.int .i64 (-1)) A := by
      refine ⟨rfl, ?_⟩
      show _ = Value.int .i64 (findI (l.map (·.1)) p)
      rw [findI_no]
      intro x hx
      obtain ⟨y, hy, rfl⟩ := List.mem_map.1 hx
      obtain ⟨i, hi, rfl⟩ := List.getElem_of_mem hy
      exact hno i hi (by omega)
    exact (hD _).2 hend

end
end Go.Proofs.YtbebacffaljckaaGreatDoor

namespace Go.Proofs.YtbebacffaljckaaGreatDoor
open Go.Sx Go.RowKit
noncomputable section
open Classical

theorem splitL_ne : ∀ l : List UInt8, splitL l ≠ []
  | [] => by simp [splitL]
  | b :: l => by
    simp only [splitL]
    cases hb : b == 47 with
    | true => simp
    | false =>
      simp only [cond_false]
      split <;> simp

theorem splitL_len : ∀ l : List UInt8, (splitL l).length = l.count 47 + 1
  | [] => rfl
  | b :: l => by
    have ih := splitL_len l
    simp only [splitL]
    cases hb : b == 47 with
    | true =>
      have e : b = 47 := by simpa using hb
      subst e
      simp [ih]
    | false =>
      have e : b ≠ 47 := by simpa using hb
      simp only [cond_false]
      rw [List.count_cons_of_ne e]
      cases hs : splitL l with
      | nil => exact absurd hs (splitL_ne l)
      | cons x xs => rw [hs] at ih; simpa using ih

/-- Where there is more than one part, the first one is cut off. -/
theorem splitL_step {l : List UInt8} (h : 2 ≤ (splitL l).length) : ∃ a b, l = a ++ 47 :: b ∧ Lib.index l [47] = a.length ∧ splitL l = a :: splitL b := by
  rcases index_cases l with ⟨_, h2⟩ | ⟨a, b, h1, h2, h3⟩
  · rw [splitL_none l h2] at h
    simp at h
  · exact ⟨a, b, h1, h3, by rw [h1, splitL_cut a b h2]⟩

theorem splitL_last : ∀ (a b : List UInt8), (∀ x ∈ b, x ≠ 47) → splitL (a ++ 47 :: b) = splitL a ++ [b]
  | [], b, h => by simp [splitL, splitL_none b h]
  | x :: a, b, h => by
    have ih := splitL_last a b h
    simp only [List.cons_append, splitL]
    cases hb : x == 47 with
    | true => simp [ih]
    | false =>
      simp only [cond_false, ih]
      cases hs : splitL a with
      | nil => exact absurd hs (splitL_ne a)
      | cons y ys => simp

theorem join_cons2 (x : List UInt8) (xs : List (List UInt8)) (h : xs ≠ []) : Lib.join (x :: xs) [47] = x ++ 47 :: Lib.join xs [47] := by
  cases xs with
  | nil => exact absurd rfl h
  | cons y ys =>
    rw [Lib.join_cons, Lib.join_cons]
    simp [Lib.joinTail]

theorem join_split : ∀ l : List UInt8, Lib.join (splitL l) [47] = l
  | [] => by simp [splitL, Lib.join_one]
  | b :: l => by
    have ih := join_split l
    simp only [splitL]
    cases hb : b == 47 with
    | true =>
      have e : b = 47 := by simpa using hb
      subst e
      rw [cond_true, join_cons2 [] _ (splitL_ne l), ih]
      rfl
    | false =>
      simp only [cond_false]
      cases hs : splitL l with
      | nil => exact absurd hs (splitL_ne l)
      | cons x xs =>
        rw [hs] at ih
        simp only
        by_cases hx : xs = []
        · subst hx
          rw [Lib.join_one] at ih ⊢
          rw [ih]
        · rw [join_cons2 _ _ hx] at ih ⊢
          rw [List.cons_append, ih]

theorem last_split : ∀ l : List UInt8, (∀ x ∈ l, x ≠ 47) ∨ ∃ a b, l = a ++ 47 :: b ∧ ∀ x ∈ b, x ≠ 47
  | [] => .inl (by simp)
  | x :: l => by
    rcases last_split l with h | ⟨a, b, h1, h2⟩
    · by_cases hx : x = 47
      · exact .inr ⟨[], l, by rw [hx]; rfl, h⟩
      · refine .inl fun y hy => ?_
        rcases List.mem_cons.1 hy with rfl | hy
        · exact hx
        · exact h y hy
    · exact .inr ⟨x :: a, b, by rw [h1]; rfl, h2⟩

theorem lastUp_app (a b : List UInt8) (hb : ∀ x ∈ b, x ≠ 47) : ∀ n, n ≤ b.length → lastUp (a ++ 47 :: b) 47 (a.length + 1 + n) = a.length
  | 0, _ => by
    rw [Nat.add_zero, lastUp, if_pos]
    simp
  | n + 1, h => by
    rw [show a.length + 1 + (n + 1) = (a.length + 1 + n) + 1 by omega, lastUp, if_neg]
    · exact lastUp_app a b hb n (by omega)
    · rw [List.getElem?_append_right (by omega), show a.length + 1 + n - a.length = n + 1 by omega, List.getElem?_cons_succ, List.getElem?_eq_getElem (by omega)]
      intro e
      injection e with e
      exact hb _ (List.getElem_mem _) e

theorem lastIdx_app (a b : List UInt8) (hb : ∀ x ∈ b, x ≠ 47) : lastIdx (a ++ 47 :: b) 47 = a.length := by
  unfold lastIdx
  have := lastUp_app a b hb b.length (Nat.le_refl _)
  rw [List.length_append, List.length_cons, show a.length + (b.length + 1) = a.length + 1 + b.length by omega]
  exact this

/-- What stands over a path: by its parts. -/
theorem parent_parts {q : List UInt8} (hk : pathOk (47 :: q) = true) (hq : q ≠ []) : (cutP (47 :: q)).1 = 47 :: Lib.join ((splitL q).dropLast) [47] ∧ some (cutP (47 :: q)).2 = (splitL q).getLast? := by
  have hc : pathOk (47 :: q) = true ∧ (47 :: q : List UInt8) ≠ [47] := ⟨hk, fun e => hq (by injection e)⟩
  rw [cutP, if_pos hc]
  rcases last_split q with h | ⟨a, b, h1, h2⟩
  · have hi : lastIdx (47 :: q) 47 = ((([] : List UInt8).length : Nat) : Int) := lastIdx_app [] q h
    have e0 : (max ((([] : List UInt8).length : Nat) : Int) 1).toNat = 1 := rfl
    have e1 : (((([] : List UInt8).length : Nat) : Int) + 1).toNat = 1 := rfl
    rw [hi, splitL_none q h, e0, e1]
    simp [Lib.join_nil]
  · have hi : lastIdx (47 :: q) 47 = (((47 :: a).length : Nat) : Int) := by rw [h1]; exact lastIdx_app (47 :: a) b h2
    rw [hi, h1, splitL_last a b h2, List.dropLast_concat, join_split]
    have e : (max (((47 :: a : List UInt8).length : Nat) : Int) 1).toNat = a.length + 1 := by
      rw [List.length_cons]; omega
    have e2 : ((((47 :: a : List UInt8).length : Nat) : Int) + 1).toNat = a.length + 2 := by
      rw [List.length_cons]; omega
    rw [e, e2]
    refine ⟨?_, ?_⟩
    · simp
    · simp

end
end Go.Proofs.YtbebacffaljckaaGreatDoor

namespace Go.Proofs.YtbebacffaljckaaGreatDoor
open Go.Sx Go.RowKit
noncomputable section
open Classical

theorem wrapI2 (k : Nat) (h : k < 1000000) : IntKind.i64.wrap ((k : Int) + 1) = ((k + 1 : Nat) : Int) := by
  rw [Sx.wrap_i64 (by omega) (by omega)]; rfl

def ctCnt : CT := fun args h K => match args with
  | [.v (.string s), .v (.int .u8 c)] => K (.v (.int .i64 (Lib.countByte s.data.toList c.toNat.toUInt8 : Nat))) h
  | [.str l, .v (.int .u8 c)] => K (.v (.int .i64 (Lib.countByte l c.toNat.toUInt8 : Nat))) h
  | _ => false

set_option maxRecDepth 100000 in
theorem cnt_sound : (⟨131, ctCnt⟩ : CEnt).Ok Tryz.prog := fun args h0 K hk ρ w H hargs => by
  have key : ∀ (s : ByteArray) (c : Int), (callFunc 131 #[.string s, .int .u8 c]).run Tryz.prog w = .ok (.value (.int .i64 (Lib.countByte s.data.toList c.toNat.toUInt8 : Nat))) w := fun s c => by
    rw [run_callFunc_extern Tryz.func131 (by kernel_rfl) (by kernel_rfl) (by kernel_rfl) (e := Extern.BytealgCount.count) (by kernel_rfl), Lib.run_countString]
    rfl
  change ctCnt args h0 K = true at hk
  unfold ctCnt at hk
  split at hk
  · rename_i s c
    exact goes_of_entry (key s c) H hk rfl trivial
  · rename_i l c
    exact goes_of_entry (key ⟨l.toArray⟩ c) H hk rfl trivial
  · exact absurd hk Bool.false_ne_true

def indexS : FSpec := ⟨ByteArray, fun s vs _ => vs = [.string s, .string ⟨#[47]⟩], fun s _ A v A' => A' = A ∧ v = .int .i64 (Lib.index s.data.toList [47])⟩

theorem index_ok : FOk Tryz.prog 111 indexS := by
  intro s vs A w hA hp
  obtain rfl : vs = [.string s, .string ⟨#[47]⟩] := hp
  refine goes_of_calls Tryz.func111 ⟨by kernel_rfl, by kernel_rfl⟩ ?_
  refine (idx2 s w).mono fun e w' ⟨he, hw⟩ => ?_
  subst hw
  exact ⟨_, he, A, ⟨rfl, rfl⟩, rfl, rfl, rfl, fun _ _ _ => rfl, hA, fun k o ho => .inl ⟨o, ho⟩⟩

theorem bnd_to {x : Int} {c k : Nat} (hx : x = k) (hk : k ≤ c) : ((decide ((0 : Int) ≤ 0) && decide ((0 : Int) ≤ x)) && (false || decide (x ≤ (c : Int)))) = true := by
  subst hx
  exact Bool.and_eq_true_iff.2 ⟨Bool.and_eq_true_iff.2 ⟨decide_eq_true (by omega), decide_eq_true (by omega)⟩, Bool.or_eq_true_iff.2 (.inr (decide_eq_true (by omega)))⟩

theorem bnd_from {x : Int} {c k : Nat} {t : Bool} (hx : x = k) (hk : k ≤ c) : ((decide ((0 : Int) ≤ x) && decide (x ≤ (c : Int))) && (true || t)) = true := by
  subst hx
  exact Bool.and_eq_true_iff.2 ⟨Bool.and_eq_true_iff.2 ⟨decide_eq_true (by omega), decide_eq_true (by omega)⟩, rfl⟩

structure SpG where
  i : Nat
  A : Arena
  rest : List UInt8
  parts : List (List UInt8)

structure SpI (A1 : Arena) (g N : Nat) (l : List UInt8) (s : SpG) : Prop where
  num : s.parts.length = s.i
  le : s.i ≤ N - 1
  split : splitL l = s.parts ++ splitL s.rest
  row : ∃ c, s.A.blk g = some (.cells c 9 (0, 0)) ∧ c.size = N ∧ c.toList.take s.i = s.parts.map strV
  oth : ∀ k, k ≠ g → s.A.blk k = A1.blk k
  len : s.rest.length ≤ l.length

def spInv (A1 : Arena) (g N : Nat) (l : List UInt8) : LInv := { γ := SpG, G := SpI A1 g N l, keepS := [1, 2], keepB := [], sl := fun s => [(0, .str s.rest), (3, .v (.int .i64 (N - 1 : Nat))), (9, .v (.slice (some ⟨g, 0, none⟩) N N)), (10, .v (.int .i64 s.i))], bl := fun _ => [], ar := fun s => s.A, mu := fun s => N - s.i }

def genS : FSpec := ⟨List UInt8, fun l vs _ => vs = [strV l, strV [47], .int .i64 0, .int .i64 (-1)] ∧ l.length ≤ 1000,
  fun l _ A v A' => A.Sub A' ∧ Sl (A'.minus A) 1 (splitL l).length v ((splitL l).map strV)⟩

set_option maxRecDepth 100000 in
set_option maxHeartbeats 0 in
theorem gen_ok : FOk Tryz.prog 112 genS := by
  refine fok_of_run mixed fun (l : List UInt8) vs A hp => ?_
  obtain ⟨rfl, hl⟩ : vs = [strV l, strV [47], .int .i64 0, .int .i64 (-1)] ∧ l.length ≤ 1000 := hp
  have hC : CTSound Tryz.prog (lookC [specE 111 indexS, ⟨131, ctCnt⟩] noC) := lookC_sound (noC_sound _) (fun x hx => by
    simp only [List.mem_cons, List.not_mem_nil, or_false] at hx
    rcases hx with rfl | rfl
    · exact specE_ok index_ok
    · exact cnt_sound)
  refine ⟨_, tabO Tryz.prog _ noL 60 [(112, 0)], 60, [.str l, .str [47], .v (.int .i64 0), .v (.int .i64 (-1))], hC, tabO_sound mixed hC (noL_sound _) _ _, rfl, fun ρ x hx => ?_, fun blk os out tape D hD => ?_⟩
  · simp only [List.mem_cons, List.not_mem_nil, or_false] at hx
    rcases hx with rfl | rfl | rfl | rfl <;> trivial
  conv => lhs; whnf
  have hcnt := splitL_len l
  have hcl : l.count 47 ≤ l.length := List.count_le_length
  have w1 : IntKind.i64.wrap (((Lib.countByte l (((([47] : List UInt8).getD (Int.toNat 0) 0).toNat : Int)).toNat.toUInt8 : Nat) : Int) + 1) = (((splitL l).length : Nat) : Int) := by
    rw [hcnt]; exact wrapI2 (l.count 47) (by omega)
  have w2 : IntKind.i64.wrap ((l.length : Int) + 1) = ((l.length + 1 : Nat) : Int) := wrapI2 l.length (by omega)
  have hM : (bif false then bif decide (IntKind.i64.wrap (((Lib.countByte l (((([47] : List UInt8).getD (Int.toNat 0) 0).toNat : Int)).toNat.toUInt8 : Nat) : Int) + 1) < IntKind.i64.wrap ((l.length : Int) + 1)) then IntKind.i64.wrap ((l.length : Int) + 1) else IntKind.i64.wrap (((Lib.countByte l (((([47] : List UInt8).getD (Int.toNat 0) 0).toNat : Int)).toNat.toUInt8 : Nat) : Int) + 1)
      else bif decide (IntKind.i64.wrap ((l.length : Int) + 1) < IntKind.i64.wrap (((Lib.countByte l (((([47] : List UInt8).getD (Int.toNat 0) 0).toNat : Int)).toNat.toUInt8 : Nat) : Int) + 1)) then IntKind.i64.wrap ((l.length : Int) + 1) else IntKind.i64.wrap (((Lib.countByte l (((([47] : List UInt8).getD (Int.toNat 0) 0).toNat : Int)).toNat.toUInt8 : Nat) : Int) + 1)) = (((splitL l).length : Nat) : Int) := by
    rw [w1, w2, decide_eq_false (show ¬ ((l.length + 1 : Nat) : Int) < (((splitL l).length : Nat) : Int) by omega)]; rfl
  have hMn := congrArg Int.toNat hM
  rw [Int.toNat_natCast] at hMn
  refine (hD _).2 ⟨Int.le_trans (Int.natCast_nonneg _) (Int.le_of_eq hM.symm), Int.le_refl _, Int.le_trans (Int.le_of_eq hM) (by omega), ?_, rfl, fun g A1 c hc hN => ?_⟩
  · refine Nat.le_trans (Nat.mul_le_mul_left 16 (Nat.le_of_eq hMn)) ?_
    omega
  have hN : A.New A1 g c 9 := hN
  conv => lhs; whnf
  obtain ⟨N, hN0⟩ : ∃ N, N = (splitL l).length := ⟨_, rfl⟩
  rw [← hN0] at hM hMn hcnt
  have hc : c.toList = (List.replicate N [Value.string ⟨#[]⟩]).flatten := hc.trans (congrArg (fun z => (List.replicate z [Value.string ⟨#[]⟩]).flatten) hMn)
  have hcs : c.size = N := by
    have h := congrArg List.length hc
    simpa using h
  have hn1 : IntKind.i64.wrap ((N : Int) - 1) = ((N - 1 : Nat) : Int) := by
    rw [Sx.wrap_i64 (by omega) (by omega)]; omega
  have hI0 : SpI A1 g N l ⟨0, A1, l, []⟩ := ⟨rfl, by show 0 ≤ N - 1; omega, rfl, ⟨c, hN.at_, hcs, rfl⟩, fun _ _ => rfl, Nat.le_refl _⟩
  refine (hD _).2 ⟨spInv A1 g N l, ⟨(⟨0, A1, l, []⟩ : SpG), hI0, ⟨rfl, congrArg (fun z : Int => some (SV.v (.int .i64 z))) ((congrArg (fun z : Int => IntKind.i64.wrap (z - 1)) hM).trans hn1), congrArg (fun z : Nat => some (SV.v (.slice (some ⟨g, 0, none⟩) z z))) hMn, rfl, trivial⟩, trivial, rfl⟩, fun (s : SpG) hG => ⟨⟨trivial, trivial, trivial, trivial, trivial⟩, trivial, ?_⟩⟩
  obtain ⟨i, Ai, rest, parts⟩ := s
  obtain ⟨hpl, hi, hsp, ⟨ci, hci, hcis, hcit⟩, hoth, hrl⟩ : SpI A1 g N l ⟨i, Ai, rest, parts⟩ := hG
  dsimp only at hpl hi hsp hci hcis hcit hoth hrl
  have hroom : ∀ n, i + n ≤ N → Ai.Room g (0 + i * 1) n := fun n hn => ⟨ci, _, _, hci, by omega, .inl rfl⟩
  conv => lhs; whnf
  refine split_dec (fun hlt => ?_) (fun hlt => ?_) <;> (conv => lhs; whnf)
  · have hi1 : i < N - 1 := by
      have hlt : (i : Int) < ((N - 1 : Nat) : Int) := hlt
      omega
    have h2 : 2 ≤ (splitL rest).length := by
      have := congrArg List.length hsp
      rw [List.length_append] at this
      omega
    obtain ⟨a, b, hab, hix, hsr⟩ := splitL_step h2
    have hal : rest.length = a.length + 1 + b.length := by rw [hab]; simp; omega
    refine (hD _).2 ⟨(⟨rest.toArray⟩ : ByteArray), rfl, fun v A9 hq => ?_⟩
    have hq : A9 = Ai ∧ v = .int .i64 (Lib.index rest [47]) := hq
    have h9 := hq.1.symm
    have hv := hq.2
    rw [hix] at hv
    subst h9
    subst hv
    conv => lhs; whnf
    have hx1 : IntKind.i64.wrap ((a.length : Int) + 0) = ((a.length : Nat) : Int) := by
      rw [Int.add_zero, Sx.wrap_i64 (by omega) (by omega)]
    have hx2 : IntKind.i64.wrap ((a.length : Int) + 1) = ((a.length + 1 : Nat) : Int) := wrapI2 a.length (by omega)
    refine go_b (bnd_to hx1 (show a.length ≤ rest.length by omega)) ?_
    conv => lhs; whnf
    have i0 : (0 : Int) ≤ (i : Int) ∧ (i : Int) < (N : Int) := by omega
    refine go_in i0 ?_
    conv => lhs; whnf
    refine (hD _).2 ⟨hroom 1 (by omega), fun A7 hP => ?_⟩
    have hP : Ai.Put A7 g (0 + i * 1) [.string ⟨((rest.drop 0).take ((IntKind.i64.wrap ((a.length : Int) + 0)).toNat - 0)).toArray⟩] := hP
    have hta : (rest.drop 0).take ((IntKind.i64.wrap ((a.length : Int) + 0)).toNat - 0) = a := by
      rw [hx1, Int.toNat_natCast, Nat.sub_zero, List.drop_zero, hab, List.take_left']
      rfl
    rw [hta] at hP
    conv => lhs; whnf
    refine go_b (bnd_from hx2 (show a.length + 1 ≤ rest.length by omega)) ?_
    conv => lhs; whnf
    have hrest : (rest.drop (IntKind.i64.wrap ((a.length : Int) + 1)).toNat).take (rest.length - (IntKind.i64.wrap ((a.length : Int) + 1)).toNat) = b := by
      rw [hx2, Int.toNat_natCast, hab]
      simp
      exact List.take_of_length_le (by omega)
    have hI : SpI A1 g N l ⟨i + 1, A7, b, parts ++ [a]⟩ := by
      obtain ⟨c0, t0, fz0, c7, k1, k2, k3⟩ := hP.at_
      rw [hci] at k1
      injection k1 with k1
      injection k1 with k1 k1' k1''
      subst k1; subst k1'; subst k1''
      refine ⟨by show (parts ++ [a]).length = i + 1; rw [List.length_append, hpl]; rfl, by show i + 1 ≤ N - 1; omega, by show splitL l = (parts ++ [a]) ++ splitL b; rw [hsp, hsr]; simp, ⟨c7, k2, ?_, ?_⟩, fun k hk => (hP.other k hk).trans (hoth k hk), by show b.length ≤ l.length; omega⟩
      · rw [← Array.length_toList, k3]
        simp only [List.length_append, List.length_take, List.length_drop, Array.length_toList, List.length_singleton]
        omega
      · show c7.toList.take (i + 1) = (parts ++ [a]).map strV
        have e : 0 + i * 1 = i := by omega
        rw [k3, e, List.map_append, ← hcit, List.take_append_of_le_length (by simp; omega)]
        rw [List.take_of_length_le (by simp; omega)]
        rfl
    exact (hD _).2 ⟨(⟨i + 1, A7, b, parts ++ [a]⟩ : SpG), ⟨hI, ⟨congrArg (fun z => some (SV.str z)) hrest, rfl, rfl, inc_slot (k := i) (by omega), trivial⟩, trivial, rfl⟩, by show N - (i + 1) < N - i; omega, ⟨same1 rfl rfl, same1 rfl rfl, trivial⟩, trivial⟩
  · have hi1 : i = N - 1 := by
      have hlt : ¬ (i : Int) < ((N - 1 : Nat) : Int) := hlt
      omega
    have hone : splitL rest = [rest] := by
      have h1 : (splitL rest).length = 1 := by
        have := congrArg List.length hsp
        rw [List.length_append] at this
        omega
      rcases index_cases rest with ⟨_, h2⟩ | ⟨a, b, h1', h2, h3⟩
      · exact splitL_none rest h2
      · rw [h1', splitL_cut a b h2, List.length_cons] at h1
        have := splitL_len b
        omega
    have i0 : (0 : Int) ≤ (i : Int) ∧ (i : Int) < (N : Int) := by omega
    refine go_in i0 ?_
    conv => lhs; whnf
    refine (hD _).2 ⟨hroom 1 (by omega), fun A7 hP => ?_⟩
    have hP : Ai.Put A7 g (0 + i * 1) [.string ⟨rest.toArray⟩] := hP
    conv => lhs; whnf
    have hx3 : IntKind.i64.wrap ((i : Int) + 1) = ((N : Nat) : Int) := by
      rw [wrapI2 i (by omega)]; omega
    have hend : genS.post l [strV l, strV [47], .int .i64 0, .int .i64 (-1)] A (.slice (some ⟨g, 0 + bif Nat.beq N 0 then 0 else 0 * 1, none⟩) ((IntKind.i64.wrap ((i : Int) + 1)).toNat - 0) (N - 0)) A7 := by
      have e0 : (0 + bif Nat.beq N 0 then 0 else 0 * 1) = 0 := by cases Nat.beq N 0 <;> rfl
      rw [hx3, Int.toNat_natCast, Nat.sub_zero, e0]
      have hg := hN.none_
      refine ⟨fun k o hk => ?_, ?_⟩
      · have hkg : k ≠ g := fun e => by rw [e, hg] at hk; cases hk
        rw [hP.other k hkg, hoth k hkg]
        exact hN.sub k o hk
      · obtain ⟨c0, t0, fz0, c7, k1, k2, k3⟩ := hP.at_
        rw [hci] at k1
        injection k1 with k1
        injection k1 with k1 k1' k1''
        subst k1; subst k1'; subst k1''
        have e : 0 + i * 1 = i := by omega
        have hl7 : c7.toList = (splitL l).map strV := by
          rw [k3, e, hcit, hsp, hone, List.map_append, List.drop_eq_nil_of_le (by simp; omega), List.append_nil]
          rfl
        have hs7 : c7.size = N := by rw [← Array.length_toList, hl7, List.length_map, hN0]
        show Sl (A7.minus A) 1 (splitL l).length _ _
        rw [← hN0]
        refine Sl.row (Nat.le_refl _) (rd_minus ?_ hg)
        rw [rd_mk k2 (by omega), List.drop_zero, Nat.mul_one, ← hl7, List.take_of_length_le (by rw [Array.length_toList]; omega)]
    refine go_b (bnd_to hx3 (Nat.le_refl _)) ?_
    conv => lhs; whnf
    exact (hD _).2 hend

def splitS : FSpec := ⟨List UInt8, fun l vs _ => vs = [strV l, strV [47]] ∧ l.length ≤ 1000,
  fun l _ A v A' => A.Sub A' ∧ Sl (A'.minus A) 1 (splitL l).length v ((splitL l).map strV)⟩

set_option maxRecDepth 100000 in
set_option maxHeartbeats 0 in
theorem split_ok : FOk Tryz.prog 98 splitS := by
  refine fok_v mixed fun (l : List UInt8) vs A hp => ?_
  obtain ⟨rfl, hl⟩ : vs = [.string ⟨l.toArray⟩, .string ⟨#[47]⟩] ∧ l.length ≤ 1000 := hp
  have hC : CTSound Tryz.prog (lookC [specE 112 genS] noC) := lookC_sound (noC_sound _) (fun x hx => by
    simp only [List.mem_singleton] at hx
    subst hx; exact specE_ok gen_ok)
  refine ⟨_, noL, 60, hC, noL_sound _, fun blk os out tape D hD => ?_⟩
  conv => lhs; whnf
  refine (hD _).2 ⟨l, ⟨rfl, hl⟩, fun v A' hq => ?_⟩
  have hq : splitS.post l [.string ⟨l.toArray⟩, .string ⟨#[47]⟩] A v A' := hq
  conv => lhs; whnf
  exact (hD _).2 hq

end
end Go.Proofs.YtbebacffaljckaaGreatDoor

namespace Go.Proofs.YtbebacffaljckaaGreatDoor
open Go.Sx Go.RowKit
noncomputable section
open Classical

def dropL (N : List ToldD) (p : ByteArray) : List ToldD := if findI N p < 0 then N else N.take (findI N p).toNat ++ N.drop ((findI N p).toNat + 1)

theorem findI_lt {N : List ToldD} {p : ByteArray} (h : ¬ findI N p < 0) : ∃ k : Nat, k < N.length ∧ findI N p = (k : Nat) := by
  unfold findI at h ⊢
  cases hf : N.findIdx? fun x => decide (x.path = p) with
  | none => rw [hf] at h; exact absurd (by decide) h
  | some i =>
    rw [List.findIdx?_eq_some_iff_getElem] at hf
    exact ⟨i, hf.1, rfl⟩

theorem Kept.refl (A : Arena) (O : Nat → Prop) : Kept A O A O := ⟨fun _ _ h _ => h, fun _ h => h, fun _ h => .inl h⟩

theorem nodes_one {B : Arena} {l : List (ToldD × Value)} (h : ∀ x ∈ l, SlB B x.2 x.1.data) : ∀ v ∈ l.flatMap nodeC, v.oneCell' = true := fun v hv => by
  obtain ⟨x, hx, hv⟩ := List.mem_flatMap.1 hv
  obtain ⟨a, c, hf⟩ := (h x hx).1.form
  simp only [nodeC, StatD.cells, List.mem_cons, List.not_mem_nil, or_false] at hv
  rcases hv with rfl | rfl | rfl | rfl | rfl | rfl | rfl | rfl | rfl | rfl | rfl | rfl <;> first | rfl | (rw [hf]; rfl)

theorem flat_sub {α : Type} {enc : α → List Value} {l l' : List α} (h : l'.Sublist l) {v : Value} (hv : v ∈ l'.flatMap enc) : v ∈ l.flatMap enc := by
  obtain ⟨x, hx, hv⟩ := List.mem_flatMap.1 hv
  exact List.mem_flatMap.2 ⟨x, h.subset hx, hv⟩

theorem beq_noN {m n : Nat} (h : n < m) : Nat.beq m n = false := by
  cases hb : Nat.beq m n with
  | false => rfl
  | true => have := Nat.eq_of_beq_eq_true hb; omega

def dropS : FSpec := ⟨RG × ByteArray, fun g vs A => vs = [.pointer (some ⟨g.1.r, 0, none⟩), .string g.2] ∧ RefAt A g.1.B g.1.O g.1.r g.1.N g.1.S ∧ g.1.N.length ≤ 1000000,
  fun g _ A _ A' => ∃ O', RefAt A' g.1.B O' g.1.r (dropL g.1.N g.2) g.1.S ∧ Kept A g.1.O A' O'⟩

set_option maxRecDepth 100000 in
set_option maxHeartbeats 0 in
theorem drop_ok : FOk Tryz.prog 55 dropS := by
  refine fok_v mixed fun ⟨⟨N, S, B, O, r⟩, p⟩ vs A hp => ?_
  obtain ⟨rfl, hRef, hN⟩ : vs = [.pointer (some ⟨r, 0, none⟩), .string p] ∧ RefAt A B O r N S ∧ N.length ≤ 1000000 := hp
  have hC : CTSound Tryz.prog (lookC [specE 56 findS] noC) := lookC_sound (noC_sound _) (fun x hx => by
    simp only [List.mem_singleton] at hx
    subst hx; exact specE_ok find_ok)
  refine ⟨_, noL, 60, hC, noL_sound _, fun blk os out tape D hD => ?_⟩
  conv => lhs; whnf
  refine (hD _).2 ⟨(⟨N, S, B, O, r⟩, p), ⟨rfl, hRef, hN⟩, fun v A9 hq => ?_⟩
  have hq : A9 = A ∧ v = .int .i64 (findI N p) := hq
  have h9 := hq.1.symm
  have hv := hq.2
  subst h9
  by_cases hf : findI N p < 0
  · subst hv
    have hend : dropS.post (⟨N, S, B, O, r⟩, p) [] A (.tuple #[]) A := by
      show ∃ O', RefAt A B O' r (dropL N p) S ∧ Kept A O A O'
      rw [dropL, if_pos hf]
      exact ⟨O, hRef, Kept.refl _ _⟩
    conv => lhs; whnf
    refine go_dec hf ?_
    conv => lhs; whnf
    exact (hD _).2 hend
  obtain ⟨k, hk, hfk⟩ := findI_lt hf
  have hdrop : dropL N p = N.take k ++ N.drop (k + 1) := by rw [dropL, if_neg hf, hfk, Int.toNat_natCast]
  rw [hfk] at hv
  subst hv
  obtain ⟨l, vn, vs', gn, gs, hl, h⟩ := hRef
  have hll : l.length = N.length := by rw [← hl, List.length_map]
  obtain ⟨ao, c, hvn, hc, hao⟩ := h.nrow.form
  have e := hao (by omega)
  subst e
  subst hvn
  have htop : A.rd r 0 1 = some [.slice (some ⟨gn, 0, none⟩) l.length c] := h.top.rd (o := 0) (n := 1) (by show 0 + 1 ≤ 2; omega)
  have hra : A.rd gn 0 (l.length * 12) = some (l.flatMap nodeC) := by
    obtain ⟨_, ao2, c2, e2, _, _, _, h6⟩ := h.nrow
    obtain ⟨_, cc, h8, h9, h10⟩ := h6 (by omega)
    rw [rd_mk h8 (by omega), List.drop_zero, h10]
  have hx : IntKind.i64.wrap ((k : Int) + 1) = ((k + 1 : Nat) : Int) := wrapI2 k (by omega)
  conv => lhs; whnf
  repeat (refine go_rd htop ?_
          conv => lhs; whnf)
  refine go_b (bnd_to rfl (show k ≤ c by omega)) ?_
  conv => lhs; whnf
  have hn0 : GrowR A A 12 49 0 (.slice (addrA none) 0 0) [] := GrowR.nil _ _ _ _
  obtain ⟨hP0, hA0⟩ := hn0.formB
  have hP0 := hP0 k 120 (by omega) (by omega)
  have he12 : ∀ x : ToldD × Value, (nodeC x).length = 12 := fun _ => rfl
  have hs1 : (if k = 0 then some [] else A.rd gn (0 + bif Nat.beq c 0 then 0 else 0 * 12) (k * 12)) = some ((l.take k).flatMap nodeC) := srcN_take (enc := nodeC) he12 hra (by omega) (by cases Nat.beq c 0 <;> rfl)
  have hlk : (l.take k).length = k := by rw [List.length_take]; omega
  have hfl1 : ((l.take k).flatMap nodeC).length = k * 12 := by rw [flatN_len (enc := nodeC) he12, hlk]
  have hld : (l.drop (k + 1)).length = l.length - (k + 1) := List.length_drop
  have hone : ∀ v ∈ l.flatMap nodeC, v.oneCell' = true := nodes_one h.data
  refine (hD _).2 ⟨[], (l.take k).flatMap nodeC, rfl, hs1, hfl1, fun v hv => hone v (flat_sub (List.take_sublist k l) hv), by show 0 + k ≤ 9223372036854775807; omega, hP0.cap, rfl, fun _ => ⟨rfl, rfl⟩, fun _ _ h => (by cases h), fun v A2 hAp => ?_⟩
  obtain ⟨hG2, hk2⟩ := hA0 k _ v A2 hfl1 (fun _ h => h) hAp
  rw [Nat.zero_add, List.nil_append] at hG2
  have s2 : A.Sub A2 := fun j o hj => by rw [hk2 j o hj]; exact hj
  have htop2 := rd_sub s2 htop
  obtain ⟨b2, c2, hv2, hb2, -⟩ := hG2.formN
  subst hv2
  obtain ⟨hP3, hA3⟩ := hG2.formB
  have hP3 := hP3 (l.length - (k + 1)) 120 (by omega) (by omega)
  have hd2 : ∀ j, A2.blk j = none → A.blk j = none := fun j hj => by
    cases h9 : A.blk j with
    | none => rfl
    | some o => rw [s2 _ _ h9] at hj; cases hj
  have hs2 : (if l.length - (k + 1) = 0 then some [] else A2.rd gn (0 + bif Nat.beq c (k + 1) then 0 else (k + 1) * 12) ((l.length - (k + 1)) * 12)) = some ((l.drop (k + 1)).flatMap nodeC) := srcN_drop (enc := nodeC) he12 (rd_sub s2 hra) rfl fun hlt => by
    rw [beq_noN (by omega)]
    show 0 + (k + 1) * 12 = _
    omega
  have hs3 : (if l.length - (IntKind.i64.wrap ((k : Int) + 1)).toNat = 0 then some [] else A2.rd gn (0 + bif Nat.beq c (IntKind.i64.wrap ((k : Int) + 1)).toNat then 0 else (IntKind.i64.wrap ((k : Int) + 1)).toNat * 12) ((l.length - (IntKind.i64.wrap ((k : Int) + 1)).toNat) * 12)) = some ((l.drop (k + 1)).flatMap nodeC) := by
    rw [hx, Int.toNat_natCast]; exact hs2
  have hnx : l.length - (IntKind.i64.wrap ((k : Int) + 1)).toNat = l.length - (k + 1) := by rw [hx, Int.toNat_natCast]
  have hfl2 : ((l.drop (k + 1)).flatMap nodeC).length = (l.length - (IntKind.i64.wrap ((k : Int) + 1)).toNat) * 12 := by rw [flatN_len (enc := nodeC) he12, hld, hnx]
  have hle3 : k + (l.length - (IntKind.i64.wrap ((k : Int) + 1)).toNat) ≤ 9223372036854775807 := by rw [hnx]; omega
  have hcap3 : c2 < k + (l.length - (IntKind.i64.wrap ((k : Int) + 1)).toNat) → Builtin.nextslicecap (k + (l.length - (IntKind.i64.wrap ((k : Int) + 1)).toNat)) c2 * 120 ≤ 281474976710656 := by rw [hnx]; exact hP3.cap
  have hroom3 : ∀ g o, b2 = some (g, o) → k + (l.length - (IntKind.i64.wrap ((k : Int) + 1)).toNat) ≤ c2 → (l.drop (k + 1)).flatMap nodeC ≠ [] → A2.Room g (o + k * 12) ((l.drop (k + 1)).flatMap nodeC).length := by
    rw [hnx]
    exact fun g o h1 h2 _ => hP3.room _ (by rw [hfl2, hnx]) g o h1 h2
  have hAp3 : ∀ v A3, Appended A2 b2 k c2 12 49 ((l.take k).flatMap nodeC) ((l.drop (k + 1)).flatMap nodeC) (l.length - (IntKind.i64.wrap ((k : Int) + 1)).toNat) v A3 → GrowR A A3 12 49 (l.take k ++ l.drop (k + 1)).length v ((l.take k ++ l.drop (k + 1)).flatMap nodeC) ∧ A.Sub A3 := fun v A3 hAp => by
    rw [hnx] at hAp
    obtain ⟨h1, h2⟩ := hA3 _ _ v A3 (by rw [hfl2, hnx]) hd2 hAp
    rw [List.length_append, hlk, hld, List.flatMap_append]
    exact ⟨h1, fun j o hj => by rw [h2 j o hj]; exact s2 _ _ hj⟩
  conv => lhs; whnf
  repeat (refine go_rd htop2 ?_
          conv => lhs; whnf)
  refine go_b (bnd_from hx (show k + 1 ≤ l.length by omega)) ?_
  refine Or.elim hb2 (fun hb2 => ?_) (fun hb2 => ?_)
  rotate_left
  obtain ⟨g2, hb2⟩ := hb2
  all_goals
    subst hb2
    conv => lhs; whnf
    refine (hD _).2 ⟨(l.take k).flatMap nodeC, (l.drop (k + 1)).flatMap nodeC, hP3.rd, hs3, hfl2, fun v hv => hone v (flat_sub (List.drop_sublist _ l) hv), hle3, hcap3, rfl, hP3.none_, hroom3, fun v A3 hAp => ?_⟩
    obtain ⟨hG3, s3⟩ := hAp3 v A3 hAp
    obtain ⟨b3, c3, hv3, -, -⟩ := hG3.formN
    subst hv3
    have hT3 : CellsAt A3 r [.slice (some ⟨gn, 0, none⟩) l.length c, vs'] := h.top.sub fun o ho => s3 _ _ ho
    conv => lhs; whnf
    refine (hD _).2 ⟨hT3.room (o := 0) (n := 1) (by show 0 + 1 ≤ 2; omega), fun A4 hP => ?_⟩
    have hP : A3.Put A4 r 0 [.slice (addrA b3) (l.take k ++ l.drop (k + 1)).length c3] := hP
    have hend : dropS.post (⟨N, S, B, O, r⟩, p) [] A (.tuple #[]) A4 := by
      show ∃ O', RefAt A4 B O' r (dropL N p) S ∧ Kept A O A4 O'
      have h1 := h.nodes s3 hG3 (fun x hx => h.data x (by
        rcases List.mem_append.1 hx with hx | hx
        · exact List.take_subset _ _ hx
        · exact List.drop_subset _ _ hx)) hP
      rw [hdrop, ← hl]
      rw [List.map_append, List.map_take, List.map_drop] at h1
      exact h1
    conv => lhs; whnf
    exact (hD _).2 hend

end
end Go.Proofs.YtbebacffaljckaaGreatDoor

namespace Go.Proofs.YtbebacffaljckaaGreatDoor
open Go.Sx Go.RowKit
noncomputable section
open Classical

def lessL (p : ByteArray) (x : ToldD) : Bool := ltL (pathL x.path) (pathL p)

/-- Where a path stands. -/
def placeL (N : List ToldD) (p : ByteArray) : Nat := (N.takeWhile (lessL p)).length

def putL (N : List ToldD) (n : ToldD) : List ToldD := (dropL N n.path).take (placeL (dropL N n.path) n.path) ++ n :: (dropL N n.path).drop (placeL (dropL N n.path) n.path)

theorem place_at {N : List ToldD} {p : ByteArray} {k : Nat} (hk : k ≤ N.length) (h0 : ∀ i (h : i < N.length), i < k → lessL p N[i] = true) (h1 : ∀ h : k < N.length, lessL p N[k] = false) : placeL N p = k := by
  induction N generalizing k with
  | nil =>
    have : k = 0 := by simpa using hk
    rw [this]; rfl
  | cons x N ih =>
    cases k with
    | zero =>
      have := h1 (by simp)
      unfold placeL
      rw [List.takeWhile_cons, if_neg (by simpa using this)]
      rfl
    | succ k =>
      have hx := h0 0 (by simp) (by omega)
      have := ih (k := k) (by simpa using hk) (fun i hi hik => h0 (i + 1) (by simpa using hi) (by omega)) (fun h => h1 (by simpa using h))
      unfold placeL at this ⊢
      rw [List.takeWhile_cons, if_pos (by simpa using hx), List.length_cons, this]

def putS : FSpec := ⟨RG × (ToldD × Value) × Arena, fun g vs A => vs = [.pointer (some ⟨g.1.r, 0, none⟩), .agg (nodeC g.2.1).toArray] ∧ RefAt A g.1.B g.1.O g.1.r g.1.N g.1.S ∧ g.1.N.length ≤ 1000000 ∧ SlB g.2.2 g.2.1.2 g.2.1.1.data ∧ Aside A g.2.2 g.1.O,
  fun g _ A _ A' => ∃ O', RefAt A' (g.1.B.plus g.2.2) O' g.1.r (putL g.1.N g.2.1.1) g.1.S ∧ Kept A g.1.O A' O'⟩

theorem dropL_len (N : List ToldD) (p : ByteArray) : (dropL N p).length ≤ N.length := by
  unfold dropL
  split
  · omega
  · rw [List.length_append, List.length_take, List.length_drop]; omega

set_option maxRecDepth 100000 in
set_option maxHeartbeats 0 in
theorem put_ok : FOk Tryz.prog 53 putS := by
  refine fok_v mixed fun ⟨⟨N, S, B, O, r⟩, ⟨⟨p, d, ⟨q1, q2, q3, q4, q5, q6, q7, q8, q9, q10⟩⟩, vd⟩, C⟩ vs A hp => ?_
  obtain ⟨rfl, hRef, hN, hd, hAs⟩ : vs = [.pointer (some ⟨r, 0, none⟩), .agg #[.string p, vd, .int .i64 q1, .int .i64 q2, .int .i64 q3, .int .i64 q4, .int .i64 q5, .int .i64 q6, .int .i64 q7, .int .i64 q8, .int .i64 q9, .int .i64 q10]] ∧ RefAt A B O r N S ∧ N.length ≤ 1000000 ∧ SlB C vd d ∧ Aside A C O := hp
  obtain ⟨ad, cd, rfl⟩ := hd.1.form
  have hC : CTSound Tryz.prog (lookC [specE 55 dropS] noC) := lookC_sound (noC_sound _) (fun x hx => by
    simp only [List.mem_singleton] at hx
    subst hx; exact specE_ok drop_ok)
  refine ⟨_, tabO Tryz.prog _ noL 60 [(53, 0)], 60, hC, tabO_sound mixed hC (noL_sound _) _ _, fun blk os out tape D hD => ?_⟩
  conv => lhs; whnf
  refine (hD _).2 ⟨(⟨N, S, B, O, r⟩, p), ⟨rfl, hRef, hN⟩, fun v A1 hq => ?_⟩
  have hq : ∃ O', RefAt A1 B O' r (dropL N p) S ∧ Kept A O A1 O' := hq
  obtain ⟨O1, ⟨l, vn, vs', gn, gs, hl, h⟩, hK⟩ := hq
  have hdl := dropL_len N p
  have hll : l.length = (dropL N p).length := by rw [← hl, List.length_map]
  obtain ⟨_, ao, c, hvn, hc, hz1, hz2, hz3⟩ := h.nrow
  have hao : 0 < l.length → ao = some ⟨gn, 0, none⟩ := fun hn => (hz3 hn).1
  have hcs : ao = none ∨ ∃ g9 o9, ao = some ⟨g9, o9, none⟩ := by
    cases ao with
    | none => exact .inl rfl
    | some a =>
      obtain ⟨g9, o9, sp⟩ := a
      have := hz2 _ rfl
      dsimp only at this
      subst this
      exact .inr ⟨g9, o9, rfl⟩
  subst hvn
  have htop : A1.rd r 0 1 = some [.slice ao l.length c] := h.top.rd (o := 0) (n := 1) (by show 0 + 1 ≤ 2; omega)
  obtain ⟨xn, hxn⟩ : ∃ xn : ToldD × Value, xn = (⟨p, d, ⟨q1, q2, q3, q4, q5, q6, q7, q8, q9, q10⟩⟩, .slice ad d.length cd) := ⟨_, rfl⟩
  have hxl : (nodeC xn).length = 12 := rfl
  have he12 : ∀ x : ToldD × Value, (nodeC x).length = 12 := fun _ => rfl
  have hone : ∀ v ∈ l.flatMap nodeC, v.oneCell' = true := nodes_one h.data
  have honex : ∀ v ∈ nodeC xn, v.oneCell' = true := fun v hv => by
    rw [hxn] at hv
    simp only [nodeC, StatD.cells, List.mem_cons, List.not_mem_nil, or_false] at hv
    rcases hv with rfl | rfl | rfl | rfl | rfl | rfl | rfl | rfl | rfl | rfl | rfl | rfl <;> rfl
  have hn0 : GrowR A1 A1 12 49 0 (.slice (addrA none) 0 0) [] := GrowR.nil _ _ _ _
  obtain ⟨hP0, hA0⟩ := hn0.formB
  have hC1 : C.Sub A1 := fun j o hj => hK.keep j o (hAs.1 j o hj) (hAs.2 j o hj)
  have hCO : ∀ k, O1 k → C.blk k = none := fun k hk => by
    cases hc9 : C.blk k with
    | none => rfl
    | some o =>
      rcases hK.own k hk with h1 | h1
      · exact absurd h1 (hAs.2 k o hc9)
      · have := hAs.1 k o hc9
        rw [h1] at this; cases this
  have hBA : B.Sub A := by
    obtain ⟨l0, vn0, vs0, gn0, gs0, _, h0⟩ := hRef
    exact h0.sub
  have hCP : C.Sub (B.plus C) := fun j o hj => by
    rw [plus_blk]
    cases hb : B.blk j with
    | none => exact hj
    | some o' =>
      have h1 := hBA _ _ hb
      rw [hAs.1 _ _ hj] at h1
      exact h1.symm
  have hpc : ∀ j o, (B.plus C).blk j = some o → B.blk j = some o ∨ C.blk j = some o := fun j o hj => (plus_cases hj).imp id And.right
  have hfinq : ∀ q, q ≤ l.length → (∀ i (h : i < l.length), i < q → lessL p l[i].1 = true) → (∀ h : q < l.length, lessL p l[q].1 = false) → ∀ A5 A6 v, A1.Sub A5 → GrowR A1 A5 12 49 (l.take q ++ xn :: l.drop q).length v ((l.take q ++ xn :: l.drop q).flatMap nodeC) → A5.Put A6 r 0 [v] →
      putS.post (⟨N, S, B, O, r⟩, (⟨p, d, ⟨q1, q2, q3, q4, q5, q6, q7, q8, q9, q10⟩⟩, .slice ad d.length cd), C) [] A (.tuple #[]) A6 := fun q hq h0 h1 A5 A6 v s5 hG hP => by
    have hpl : placeL (dropL N p) p = q := by
      rw [← hl]
      exact place_at (by rw [List.length_map]; exact hq) (fun i hi hik => by rw [List.getElem_map]; exact h0 i (by rw [List.length_map] at hi; exact hi) hik) (fun hi => by rw [List.getElem_map]; exact h1 (by rw [List.length_map] at hi; exact hi))
    obtain ⟨O2, hR2, hK2⟩ := h.nodesG (B' := B.plus C) s5 hG (fun j o hj => by
      rcases hpc j o hj with h2 | h2
      · exact s5 _ _ (h.sub _ _ h2)
      · exact s5 _ _ (hC1 _ _ h2)) (fun k hk => by
      cases hb : (B.plus C).blk k with
      | none => rfl
      | some o =>
        rcases hpc k o hb with h2 | h2
        · rw [h.off k hk] at h2; cases h2
        · rw [hCO k hk] at h2; cases h2) (fun g hg _ _ => by
      cases hb : (B.plus C).blk g with
      | none => rfl
      | some o =>
        rcases hpc g o hb with h2 | h2
        · have := h.sub _ _ h2; rw [hg] at this; cases this
        · have := hC1 _ _ h2; rw [hg] at this; cases this) (fun x hx => by
      rcases List.mem_append.1 hx with hx | hx
      · exact (h.data x (List.take_subset _ _ hx)).sub (plus_l _ _)
      · rcases List.mem_cons.1 hx with hx | hx
        · rw [hx, hxn]
          exact hd.sub hCP
        · exact (h.data x (List.drop_subset _ _ hx)).sub (plus_l _ _)) hP
    refine ⟨O2, ?_, fun k o hk hO => hK2.keep k o (hK.keep k o hk hO) fun h1 => ?_, fun k hk => hK.dom k (hK2.dom k hk), fun k hk => ?_⟩
    · show RefAt A6 (B.plus C) O2 r (putL N ⟨p, d, ⟨q1, q2, q3, q4, q5, q6, q7, q8, q9, q10⟩⟩) S
      unfold putL
      dsimp only
      rw [hpl, ← hl]
      rw [List.map_append, List.map_cons, List.map_take, List.map_drop, hxn] at hR2
      exact hR2
    · rcases hK.own k h1 with h2 | h2
      · exact hO h2
      · rw [hk] at h2; cases h2
    · rcases hK2.own k hk with h1 | h1
      · exact hK.own k h1
      · exact .inr (hK.dom k h1)
  conv => lhs; whnf
  refine (hD _).2 ⟨⟨Nat, fun q => q ≤ l.length ∧ ∀ i (h : i < l.length), i < q → lessL p l[i].1 = true, [0, 3], [0], fun q => [(4, .v (.int .i64 q))], fun _ => [], fun _ => A1, fun q => l.length - q⟩, ⟨(0 : Nat), ⟨Nat.zero_le _, fun i _ h => absurd h (Nat.not_lt_zero i)⟩, ⟨rfl, trivial⟩, trivial, rfl⟩, fun (q : Nat) hq => ⟨⟨trivial, trivial⟩, trivial, ?_⟩⟩
  obtain ⟨hql, hqlt⟩ := hq
  have hfl1 : ((l.take q).flatMap nodeC).length = q * 12 := by rw [flatN_len (enc := nodeC) he12, List.length_take, Nat.min_eq_left hql]
  have hfl2 : ((l.drop q).flatMap nodeC).length = (l.length - q) * 12 := by rw [flatN_len (enc := nodeC) he12, List.length_drop]
  have hfinq := hfinq q hql hqlt
  conv => lhs; whnf
  repeat (refine go_rd htop ?_
          conv => lhs; whnf)
  refine split_dec (fun hlt3 => ?_) (fun hlt3 => ?_)
  · have hqo : q < l.length := by
      have hlt3 : (q : Int) < (l.length : Int) := hlt3
      omega
    have q0 : (0 : Int) ≤ (q : Int) ∧ (q : Int) < (l.length : Int) := by omega
    have e := hao (by omega)
    subst e
    have hra : A1.rd gn 0 (l.length * 12) = some (l.flatMap nodeC) := by
      obtain ⟨_, cc, h8, h9, h10⟩ := hz3 (by omega)
      rw [rd_mk h8 (by omega), List.drop_zero, h10]
    have r1 := rd_at (row_at (enc := nodeC) (fun _ => rfl) hra q hqo rfl) (i := 0) (m := 1) (by omega)
    have r1 : A1.rd gn (0 + q * 12) 1 = some [.string l[q].1.path] := r1
    conv => lhs; whnf
    repeat (first | refine go_in q0 ?_ | refine go_rd htop ?_ | refine go_rd r1 ?_
            conv => lhs; whnf)
    refine split_b (fun hb => ?_) (fun hb => ?_) <;> (conv => lhs; whnf)
    · have hb : lessL p l[q].1 = true := hb
      refine (hD _).2 ⟨(q + 1 : Nat), ⟨⟨hqo, fun i hi hik => ?_⟩, ⟨inc_slot (by omega), trivial⟩, trivial, rfl⟩, by show l.length - (q + 1) < l.length - q; omega, ⟨same1 rfl rfl, same1 rfl rfl, trivial⟩, ⟨same1 rfl rfl, trivial⟩⟩
      by_cases e2 : i = q
      · subst e2; exact hb
      · exact hqlt i hi (by omega)
    have hb : lessL p l[q].1 = false := hb
    have hfin := hfinq (fun _ => hb)
    clear hfinq
    have hs1 : (if q = 0 then some [] else A1.rd gn (0 + bif Nat.beq c 0 then 0 else 0 * 12) (q * 12)) = some ((l.take q).flatMap nodeC) := srcN_take (enc := nodeC) he12 hra (by omega) (by cases Nat.beq c 0 <;> rfl)
    have hs2 : ∀ A4, A1.Sub A4 → (if l.length - q = 0 then some [] else A4.rd gn (0 + bif Nat.beq c q then 0 else q * 12) ((l.length - q) * 12)) = some ((l.drop q).flatMap nodeC) := fun A4 h4 => srcN_drop (enc := nodeC) he12 (rd_sub h4 hra) rfl fun hlt => by
      rw [beq_noN (by omega)]
      show 0 + q * 12 = _
      omega
    repeat (refine go_rd htop ?_
            conv => lhs; whnf)
    refine go_b (bnd_to (k := q) rfl (show q ≤ c by omega)) ?_
    conv => lhs; whnf
    refine (hD _).2 ⟨[], (l.take q).flatMap nodeC, rfl, hs1, hfl1, fun v hv => hone v (flat_sub (List.take_sublist q l) hv), by show 0 + q ≤ 9223372036854775807; omega, (hP0 q 120 (by omega) (by omega)).cap, rfl, fun _ => ⟨rfl, rfl⟩, fun _ _ h => (by cases h), fun v A2 hAp => ?_⟩
    obtain ⟨hG2, hk2⟩ := hA0 q _ v A2 hfl1 (fun _ h => h) hAp
    rw [Nat.zero_add, List.nil_append] at hG2
    have s2 : A1.Sub A2 := fun j o hj => by rw [hk2 j o hj]; exact hj
    obtain ⟨b2, c2, hv2, hb2, -⟩ := hG2.formN
    subst hv2
    conv => lhs; whnf
    refine (hD _).2 fun gb A3 hNw => ?_
    have hNx : A2.New A3 gb (nodeC xn).toArray 49 := by rw [hxn]; exact hNw
    have s3 : A1.Sub A3 := s2.trans hNx.sub
    obtain ⟨hP3, hA3⟩ := (hG2.sub hNx.sub).formB
    have hP3 := hP3 1 120 (by omega) (by omega)
    have hrow3 : A3.rd gb 0 (1 * 12) = some (nodeC xn) := hNx.rd (o := 0) (n := 1 * 12) (by rw [List.size_toArray, hxl]; omega)
    have hd3 : ∀ j, A3.blk j = none → A1.blk j = none := fun j hj => by
      cases h9 : A1.blk j with
      | none => rfl
      | some o => rw [s3 _ _ h9] at hj; cases hj
    refine Or.elim hb2 (fun hb2 => ?_) (fun hb2 => ?_)
    rotate_left
    obtain ⟨g2, hb2⟩ := hb2
    all_goals
      subst hb2
      conv => lhs; whnf
      refine (hD _).2 ⟨(l.take q).flatMap nodeC, nodeC xn, hP3.rd, ?_, rfl, honex, ?_, hP3.cap, rfl, hP3.none_, fun g' o' he' hle' _ => hP3.room 12 rfl g' o' he' hle', fun v A4 hAp => ?_⟩
      · show (if 1 * 12 = 0 then some [] else A3.rd gb 0 (1 * 12)) = _
        rw [if_neg (by omega)]; exact hrow3
      · show q + 1 ≤ 9223372036854775807
        omega
      obtain ⟨hG4, hk4⟩ := hA3 1 _ v A4 rfl hd3 hAp
      have s4 : A1.Sub A4 := fun j o hj => by rw [hk4 j o hj]; exact s3 _ _ hj
      obtain ⟨b4, c4, hv4, hb4, -⟩ := hG4.formN
      subst hv4
      obtain ⟨hP4, hA4⟩ := hG4.formB
      have hP4 := hP4 (l.length - q) 120 (by omega) (by omega)
      have hd4 : ∀ j, A4.blk j = none → A1.blk j = none := fun j hj => by
        cases h9 : A1.blk j with
        | none => rfl
        | some o => rw [s4 _ _ h9] at hj; cases hj
      have htop4 := rd_sub s4 htop
      conv => lhs; whnf
      repeat (refine go_rd htop4 ?_
              conv => lhs; whnf)
      refine go_b (bnd_from (k := q) rfl (show q ≤ l.length by omega)) ?_
      refine Or.elim hb4 (fun hb4 => ?_) (fun hb4 => ?_)
      rotate_left
      obtain ⟨g4, hb4⟩ := hb4
      all_goals
        subst hb4
        conv => lhs; whnf
        refine (hD _).2 ⟨(l.take q).flatMap nodeC ++ nodeC xn, (l.drop q).flatMap nodeC, hP4.rd, hs2 A4 s4, hfl2, fun v hv => hone v (flat_sub (List.drop_sublist q l) hv), by show (q + 1) + (l.length - q) ≤ 9223372036854775807; omega, hP4.cap, rfl, hP4.none_, fun g' o' he' hle' _ => hP4.room _ hfl2 g' o' he' hle', fun v A5 hAp => ?_⟩
        obtain ⟨hG5, hk5⟩ := hA4 (l.length - q) _ v A5 hfl2 hd4 hAp
        have s5 : A1.Sub A5 := fun j o hj => by rw [hk5 j o hj]; exact s4 _ _ hj
        have hG6 : GrowR A1 A5 12 49 (l.take q ++ xn :: l.drop q).length v ((l.take q ++ xn :: l.drop q).flatMap nodeC) := by
          have e1 : (l.take q ++ xn :: l.drop q).length = (q + 1) + (l.length - q) := by
            rw [List.length_append, List.length_cons, List.length_take, List.length_drop]; omega
          rw [e1, List.flatMap_append, List.flatMap_cons, ← List.append_assoc]
          exact hG5
        obtain ⟨b5, c5, hv5, -, -⟩ := hG6.formN
        subst hv5
        have hT5 : CellsAt A5 r [.slice (some ⟨gn, 0, none⟩) l.length c, vs'] := h.top.sub fun o ho => s5 _ _ ho
        conv => lhs; whnf
        refine (hD _).2 ⟨hT5.room (o := 0) (n := 1) (by show 0 + 1 ≤ 2; omega), fun A6 hP => ?_⟩
        have hP : A5.Put A6 r 0 [.slice (addrA b5) (l.take q ++ xn :: l.drop q).length c5] := hP
        have hend := hfin A5 A6 _ s5 hG6 hP
        conv => lhs; whnf
        exact (hD _).2 hend
  · have hqe : q = l.length := by
      have hlt3 : ¬ (q : Int) < (l.length : Int) := hlt3
      omega
    have hfin := hfinq (fun h => absurd h (Nat.not_lt.2 (Nat.le_of_eq hqe.symm)))
    clear hfinq
    refine Or.elim hcs (fun e => ?_) (fun e => ?_)
    · have hz9 : c = 0 := hz1 e
      have hl0 : l.length = 0 := by
        rcases Nat.eq_zero_or_pos l.length with h9 | h9
        · exact h9
        · rw [hao h9] at e; cases e
      have hzq : q = 0 := by omega
      clear hz3 hao hz1
      subst e
      subst hz9
      subst hzq
      have hs1 : (if 0 = 0 then some [] else none) = some ((l.take 0).flatMap nodeC) := by
        rw [if_pos rfl, List.take_zero]; rfl
      have hs2 : ∀ A4, A1.Sub A4 → (if l.length - 0 = 0 then some [] else none) = some ((l.drop 0).flatMap nodeC) := fun A4 h4 => by
        rw [if_pos (by omega), List.length_eq_zero_iff.1 hl0]; rfl
      conv => lhs; whnf
      repeat (refine go_rd htop ?_
              conv => lhs; whnf)
      clear hz2
      refine (hD _).2 ⟨[], (l.take 0).flatMap nodeC, rfl, hs1, hfl1, fun v hv => hone v (flat_sub (List.take_sublist 0 l) hv), by show 0 + 0 ≤ 9223372036854775807; omega, (hP0 0 120 (by omega) (by omega)).cap, rfl, fun _ => ⟨rfl, rfl⟩, fun _ _ h => (by cases h), fun v A2 hAp => ?_⟩
      obtain ⟨hG2, hk2⟩ := hA0 0 _ v A2 hfl1 (fun _ h => h) hAp
      rw [Nat.zero_add, List.nil_append] at hG2
      have s2 : A1.Sub A2 := fun j o hj => by rw [hk2 j o hj]; exact hj
      obtain ⟨b2, c2, hv2, hb2, -⟩ := hG2.formN
      subst hv2
      conv => lhs; whnf
      refine (hD _).2 fun gb A3 hNw => ?_
      have hNx : A2.New A3 gb (nodeC xn).toArray 49 := by rw [hxn]; exact hNw
      have s3 : A1.Sub A3 := s2.trans hNx.sub
      obtain ⟨hP3, hA3⟩ := (hG2.sub hNx.sub).formB
      have hP3 := hP3 1 120 (by omega) (by omega)
      have hrow3 : A3.rd gb 0 (1 * 12) = some (nodeC xn) := hNx.rd (o := 0) (n := 1 * 12) (by rw [List.size_toArray, hxl]; omega)
      have hd3 : ∀ j, A3.blk j = none → A1.blk j = none := fun j hj => by
        cases h9 : A1.blk j with
        | none => rfl
        | some o => rw [s3 _ _ h9] at hj; cases hj
      refine Or.elim hb2 (fun hb2 => ?_) (fun hb2 => ?_)
      rotate_left
      obtain ⟨g2, hb2⟩ := hb2
      all_goals
        subst hb2
        conv => lhs; whnf
        refine (hD _).2 ⟨(l.take 0).flatMap nodeC, nodeC xn, hP3.rd, ?_, rfl, honex, ?_, hP3.cap, rfl, hP3.none_, fun g' o' he' hle' _ => hP3.room 12 rfl g' o' he' hle', fun v A4 hAp => ?_⟩
        · show (if 1 * 12 = 0 then some [] else A3.rd gb 0 (1 * 12)) = _
          rw [if_neg (by omega)]; exact hrow3
        · show 0 + 1 ≤ 9223372036854775807
          omega
        obtain ⟨hG4, hk4⟩ := hA3 1 _ v A4 rfl hd3 hAp
        have s4 : A1.Sub A4 := fun j o hj => by rw [hk4 j o hj]; exact s3 _ _ hj
        obtain ⟨b4, c4, hv4, hb4, -⟩ := hG4.formN
        subst hv4
        obtain ⟨hP4, hA4⟩ := hG4.formB
        have hP4 := hP4 (l.length - 0) 120 (by omega) (by omega)
        have hd4 : ∀ j, A4.blk j = none → A1.blk j = none := fun j hj => by
          cases h9 : A1.blk j with
          | none => rfl
          | some o => rw [s4 _ _ h9] at hj; cases hj
        have htop4 := rd_sub s4 htop
        conv => lhs; whnf
        repeat (refine go_rd htop4 ?_
                conv => lhs; whnf)
        refine Or.elim hb4 (fun hb4 => ?_) (fun hb4 => ?_)
        rotate_left
        obtain ⟨g4, hb4⟩ := hb4
        all_goals
          subst hb4
          conv => lhs; whnf
          refine (hD _).2 ⟨(l.take 0).flatMap nodeC ++ nodeC xn, (l.drop 0).flatMap nodeC, hP4.rd, hs2 A4 s4, hfl2, fun v hv => hone v (flat_sub (List.drop_sublist 0 l) hv), by show (0 + 1) + (l.length - 0) ≤ 9223372036854775807; omega, hP4.cap, rfl, hP4.none_, fun g' o' he' hle' _ => hP4.room _ hfl2 g' o' he' hle', fun v A5 hAp => ?_⟩
          obtain ⟨hG5, hk5⟩ := hA4 (l.length - 0) _ v A5 hfl2 hd4 hAp
          have s5 : A1.Sub A5 := fun j o hj => by rw [hk5 j o hj]; exact s4 _ _ hj
          have hG6 : GrowR A1 A5 12 49 (l.take 0 ++ xn :: l.drop 0).length v ((l.take 0 ++ xn :: l.drop 0).flatMap nodeC) := by
            have e1 : (l.take 0 ++ xn :: l.drop 0).length = (0 + 1) + (l.length - 0) := by
              rw [List.length_append, List.length_cons, List.length_take, List.length_drop]; omega
            rw [e1, List.flatMap_append, List.flatMap_cons, ← List.append_assoc]
            exact hG5
          obtain ⟨b5, c5, hv5, -, -⟩ := hG6.formN
          subst hv5
          have hT5 : CellsAt A5 r [.slice none l.length 0, vs'] := h.top.sub fun o ho => s5 _ _ ho
          conv => lhs; whnf
          refine (hD _).2 ⟨hT5.room (o := 0) (n := 1) (by show 0 + 1 ≤ 2; omega), fun A6 hP => ?_⟩
          have hP : A5.Put A6 r 0 [.slice (addrA b5) (l.take 0 ++ xn :: l.drop 0).length c5] := hP
          have hend := hfin A5 A6 _ s5 hG6 hP
          conv => lhs; whnf
          exact (hD _).2 hend
    · obtain ⟨g9, o9, e⟩ := e
      have hra : 0 < l.length → g9 = gn ∧ o9 = 0 ∧ A1.rd gn 0 (l.length * 12) = some (l.flatMap nodeC) := fun hn => by
        obtain ⟨e1, cc, h8, h9, h10⟩ := hz3 hn
        rw [e1] at e
        injection e with e
        injection e with e2 e3
        exact ⟨e2.symm, e3.symm, by rw [rd_mk h8 (by omega), List.drop_zero, h10]⟩
      have hs1 : (if q = 0 then some [] else A1.rd g9 (o9 + bif Nat.beq c 0 then 0 else 0 * 12) (q * 12)) = some ((l.take q).flatMap nodeC) := by
        by_cases h0 : q = 0
        · rw [if_pos h0, h0, List.take_zero]; rfl
        · obtain ⟨e1, e2, e3⟩ := hra (by omega)
          rw [e1, e2]
          exact srcN_take (enc := nodeC) he12 e3 (by omega) (by cases Nat.beq c 0 <;> rfl)
      have hs2 : ∀ A4, A1.Sub A4 → (if l.length - q = 0 then some [] else A4.rd g9 (o9 + bif Nat.beq c q then 0 else q * 12) ((l.length - q) * 12)) = some ((l.drop q).flatMap nodeC) := fun A4 h4 => by
        rw [if_pos (by omega), List.drop_eq_nil_of_le (by omega)]; rfl
      subst e
      conv => lhs; whnf
      repeat (refine go_rd htop ?_
              conv => lhs; whnf)
      clear hz1 hz2 hz3 hao hra
      refine go_b (bnd_to (k := q) rfl (show q ≤ c by omega)) ?_
      conv => lhs; whnf
      refine (hD _).2 ⟨[], (l.take q).flatMap nodeC, rfl, hs1, hfl1, fun v hv => hone v (flat_sub (List.take_sublist q l) hv), by show 0 + q ≤ 9223372036854775807; omega, (hP0 q 120 (by omega) (by omega)).cap, rfl, fun _ => ⟨rfl, rfl⟩, fun _ _ h => (by cases h), fun v A2 hAp => ?_⟩
      obtain ⟨hG2, hk2⟩ := hA0 q _ v A2 hfl1 (fun _ h => h) hAp
      rw [Nat.zero_add, List.nil_append] at hG2
      have s2 : A1.Sub A2 := fun j o hj => by rw [hk2 j o hj]; exact hj
      obtain ⟨b2, c2, hv2, hb2, -⟩ := hG2.formN
      subst hv2
      conv => lhs; whnf
      refine (hD _).2 fun gb A3 hNw => ?_
      have hNx : A2.New A3 gb (nodeC xn).toArray 49 := by rw [hxn]; exact hNw
      have s3 : A1.Sub A3 := s2.trans hNx.sub
      obtain ⟨hP3, hA3⟩ := (hG2.sub hNx.sub).formB
      have hP3 := hP3 1 120 (by omega) (by omega)
      have hrow3 : A3.rd gb 0 (1 * 12) = some (nodeC xn) := hNx.rd (o := 0) (n := 1 * 12) (by rw [List.size_toArray, hxl]; omega)
      have hd3 : ∀ j, A3.blk j = none → A1.blk j = none := fun j hj => by
        cases h9 : A1.blk j with
        | none => rfl
        | some o => rw [s3 _ _ h9] at hj; cases hj
      refine Or.elim hb2 (fun hb2 => ?_) (fun hb2 => ?_)
      rotate_left
      obtain ⟨g2, hb2⟩ := hb2
      all_goals
        subst hb2
        conv => lhs; whnf
        refine (hD _).2 ⟨(l.take q).flatMap nodeC, nodeC xn, hP3.rd, ?_, rfl, honex, ?_, hP3.cap, rfl, hP3.none_, fun g' o' he' hle' _ => hP3.room 12 rfl g' o' he' hle', fun v A4 hAp => ?_⟩
        · show (if 1 * 12 = 0 then some [] else A3.rd gb 0 (1 * 12)) = _
          rw [if_neg (by omega)]; exact hrow3
        · show q + 1 ≤ 9223372036854775807
          omega
        obtain ⟨hG4, hk4⟩ := hA3 1 _ v A4 rfl hd3 hAp
        have s4 : A1.Sub A4 := fun j o hj => by rw [hk4 j o hj]; exact s3 _ _ hj
        obtain ⟨b4, c4, hv4, hb4, -⟩ := hG4.formN
        subst hv4
        obtain ⟨hP4, hA4⟩ := hG4.formB
        have hP4 := hP4 (l.length - q) 120 (by omega) (by omega)
        have hd4 : ∀ j, A4.blk j = none → A1.blk j = none := fun j hj => by
          cases h9 : A1.blk j with
          | none => rfl
          | some o => rw [s4 _ _ h9] at hj; cases hj
        have htop4 := rd_sub s4 htop
        conv => lhs; whnf
        repeat (refine go_rd htop4 ?_
                conv => lhs; whnf)
        refine go_b (bnd_from (k := q) rfl (show q ≤ l.length by omega)) ?_
        refine Or.elim hb4 (fun hb4 => ?_) (fun hb4 => ?_)
        rotate_left
        obtain ⟨g4, hb4⟩ := hb4
        all_goals
          subst hb4
          conv => lhs; whnf
          refine (hD _).2 ⟨(l.take q).flatMap nodeC ++ nodeC xn, (l.drop q).flatMap nodeC, hP4.rd, hs2 A4 s4, hfl2, fun v hv => hone v (flat_sub (List.drop_sublist q l) hv), by show (q + 1) + (l.length - q) ≤ 9223372036854775807; omega, hP4.cap, rfl, hP4.none_, fun g' o' he' hle' _ => hP4.room _ hfl2 g' o' he' hle', fun v A5 hAp => ?_⟩
          obtain ⟨hG5, hk5⟩ := hA4 (l.length - q) _ v A5 hfl2 hd4 hAp
          have s5 : A1.Sub A5 := fun j o hj => by rw [hk5 j o hj]; exact s4 _ _ hj
          have hG6 : GrowR A1 A5 12 49 (l.take q ++ xn :: l.drop q).length v ((l.take q ++ xn :: l.drop q).flatMap nodeC) := by
            have e1 : (l.take q ++ xn :: l.drop q).length = (q + 1) + (l.length - q) := by
              rw [List.length_append, List.length_cons, List.length_take, List.length_drop]; omega
            rw [e1, List.flatMap_append, List.flatMap_cons, ← List.append_assoc]
            exact hG5
          obtain ⟨b5, c5, hv5, -, -⟩ := hG6.formN
          subst hv5
          have hT5 : CellsAt A5 r [.slice (some ⟨g9, o9, none⟩) l.length c, vs'] := h.top.sub fun o ho => s5 _ _ ho
          conv => lhs; whnf
          refine (hD _).2 ⟨hT5.room (o := 0) (n := 1) (by show 0 + 1 ≤ 2; omega), fun A6 hP => ?_⟩
          have hP : A5.Put A6 r 0 [.slice (addrA b5) (l.take q ++ xn :: l.drop q).length c5] := hP
          have hend := hfin A5 A6 _ s5 hG6 hP
          conv => lhs; whnf
          exact (hD _).2 hend

end
end Go.Proofs.YtbebacffaljckaaGreatDoor

namespace Go.Proofs.YtbebacffaljckaaGreatDoor
open Go.Sx Go.RowKit Go.Shelf
noncomputable section

def joinRen : Go.Shelf.Ren := ⟨fun | 156 => 110 | 165 => 115 | 166 => 116 | 169 => 117 | 240 => 125 | 241 => 126 | 276 => 132 | 277 => 133 | n => n, fun | 31 => 52 | 9 => 9 | 3 => 3 | 4 => 4 | 0 => 0 | 20 => 20 | 72 => 151 | 76 => 155 | 70 => 149 | 37 => 33 | 75 => 154 | 127 => 160 | 164 => 165 | 5 => 5 | 80 => 157 | n => n, fun | n => n⟩
theorem joinLays : Lays.n156 Tryz.prog joinRen where
  mixed := by kernel_rfl
  f156 := Tryz.func110.trans (congrArg some (by kernel_rfl))
  f165 := Tryz.func115.trans (congrArg some (by kernel_rfl))
  f166 := Tryz.func116.trans (congrArg some (by kernel_rfl))
  f169 := Tryz.func117.trans (congrArg some (by kernel_rfl))
  f240 := Tryz.func125.trans (congrArg some (by kernel_rfl))
  f241 := Tryz.func126.trans (congrArg some (by kernel_rfl))
  f276 := Tryz.func132.trans (congrArg some (by kernel_rfl))
  f277 := Tryz.func133.trans (congrArg some (by kernel_rfl))
  t0 := Tryz.underlying0
  a0 := Tryz.isAgg0
  z0 := Tryz.sizeOf0
  v0 := Tryz.zeroValue0
  t3 := Tryz.underlying3
  a3 := Tryz.isAgg3
  z3 := Tryz.sizeOf3
  v3 := Tryz.zeroValue3
  t4 := Tryz.underlying4
  a4 := Tryz.isAgg4
  z4 := Tryz.sizeOf4
  v4 := Tryz.zeroValue4
  t9 := Tryz.underlying9
  a9 := Tryz.isAgg9
  z9 := Tryz.sizeOf9
  v9 := Tryz.zeroValue9
  t20 := Tryz.underlying20
  a20 := Tryz.isAgg20
  z20 := Tryz.sizeOf20
  v20 := Tryz.zeroValue20
  t31 := Tryz.underlying52
  a31 := Tryz.isAgg52
  z31 := Tryz.sizeOf52
  v31 := Tryz.zeroValue52
  t37 := Tryz.underlying33
  a37 := Tryz.isAgg33
  z37 := Tryz.sizeOf33
  v37 := Tryz.zeroValue33
  t70 := Tryz.underlying149
  a70 := Tryz.isAgg149
  z70 := Tryz.sizeOf149
  v70 := Tryz.zeroValue149
  t72 := Tryz.underlying151
  a72 := Tryz.isAgg151
  z72 := Tryz.sizeOf151
  v72 := Tryz.zeroValue151
  t75 := Tryz.underlying154
  a75 := Tryz.isAgg154
  z75 := Tryz.sizeOf154
  v75 := Tryz.zeroValue154
  t76 := Tryz.underlying155
  a76 := Tryz.isAgg155
  z76 := Tryz.sizeOf155
  v76 := Tryz.zeroValue155
  t127 := Tryz.underlying160
  a127 := Tryz.isAgg160
  z127 := Tryz.sizeOf160
  v127 := Tryz.zeroValue160
  t164 := Tryz.underlying165
  a164 := Tryz.isAgg165
  z164 := Tryz.sizeOf165
  v164 := Tryz.zeroValue165

theorem joinExtra : Builder.Extra Tryz.prog joinRen where
  sizeBuilder := by kernel_rfl
  liesBuilder := by kernel_rfl
  t5 := Tryz.underlying5
  a5 := Tryz.isAgg5
  z5 := Tryz.sizeOf5
  v5 := Tryz.zeroValue5
  infoByte := by kernel_rfl
  cellsByte := by kernel_rfl
  sizeByte := by kernel_rfl
  neB5 := by decide

def joinS : FSpec := ⟨List (List UInt8), fun ls vs A => ∃ x, vs = [x, strV [47]] ∧ Sl A 1 ls.length x (ls.map strV) ∧ ls.length ≤ 1000 ∧ (Lib.join ls [47]).length ≤ 1000, fun ls _ A v A' => A' = A ∧ v = strV (Lib.join ls [47])⟩

theorem cell_at {A : Arena} {w : World} (hA : ∀ k o, A.blk k = some o → w.heap[k]? = some o) {g o n : Nat} {cs : List Value} (h : A.rd g o n = some cs) {j : Nat} {v : Value} (hj : cs[j]? = some v) : w.cell? ⟨g, o + j, none⟩ = some v ∧ g < w.heap.size := by
  obtain ⟨c, t, fz, hb, hle, rfl⟩ := rd_some h
  have hw := hA _ _ hb
  have hjn : j < n := by
    have := (List.getElem?_eq_some_iff.1 hj).1
    simp at this; omega
  rw [List.getElem?_take_of_lt hjn, List.getElem?_drop, Array.getElem?_toList] at hj
  refine ⟨?_, (Array.getElem?_eq_some_iff.1 hw).1⟩
  unfold World.cell?
  rw [hw]
  simp only [Option.isSome_none, Bool.false_eq_true, if_false]
  rw [hj]

theorem join_ok : FOk Tryz.prog 110 joinS := by
  intro (ls : List (List UInt8)) vs A w hA hp
  obtain ⟨x, rfl, ⟨ao, c, rfl, hc, hl, ha1, ha2, ha3⟩, hN, hlen⟩ : ∃ x, vs = [x, strV [47]] ∧ Sl A 1 ls.length x (ls.map strV) ∧ ls.length ≤ 1000 ∧ (Lib.join ls [47]).length ≤ 1000 := hp
  refine goes_of_calls joinLays.f156 ⟨by kernel_rfl, by kernel_rfl⟩ ?_
  have hlt : ∀ k o, A.blk k = some o → k < w.heap.size := fun k o hk => (Array.getElem?_eq_some_iff.1 (hA k o hk)).1
  by_cases h0 : ls = []
  · subst h0
    intro cs
    obtain ⟨e, w', fr, ⟨k1, k2⟩, k3⟩ := Any.strings_Join_none joinLays joinExtra ao c ⟨#[47]⟩ w cs
    subst k2
    exact ⟨e, w', fr, ⟨_, k1, A, ⟨rfl, rfl⟩, rfl, rfl, rfl, fun _ _ _ => rfl, hA, fun k o ho => .inl ⟨o, ho⟩⟩, k3⟩
  · have hpos : 0 < ls.length := by
      cases ls with
      | nil => exact absurd rfl h0
      | cons y ys => simp
    obtain ⟨g, o, rfl, hr⟩ := Sl.at_ hc ha1 ha2 ha3 hpos
    have hm : (ls.map fun l => (⟨l.toArray⟩ : ByteArray)).map (·.data.toList) = ls := by
      rw [List.map_map]
      conv => rhs; rw [← List.map_id ls]
      exact List.map_congr_left fun l _ => by simp
    have hcells : ∀ (j : Nat) x, (ls.map fun l => (⟨l.toArray⟩ : ByteArray))[j]? = some x → w.cell? ⟨g, o + j, none⟩ = some (.string x) := fun j x hx => by
      refine (cell_at hA hr (j := j) (v := .string x) ?_).1
      rw [List.getElem?_map] at hx ⊢
      cases h : ls[j]? with
      | none => rw [h] at hx; cases hx
      | some l =>
        rw [h] at hx
        injection hx with hx
        rw [← hx]; rfl
    have hg : g < w.heap.size := by
      have h1 : (ls.map strV)[0]? = some (strV ls[0]) := by rw [List.getElem?_map, List.getElem?_eq_getElem hpos]; rfl
      exact (cell_at hA hr h1).2
    have key := Any.strings_Join joinLays joinExtra g o c (ls.map fun l => (⟨l.toArray⟩ : ByteArray)) ⟨#[47]⟩ w hcells hg (by rw [List.length_map]; omega) (by rw [List.length_map]; exact hc) (by rw [hm]; show (Lib.join ls [47]).length ≤ _; omega)
    rw [hm, List.length_map] at key
    intro cs
    obtain ⟨e, w', fr, ⟨k1, b1, b2, b3, _, b5⟩, k3⟩ := key cs
    exact ⟨e, w', fr, ⟨_, k1, A, ⟨rfl, rfl⟩, b1, b3, b2, fun k _ hk => b5 k hk, fun k o hk => (b5 k (hlt k o hk)).trans (hA k o hk), fun k o ho => .inl ⟨o, ho⟩⟩, k3⟩

end
end Go.Proofs.YtbebacffaljckaaGreatDoor

namespace Go.Proofs.YtbebacffaljckaaGreatDoor
open Go.Sx Go.RowKit
noncomputable section
open Classical

theorem part_badL {l : List UInt8} {k : Nat} (hk : k < l.length) (h : okByte l[k] = false) : partOk l = false := by
  have : l.all okByte = false := by
    rw [List.all_eq_false]
    exact ⟨l[k], List.getElem_mem hk, by simp [h]⟩
  unfold partOk
  rw [this]; rfl

def refPartS : FSpec := ⟨ByteArray, fun s vs _ => vs = [.string s] ∧ s.data.toList.length ≤ 140737488351232, fun s _ A v A' => A' = A ∧ v = .bool (partOk s.data.toList)⟩

set_option maxRecDepth 100000 in
set_option maxHeartbeats 0 in
theorem refPart_ok : FOk Tryz.prog 99 refPartS := by
  refine fok_v mixed fun (s : ByteArray) vs A hp => ?_
  obtain ⟨rfl, hsz⟩ : vs = [.string s] ∧ s.data.toList.length ≤ 140737488351232 := hp
  refine ⟨noC, tabO Tryz.prog noC noL 60 [(99, 0)], 60, noC_sound _, tabO_sound mixed (noC_sound _) (noL_sound _) _ _, fun blk os out tape D hD => ?_⟩
  conv => lhs; whnf
  refine (hD _).2 ⟨cnt A 3 [0] [] s.data.toList.length fun k => (s.data.toList.take k).all okByte = true, ⟨(0 : Nat), ⟨Nat.zero_le _, by simp⟩, ⟨rfl, trivial⟩, trivial, rfl⟩, fun (k : Nat) hk => ⟨⟨trivial, trivial⟩, trivial, ?_⟩⟩
  simp only [cnt] at hk
  obtain ⟨hkl, hall⟩ := hk
  conv => lhs; whnf
  refine split_dec (fun hlt => ?_) (fun hlt => ?_) <;> (conv => lhs; whnf)
  · have hkl2 : k < s.data.toList.length := by
      have hlt : (k : Int) < (s.data.toList.length : Int) := hlt
      omega
    have i0 : (0 : Int) ≤ (k : Int) ∧ (k : Int) < (s.data.toList.length : Int) := by omega
    refine go_in i0 ?_
    conv => lhs; whnf
    have hg : s.data.toList.getD ((k : Nat) : Int).toNat 0 = s.data.toList[k] := by
      rw [Int.toNat_natCast, List.getD_eq_getElem?_getD, List.getElem?_eq_getElem hkl2]; rfl
    have hbad : okByte s.data.toList[k] = false → refPartS.post s [.string s] A (.bool false) A := fun hb => ⟨rfl, by rw [part_badL hkl2 hb]⟩
    refine split_dec (fun h1 => ?_) (fun h1 => ?_) <;> (conv => lhs; whnf)
    · rw [hg] at h1
      exact (hD _).2 (hbad (by unfold okByte; rw [decide_eq_false (by omega)]; rfl))
    repeat (refine go_in i0 ?_
            conv => lhs; whnf)
    refine split_dec (fun h2 => ?_) (fun h2 => ?_) <;> (conv => lhs; whnf)
    · rw [hg] at h2
      exact (hD _).2 (hbad (by unfold okByte; rw [decide_eq_false (p := (s.data.toList[k]).toNat ≤ 126) (by omega), Bool.and_false]; rfl))
    repeat (refine go_in i0 ?_
            conv => lhs; whnf)
    refine split_dec (fun h3 => ?_) (fun h3 => ?_) <;> (conv => lhs; whnf)
    · rw [hg] at h3
      have e : s.data.toList[k] = 47 := UInt8.toNat_inj.1 (Int.ofNat.inj h3)
      exact (hD _).2 (hbad (by rw [e]; rfl))
    rw [hg] at h1 h2 h3
    have hok : okByte s.data.toList[k] = true := by
      have e : s.data.toList[k] ≠ 47 := fun e => h3 (by rw [e]; rfl)
      unfold okByte
      rw [decide_eq_true (by omega), decide_eq_true (by omega)]
      simpa using e
    refine (hD _).2 ⟨(k + 1 : Nat), ⟨⟨by omega, ?_⟩, ⟨inc_slot (by omega), trivial⟩, trivial, rfl⟩, by show s.data.toList.length - (k + 1) < s.data.toList.length - k; omega, ⟨same1 rfl rfl, trivial⟩, trivial⟩
    show (s.data.toList.take (k + 1)).all okByte = true
    rw [List.take_succ_eq_append_getElem hkl2, List.all_append, hall]
    simpa using hok
  · have e : k = s.data.toList.length := by
      have hlt : ¬ (k : Int) < (s.data.toList.length : Int) := hlt
      omega
    rw [e, List.take_length] at hall
    have hend : ∀ b, b = (!s.data.toList.isEmpty && !(s.data.toList == [46]) && !(s.data.toList == [46, 46])) → refPartS.post s [.string s] A (.bool b) A := fun b hb => ⟨rfl, by rw [hb, partOk, hall, Bool.true_and]⟩
    refine split_b (fun h1 => ?_) (fun h1 => ?_) <;> (conv => lhs; whnf)
    rotate_left
    · have h1 : (!beqL s.data.toList []) = false := h1
      have e : s.data.toList = [] := beqL_iff.1 (by simpa using h1)
      exact (hD _).2 (hend false (by rw [e]; rfl))
    have h1 : (!beqL s.data.toList []) = true := h1
    have e1 : s.data.toList.isEmpty = false := by
      cases h : s.data.toList with
      | nil => rw [h] at h1; exact absurd h1 (by decide)
      | cons x xs => rfl
    refine split_b (fun h2 => ?_) (fun h2 => ?_) <;> (conv => lhs; whnf)
    rotate_left
    · have h2 : (!beqL s.data.toList [46]) = false := h2
      have e : s.data.toList = [46] := beqL_iff.1 (by simpa using h2)
      exact (hD _).2 (hend false (by rw [e]; rfl))
    have h2 : (!beqL s.data.toList [46]) = true := h2
    rw [beqL_eq] at h2
    have hfin := hend (!beqL s.data.toList [46, 46]) (by rw [beqL_eq, e1, h2]; rfl)
    exact (hD _).2 hfin

end
end Go.Proofs.YtbebacffaljckaaGreatDoor
