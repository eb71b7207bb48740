/-
  Contracts: a tree gets sittings.
  Contracts: two rows of texts: are they the same?
  Contracts: all of a tree's nodes, as they are told.
  Contracts: bytes.Equal.
  Contracts: are two trees the same?
  Trees that are alike tell the same; a copy is alike; what deeds keep of a tree.
  Trees, plain: sorted paths, counts of children, nodes that were loaded.
  Trees, plain: what nodes hold; loaded nodes; trees alike but for what is reckoned; rows of deeds.
  Trees, plain: nodes taken at whichever times, and all deeds from the first on (the stage's theorem).
  Contracts: beadlekit.Pick; a path's node among some.
  Contracts: the law of chapter 11 is awake; is a deed great?
  Rows that are made by append: many elements at once.
-/
import Derived.Test.YtabonbbfcfchmaaDoorG14
import Derived.Laws.BytesArg
import Derived.Test.YtabonbbfcfchmaaDoorG06
import Derived.Test.YtabonbbfcfchmaaDoorG07
namespace Go.Proofs.YtabonbbfcfchmaaDoor
open Go.Sx Go.RowKit
noncomputable section
open Classical

/-- Sittings as a row that came in. -/
def SlS (A : Arena) (v : Value) (l : List SitD) : Prop := Sl A 3 l.length v (l.flatMap sitC) ∧ l.length ≤ 140737488351232

theorem flat_at {α : Type} (enc : α → List Value) (k : Nat) (hk : ∀ x, (enc x).length = k) : ∀ (l : List α) (i : Nat) (hi : i < l.length), ((l.flatMap enc).drop (i * k)).take k = enc l[i]
  | [], i, hi => by simp at hi
  | x :: l, 0, _ => by
    rw [Nat.zero_mul, List.drop_zero, List.flatMap_cons, List.take_append_of_le_length (by rw [hk]; omega), List.take_of_length_le (by rw [hk]; omega)]; rfl
  | x :: l, i + 1, hi => by
    rw [List.flatMap_cons, Nat.succ_mul, Nat.add_comm, ← List.drop_drop, List.drop_left' (hk x)]
    exact flat_at enc k hk l i (by simpa using hi)

theorem flat_len {α : Type} (enc : α → List Value) (k : Nat) (hk : ∀ x, (enc x).length = k) (l : List α) : (l.flatMap enc).length = l.length * k := by
  induction l with
  | nil => simp
  | cons x l ih => rw [List.flatMap_cons, List.length_append, hk, ih, List.length_cons, Nat.succ_mul]; omega

theorem row_at {α : Type} {enc : α → List Value} {k : Nat} (hk : ∀ x, (enc x).length = k) {A : Arena} {g o n : Nat} {l : List α} (h : A.rd g o (n * k) = some (l.flatMap enc)) (i : Nat) (hi : i < l.length) (hn : n = l.length) : A.rd g (o + i * k) k = some (enc l[i]) := by
  have hle : i * k + k ≤ n * k := by rw [← Nat.succ_mul]; exact Nat.mul_le_mul_right _ (by omega)
  rw [rd_at h (i := i * k) (m := k) hle, flat_at enc k hk l i hi]

def seatOne (l : List (Int × SitD)) (s : SitD) : List (Int × SitD) := if s.ses < 1 then l else kPut s.ses s l
def seatsOf (l : List SitD) : List (Int × SitD) := l.foldl seatOne []

theorem seatsOf_snoc (l : List SitD) (s : SitD) : seatsOf (l ++ [s]) = seatOne (seatsOf l) s := by
  unfold seatsOf; rw [List.foldl_append]; rfl

theorem seatOne_nodup {l : List (Int × SitD)} (h : (l.map (·.1)).Nodup) (s : SitD) : ((seatOne l s).map (·.1)).Nodup := by
  unfold seatOne
  split
  · exact h
  · exact kPut_nodup h

structure SeG where
  k : Nat
  A : Arena

def seatInv (A2 B : Arena) (O : Nat → Prop) (t m s : Nat) (ns : List (ByteArray × NodeD)) (E : List (ByteArray × Nat × NodeD)) (l : List SitD) : LInv :=
  { γ := SeG, G := fun g => g.k ≤ l.length ∧ TreeR g.A B O t ⟨ns, seatsOf (l.take g.k)⟩ m s E ∧ ∀ b, b ≠ s → g.A.blk b = A2.blk b,
    keepS := [0, 13, 14], keepB := [], sl := fun g => [(15, .v (.int .i64 g.k))], bl := fun _ => [], ar := fun g => g.A, mu := fun g => l.length - g.k }

def seatS : FSpec := ⟨TG × List SitD × Arena, fun g vs A => ∃ x, vs = [.pointer (some ⟨g.1.t, 0, none⟩), x] ∧ TreeAt A g.1.B g.1.O g.1.t g.1.T ∧ SlS g.2.2 x g.2.1 ∧ Aside A g.2.2 g.1.O,
  fun g _ A v A' => v = .tuple #[] ∧ StepTo A g.1.B g.1.O g.1.t ⟨g.1.T.nodes, seatsOf g.2.1⟩ A'⟩

set_option maxRecDepth 100000 in
set_option maxHeartbeats 0 in
theorem seat_ok : FOk Tryd.prog 14 seatS := by
  refine fok_v mixed fun ⟨⟨T, B, O, t⟩, l, C⟩ vs A hp => ?_
  obtain ⟨x, rfl, ⟨m, s, E, h⟩, ⟨⟨ao, c, rfl, hc, _, ha1, ha2, ha3⟩, hll⟩, hAs⟩ : ∃ x, vs = [.pointer (some ⟨t, 0, none⟩), x] ∧ TreeAt A B O t T ∧ SlS C x l ∧ Aside A C O := hp
  refine ⟨noC, tabO Tryd.prog noC noL 60 [(14, 0)], 60, noC_sound _, tabO_sound mixed (noC_sound _) (noL_sound _) _ _, fun blk os out tape D hD => ?_⟩
  have htop0 : A.rd t 0 1 = some [.map (some m)] := h.top.rd (o := 0) (n := 1) (by show 0 + 1 ≤ 2; omega)
  conv => lhs; whnf
  repeat (first | refine go_rd htop0 ?_ | refine go_D hD rfl ?_
          conv => lhs; whnf)
  refine (hD _).2 fun s' A1 hs' hA1 hM1 => ?_
  have hs' : A.blk s' = none := hs'
  have hA1 : ∀ k, k ≠ s' → A1.blk k = A.blk k := hA1
  obtain ⟨ot, hot⟩ := h.live t h.own.1
  have ts : t ≠ s' := fun e => by rw [e, hs'] at hot; cases hot
  have htop1 : CellsAt A1 t [.map (some m), .map (some s)] := h.top.sub fun o ho => by rw [hA1 t ts]; exact ho
  conv => lhs; whnf
  refine (hD _).2 ⟨htop1.room (o := 1) (n := 1) (by show 1 + 1 ≤ 2; omega), fun A2 hP2 => ?_⟩
  have hP2 : A1.Put A2 t 1 [.map (some s')] := hP2
  have htop2 : CellsAt A2 t [.map (some m), .map (some s')] := htop1.put hP2 (by show 1 + 1 ≤ 2; omega)
  have hA2 : ∀ k, k ≠ t → A2.blk k = A1.blk k := hP2.other
  have live_ne : ∀ {k : Nat}, O k → k ≠ s' := fun {k} hk e => by
    obtain ⟨o, ho⟩ := h.live k hk
    rw [e, hs'] at ho; cases ho
  have hold : ∀ k, k ≠ t → k ≠ s' → A2.blk k = A.blk k := fun k h1 h2 => by rw [hA2 k h1, hA1 k h2]
  have hBs : B.blk s' = none := by
    cases hB : B.blk s' with
    | none => rfl
    | some o => have := h.sub _ _ hB; rw [hs'] at this; cases this
  have hR2 : TreeR A2 B (fun k => O k ∨ k = s') t ⟨T.nodes, seatsOf (l.take 0)⟩ m s' E :=
    { nodes := h.nodes
      top := htop2
      nmap := h.nmap.sub fun o ho => by rw [hold m (Ne.symm h.top_ne.1) (live_ne h.own.2.1)]; exact ho
      smap := hM1.sub fun o ho => by rw [hA2 s' (Ne.symm ts)]; exact ho
      cells := fun e he => (h.cells e he).mono (hold _ (h.ne.2 e he) (live_ne (h.own.2.2.2 e he))) (Arena.Sub.refl _)
      keys := h.keys
      ptrs := h.ptrs
      skeys := by simp [seatsOf]
      sub := fun k o hk => by
        rw [hold k (fun e => by subst e; rw [h.off _ h.own.1] at hk; cases hk) (fun e => by subst e; rw [hBs] at hk; cases hk)]
        exact h.sub k o hk
      own := ⟨.inl h.own.1, .inl h.own.2.1, .inr rfl, fun e he => .inl (h.own.2.2.2 e he)⟩
      off := fun k hk => by
        rcases hk with hk | rfl
        · exact h.off k hk
        · exact hBs
      live := fun k hk => by
        by_cases e : k = t
        · subst e; exact htop2.dom
        · rcases hk with hk | rfl
          · rw [hold k e (live_ne hk)]; exact h.live k hk
          · rw [hA2 _ e]
            obtain ⟨es, cl, h1, _⟩ := hM1
            exact ⟨_, h1⟩
      ne := ⟨live_ne h.own.2.1, h.ne.2⟩ }
  have hend : ∀ Ak, TreeR Ak B (fun k => O k ∨ k = s') t ⟨T.nodes, seatsOf l⟩ m s' E → (∀ b, b ≠ s' → Ak.blk b = A2.blk b) → seatS.post (⟨T, B, O, t⟩, l, C) [.pointer (some ⟨t, 0, none⟩), .slice ao l.length c] A (.tuple #[]) Ak := fun Ak hR hk => by
    refine ⟨rfl, B, _, ⟨m, s', E, hR⟩, fun k o hk' hO => ?_, fun k hn => ?_, fun k hO => ?_, Arena.Sub.refl _, fun k o hb => .inl hb⟩
    · have n1 : k ≠ t := fun e => hO (e ▸ h.own.1)
      have n2 : k ≠ s' := fun e => by rw [e, hs'] at hk'; cases hk'
      rw [hk k n2, hold k n1 n2]; exact hk'
    · by_cases n2 : k = s'
      · rw [n2]; exact hs'
      · rw [hk k n2] at hn
        by_cases n1 : k = t
        · subst n1
          obtain ⟨o, ho⟩ := htop2.dom
          rw [ho] at hn; cases hn
        · rw [hold k n1 n2] at hn; exact hn
    · rcases hO with hO | rfl
      · exact .inl hO
      · exact .inr hs'
  conv => lhs; whnf
  refine (hD _).2 ⟨seatInv A2 B (fun k => O k ∨ k = s') t m s' T.nodes E l, ⟨(⟨0, A2⟩ : SeG), ⟨Nat.zero_le _, hR2, fun _ _ => rfl⟩, ⟨rfl, trivial⟩, trivial, rfl⟩, fun (sg : SeG) hG => ⟨⟨trivial, trivial⟩, trivial, ?_⟩⟩
  obtain ⟨k, Ak⟩ := sg
  obtain ⟨hk, hR, hkeep⟩ : k ≤ l.length ∧ TreeR Ak B (fun k => O k ∨ k = s') t ⟨T.nodes, seatsOf (l.take k)⟩ m s' E ∧ ∀ b, b ≠ s' → Ak.blk b = A2.blk b := hG
  conv => lhs; whnf
  refine split_dec (fun hlt => ?_) (fun hlt => ?_) <;> (conv => lhs; whnf)
  · have hlt : k < l.length := by
      have hlt : (k : Int) < (l.length : Int) := hlt
      omega
    obtain ⟨g, o, rfl, hra⟩ := Sl.at_ hc ha1 ha2 ha3 (by omega)
    have hrow := row_at (enc := sitC) (fun _ => rfl) hra k hlt rfl
    have hCk : C.Sub Ak := fun b o hb => by
      have h1 := hAs.1 b o hb
      have n2 : b ≠ s' := fun e => by rw [e, hs'] at h1; cases h1
      rw [hkeep b n2, hold b (fun e => hAs.2 b o hb (e ▸ h.own.1)) n2]
      exact h1
    have hrow := rd_sub hCk hrow
    obtain ⟨⟨sa, sb, sc⟩, hsv⟩ : ∃ x, x = l[k] := ⟨_, rfl⟩
    rw [← hsv] at hrow
    have hrow : Ak.rd g (o + k * 3) 3 = some [.int .i64 sa, .int .i64 sb, .int .i64 sc] := hrow
    have htk : l.take (k + 1) = l.take k ++ [⟨sa, sb, sc⟩] := by rw [List.take_succ_eq_append_getElem hlt, ← hsv]
    conv => lhs; whnf
    refine split_in (fun _ _ => ?_) (fun h => by omega)
    conv => lhs; whnf
    refine go_rd hrow ?_
    conv => lhs; whnf
    have htopk : Ak.rd t 1 1 = some [.map (some s')] := hR.top.rd (o := 1) (n := 1) (by show 1 + 1 ≤ 2; omega)
    refine split_dec (fun h1 => ?_) (fun h1 => ?_) <;> (conv => lhs; whnf)
    · have hone : seatsOf (l.take (k + 1)) = kPut sa ⟨sa, sb, sc⟩ (seatsOf (l.take k)) := by
        rw [htk, seatsOf_snoc, seatOne, if_neg (by show ¬ sa < 1; omega)]
      repeat (first | refine go_rd htopk ?_ | refine go_D hD rfl ?_
              conv => lhs; whnf)
      refine (hD _).2 ⟨_, hR.smap, intL_alike sitV sa _, fun A3 hm3 ho3 => ?_⟩
      have hm3 : MapAt A3 s' (putL (.int .i64 sa) (sitV ⟨sa, sb, sc⟩) (intL sitV (seatsOf (l.take k)))) := hm3
      have ho3 : ∀ b, b ≠ s' → A3.blk b = Ak.blk b := ho3
      rw [intL_put] at hm3
      have hR3 := hR.sit ho3 hm3 (kPut_nodup hR.skeys)
      conv => lhs; whnf
      exact (hD _).2 ⟨(⟨k + 1, A3⟩ : SeG), ⟨⟨by show k + 1 ≤ l.length; omega, by rw [hone]; exact hR3, fun b hb => (ho3 b hb).trans (hkeep b hb)⟩, ⟨inc_slot (k := k) (by omega), trivial⟩, trivial, rfl⟩, by show l.length - (k + 1) < l.length - k; omega, ⟨rfl, rfl, rfl, trivial⟩, trivial⟩
    · have hone : seatsOf (l.take (k + 1)) = seatsOf (l.take k) := by
        rw [htk, seatsOf_snoc, seatOne, if_pos (by show sa < 1; omega)]
      exact (hD _).2 ⟨(⟨k + 1, Ak⟩ : SeG), ⟨⟨by show k + 1 ≤ l.length; omega, by rw [hone]; exact hR, hkeep⟩, ⟨inc_slot (k := k) (by omega), trivial⟩, trivial, rfl⟩, by show l.length - (k + 1) < l.length - k; omega, ⟨rfl, rfl, rfl, trivial⟩, trivial⟩
  · have e : k = l.length := by
      have hlt : ¬ (k : Int) < (l.length : Int) := hlt
      omega
    subst e
    rw [List.take_length] at hR
    exact (hD _).2 (hend Ak hR hkeep)

/-- Nodes laid one by one over a new tree. -/
def copyNodes (sk : List (ByteArray × Nat × NodeD)) : List (ByteArray × NodeD) := sk.foldl (fun l e => kPut e.1 e.2.2 l) treeNew.nodes

theorem copyNodes_snoc (sk : List (ByteArray × Nat × NodeD)) (e : ByteArray × Nat × NodeD) : copyNodes (sk ++ [e]) = kPut e.1 e.2.2 (copyNodes sk) := by
  unfold copyNodes; rw [List.foldl_append]; rfl

end
end Go.Proofs.YtabonbbfcfchmaaDoor

namespace Go.Proofs.YtabonbbfcfchmaaDoor
open Go.Sx Go.RowKit
noncomputable section
open Classical

/-- A slice of texts. -/
def SlT (A : Arena) (v : Value) (l : List (List UInt8)) : Prop := Sl A 1 l.length v (l.map strV) ∧ l.length ≤ 140737488351232

theorem text_at {A : Arena} {g o n : Nat} {ls : List (List UInt8)} (h : A.rd g o (n * 1) = some (ls.map strV)) (k : Nat) (hk : k < ls.length) (hn : n = ls.length) : A.rd g (o + k * 1) 1 = some [.string ⟨ls[k].toArray⟩] := by
  rw [rd_at h (i := k * 1) (m := 1) (by omega)]
  congr 1
  refine List.ext_getElem? fun i => ?_
  cases i with
  | zero => simp [hk, strV]
  | succ i =>
    simp
    omega

def sameTextsS : FSpec := ⟨List (List UInt8) × List (List UInt8), fun g vs A => ∃ x y, vs = [x, y] ∧ SlT A x g.1 ∧ SlT A y g.2, fun g _ A v A' => A' = A ∧ v = .bool (decide (g.1 = g.2))⟩

set_option maxRecDepth 100000 in
set_option maxHeartbeats 0 in
theorem sameTexts_ok : FOk Tryd.prog 24 sameTextsS := by
  refine fok_v mixed fun ⟨ls, bs⟩ vs A hp => ?_
  simp only [sameTextsS] at hp
  obtain ⟨x, y, rfl, ⟨⟨ao, c, rfl, hc, _, ha1, ha2, ha3⟩, hxl⟩, ⟨bo, d, rfl, hd, _, hb1, hb2, hb3⟩, hyl⟩ := hp
  refine ⟨noC, tabO Tryd.prog noC noL 60 [(24, 0)], 60, noC_sound _, tabO_sound mixed (noC_sound _) (noL_sound _) _ _, fun blk os out tape D hD => ?_⟩
  conv => lhs; whnf
  refine split_b (fun hb => ?_) (fun hb => ?_) <;> (conv => lhs; whnf)
  · refine (hD _).2 ⟨rfl, ?_⟩
    have : ls ≠ bs := fun e => by subst e; simp at hb
    simp [this]
  · have hlen : ls.length = bs.length := by
      have : (ls.length : Int) = bs.length := by simpa using hb
      omega
    refine (hD _).2 ⟨cnt A 5 [0, 1] [] ls.length fun k => ls.take k = bs.take k, ⟨(0 : Nat), ⟨Nat.zero_le _, rfl⟩, ⟨rfl, trivial⟩, trivial, rfl⟩, fun (k : Nat) hk => ⟨⟨trivial, trivial⟩, trivial, ?_⟩⟩
    simp only [cnt] at hk
    conv => lhs; whnf
    refine split_dec (fun hlt => ?_) (fun hb => ?_) <;> (conv => lhs; whnf)
    · have hlt : k < ls.length := by omega
      obtain ⟨g, o, rfl, hra⟩ := Sl.at_ hc ha1 ha2 ha3 (by omega)
      obtain ⟨g', o', rfl, hrb⟩ := Sl.at_ hd hb1 hb2 hb3 (by omega)
      conv => lhs; whnf
      refine split_in (fun _ _ => ?_) (fun h => by omega)
      conv => lhs; whnf
      refine go_rd (text_at hra k hlt rfl) ?_
      conv => lhs; whnf
      refine split_in (fun _ _ => ?_) (fun h => by omega)
      conv => lhs; whnf
      refine go_rd (text_at hrb k (by omega) rfl) ?_
      conv => lhs; whnf
      refine split_b (fun hb => ?_) (fun hb => ?_) <;> (conv => lhs; whnf)
      · refine (hD _).2 ⟨rfl, ?_⟩
        have : ls ≠ bs := fun e => by
          subst e
          have h9 : beqL ls[k] ls[k] = true := beqL_iff.2 rfl
          simp [h9] at hb
        simp [this]
      · have he : ls[k] = bs[k] := by
          have h8 : beqL ls[k] bs[k] = true := by simpa using hb
          exact beqL_iff.1 h8
        refine (hD _).2 ⟨(k + 1 : Nat), ⟨⟨by omega, ?_⟩, ⟨inc_slot (by omega), trivial⟩, trivial, rfl⟩, ?_, ⟨rfl, rfl, trivial⟩, trivial⟩
        · show ls.take (k + 1) = bs.take (k + 1)
          rw [List.take_succ_eq_append_getElem hlt, List.take_succ_eq_append_getElem (by omega), hk.2, he]
        · show ls.length - (k + 1) < ls.length - k
          omega
    · refine (hD _).2 ⟨rfl, ?_⟩
      have h1 : k = ls.length := by omega
      have : ls = bs := by
        have := hk.2
        rw [h1, List.take_length, hlen, List.take_length] at this
        exact this
      simp [this]

end
end Go.Proofs.YtabonbbfcfchmaaDoor

namespace Go.Proofs.YtabonbbfcfchmaaDoor
open Go.Sx Go.RowKit
noncomputable section
open Classical

structure ToldD where
  path : ByteArray
  data : List UInt8
  stat : StatD

def bytesOf (l : List UInt8) : ByteArray := ⟨l.toArray⟩

theorem bytesOf_pathL (q : ByteArray) : bytesOf (pathL q) = q := by
  obtain ⟨⟨l⟩⟩ := q; rfl

def kidsN (T : TreeD) (p : ByteArray) : Nat := (T.nodes.map (·.1)).countP fun q => decide (parentP q = p)

def toldOf (T : TreeD) (p : ByteArray) : ToldD := match kGet p T.nodes with
  | some n => ⟨p, n.data, { n.stat with len := n.data.length, kids := kidsN T p }⟩
  | none => ⟨p, [], ⟨0, 0, 0, 0, 0, 0, 0, 0, 0, 0⟩⟩

def treeAll (T : TreeD) : List ToldD := (treePaths T).map fun l => toldOf T (bytesOf l)

def nodeC (x : ToldD × Value) : List Value := .string x.1.path :: x.2 :: x.1.stat.cells

/-- A row of nodes. -/
def NodesS (D : Arena) (v : Value) (ns : List ToldD) : Prop := ∃ l : List (ToldD × Value), l.map (·.1) = ns ∧ Sl D 12 ns.length v (l.flatMap nodeC) ∧ ∀ x ∈ l, SlB D x.2 x.1.data

abbrev natV (n : Nat) : Value := .int .i64 n

theorem wrap_inc {k : Nat} (h : k < 9223372036854775807) : IntKind.i64.wrap ((k : Int) + 1) = ((k + 1 : Nat) : Int) := by
  have h1 := inc_slot h
  injection h1 with h1
  injection h1 with h1
  injection h1

structure A1G where
  k : Nat
  A : Arena
  l : List (ByteArray × Nat)

def kidCount (ps : List (List UInt8)) (q : ByteArray) : Nat := ps.countP fun x => decide (parentP (bytesOf x) = q)

theorem kidCount_snoc (ps : List (List UInt8)) (k : Nat) (hk : k < ps.length) (q : ByteArray) : kidCount (ps.take (k + 1)) q = kidCount (ps.take k) q + if q = parentP (bytesOf ps[k]) then 1 else 0 := by
  unfold kidCount
  rw [List.take_succ_eq_append_getElem hk, List.countP_append]
  congr 1
  by_cases h : q = parentP (bytesOf ps[k])
  · rw [if_pos h, h]; simp
  · rw [if_neg h]
    have h' : ¬ parentP (bytesOf ps[k]) = q := fun e => h e.symm
    simp [h']

theorem kidCount_le (ps : List (List UInt8)) (q : ByteArray) : kidCount ps q ≤ ps.length := List.countP_le_length

theorem sortL_perm (l : List (List UInt8)) : (sortL l).Perm l := List.mergeSort_perm _ _

theorem paths_mem {T : TreeD} {x : List UInt8} (h : x ∈ treePaths T) : bytesOf x ∈ T.nodes.map (·.1) := by
  obtain ⟨e, he, h3⟩ := List.mem_map.1 ((sortL_perm _).mem_iff.1 h)
  exact List.mem_map.2 ⟨e, he, by rw [← h3, bytesOf_pathL]⟩

theorem count_paths (T : TreeD) (q : ByteArray) : kidCount (treePaths T) q = kidsN T q := by
  rw [kidCount, kidsN, treePaths, (sortL_perm _).countP_eq, List.countP_map, List.countP_map]
  refine List.countP_congr fun e _ => ?_
  simp only [Function.comp_apply, bytesOf_pathL]

theorem minus_mono {A K K' : Arena} (h : K.Sub K') : (K.minus A).Sub (K'.minus A) := fun k o hk => by
  obtain ⟨h1, h2⟩ := minus_blk hk
  show (match A.blk k with
    | none => K'.blk k
    | some _ => none) = some o
  rw [h1]; exact h _ _ h2

theorem grow_know {K K' A : Arena} {es : Nat} {e : TypeId} {n : Nat} {v : Value} {cs : List Value} (h : GrowR K A es e n v cs) (hk : ∀ k o, K.blk k = none → A.blk k = some o → K'.blk k = none) : GrowR K' A es e n v cs := by
  obtain ⟨h1, h2 | ⟨g, nc, c, h3, h4, h4', h5, h6, h7, h8⟩⟩ := h
  · exact ⟨h1, .inl h2⟩
  · exact ⟨h1, .inr ⟨g, nc, c, h3, h4, h4', hk g _ h5 h6, h6, h7, h8⟩⟩

/-- A row that was made is new memory. -/
theorem grow_sl {A0 K A : Arena} {es : Nat} {e : TypeId} {n : Nat} {v : Value} {cs : List Value} (h : GrowR K A es e n v cs) (h0 : A0.Sub K) : Sl (A.minus A0) es n v cs := by
  obtain ⟨h1, ⟨rfl, rfl⟩ | ⟨g, nc, c, rfl, h4, h4', h5, h6, h7, h8⟩⟩ := h
  · have hc : cs = [] := List.length_eq_zero_iff.1 (by rw [h1]; simp)
    subst hc
    exact Sl.nil _ _
  · have hg : A0.blk g = none := by
      cases hA : A0.blk g with
      | none => rfl
      | some o => rw [h0 _ _ hA] at h5; cases h5
    have hle : n * es ≤ nc * es := Nat.mul_le_mul_right _ h4
    refine Sl.row h4 (rd_minus ?_ hg)
    rw [rd_mk h6 (by omega), List.drop_zero, h8]

def allInv1 (A2 : Arena) (c : Nat) (ps : List (List UInt8)) : LInv :=
  { γ := A1G, G := fun g => g.k ≤ ps.length ∧ (∀ b, b ≠ c → g.A.blk b = A2.blk b) ∧ MapAt g.A c (strL natV g.l) ∧ ∀ q, (kGet q g.l).getD 0 = kidCount (ps.take g.k) q,
    keepS := [0, 3, 4, 14, 15], keepB := [], sl := fun g => [(16, .v (.int .i64 g.k))], bl := fun _ => [], ar := fun g => g.A, mu := fun g => ps.length - g.k }

structure A2G where
  k : Nat
  A : Arena
  K : Arena
  v : Value
  l : List (ToldD × Value)

def allInv2 (A AL : Arena) (T : TreeD) (ps : List (List UInt8)) : LInv :=
  { γ := A2G, G := fun g => g.k ≤ ps.length ∧ g.K.Sub g.A ∧ AL.Sub g.K ∧ GrowR g.K g.A 12 39 g.k g.v (g.l.flatMap nodeC) ∧ g.l.map (·.1) = (ps.take g.k).map (fun x => toldOf T (bytesOf x)) ∧ ∀ x ∈ g.l, SlB (g.K.minus A) x.2 x.1.data,
    keepS := [0, 3, 4, 26, 27], keepB := [], sl := fun g => [(28, .v (.int .i64 g.k)), (7, .v g.v)], bl := fun _ => [], ar := fun g => g.A, mu := fun g => ps.length - g.k }

def allS : FSpec := ⟨TG, fun g vs A => vs = [.pointer (some ⟨g.t, 0, none⟩)] ∧ TreeAt A g.B g.O g.t g.T ∧ g.T.nodes.length ≤ 1000000,
  fun g _ A v A' => A.Sub A' ∧ NodesS (A'.minus A) v (treeAll g.T)⟩

set_option maxRecDepth 100000 in
set_option maxHeartbeats 0 in
theorem all_ok : FOk Tryd.prog 9 allS := by
  refine fok_v mixed fun ⟨T, B, O, t⟩ vs A hp => ?_
  obtain ⟨rfl, hT, hlen⟩ : vs = [.pointer (some ⟨t, 0, none⟩)] ∧ TreeAt A B O t T ∧ T.nodes.length ≤ 1000000 := hp
  have hCt : CTSound Tryd.prog (lookC [specE 28 pathsS, specE 29 parentS, specE 30 toldS] noC) := lookC_sound (noC_sound _) (fun x hx => by
    simp only [List.mem_cons, List.not_mem_nil, or_false] at hx
    rcases hx with rfl | rfl | rfl
    · exact specE_ok paths_ok
    · exact specE_ok parent_ok
    · exact specE_ok told_ok)
  refine ⟨_, tabO Tryd.prog _ noL 60 [(9, 0), (9, 2)], 60, hCt, tabO_sound mixed hCt (noL_sound _) _ _, fun blk os out tape D hD => ?_⟩
  conv => lhs; whnf
  refine (hD _).2 fun c A1 hc hA1 hM1 => ?_
  have hc : A.blk c = none := hc
  have hA1 : ∀ k, k ≠ c → A1.blk k = A.blk k := hA1
  have hM1 : MapAt A1 c [] := hM1
  have s1 : A.Sub A1 := fun k o hk => by rw [hA1 k fun e => by subst e; rw [hc] at hk; cases hk]; exact hk
  conv => lhs; whnf
  refine (hD _).2 ⟨⟨T, B, O, t⟩, ⟨rfl, TreeAt_sub hT s1, hlen⟩, fun v A2 hq => ?_⟩
  obtain ⟨s2, hS⟩ : A1.Sub A2 ∧ Sl (A2.minus A1) 1 (treePaths T).length v ((treePaths T).map strV) := hq
  obtain ⟨ps, hps⟩ : ∃ ps, ps = treePaths T := ⟨_, rfl⟩
  rw [← hps] at hS
  have hpl : ps.length ≤ 1000000 := by rw [hps, treePaths, sortL_length, List.length_map]; exact hlen
  obtain ⟨ao, cp, rfl, hcp, _, ha1, ha2, ha3⟩ := hS
  conv => lhs; whnf
  refine (hD _).2 ⟨allInv1 A2 c ps, ⟨(⟨0, A2, []⟩ : A1G), ⟨Nat.zero_le _, fun _ _ => rfl, hM1.sub fun o ho => s2 _ _ ho, fun q => rfl⟩, ⟨rfl, trivial⟩, trivial, rfl⟩, fun (sg : A1G) hG => ⟨⟨trivial, trivial⟩, trivial, ?_⟩⟩
  obtain ⟨k, As, l⟩ := sg
  obtain ⟨hk, hkeep, hM, hcnt⟩ : k ≤ ps.length ∧ (∀ b, b ≠ c → As.blk b = A2.blk b) ∧ MapAt As c (strL natV l) ∧ ∀ q, (kGet q l).getD 0 = kidCount (ps.take k) q := hG
  obtain ⟨oc, hoc⟩ : ∃ o, A1.blk c = some o := by
    obtain ⟨es, cl, h1, _⟩ := hM1
    exact ⟨_, h1⟩
  have hPs : (A2.minus A1).Sub As := fun b o hb => by
    rw [hkeep b fun e => by subst e; rw [minus_none _ hoc] at hb; cases hb]
    exact (minus_blk hb).2
  have hAs : A.Sub As := fun b o hb => by
    rw [hkeep b fun e => by subst e; rw [hc] at hb; cases hb]
    exact s2 _ _ (s1 _ _ hb)
  conv => lhs; whnf
  refine split_dec (fun hlt => ?_) (fun hlt => ?_) <;> (conv => lhs; whnf)
  · have hkl : k < ps.length := by
      have hlt : (k : Int) < (ps.length : Int) := hlt
      omega
    obtain ⟨g, o, rfl, hra⟩ := Sl.at_ hcp ha1 ha2 ha3 (by omega)
    have hrow := rd_sub hPs (text_at hra k hkl rfl)
    obtain ⟨q, hq⟩ : ∃ q, q = bytesOf ps[k] := ⟨_, rfl⟩
    have hrow : As.rd g (o + k * 1) 1 = some [.string q] := by rw [hrow, hq]; rfl
    conv => lhs; whnf
    refine split_in (fun _ _ => ?_) (fun h => by omega)
    conv => lhs; whnf
    refine go_rd hrow ?_
    conv => lhs; whnf
    refine (hD _).2 ⟨q, rfl, fun v A9 hq9 => ?_⟩
    obtain ⟨h9, rfl⟩ : As = A9 ∧ v = .string (parentP q) := ⟨hq9.1.symm, hq9.2⟩
    subst h9
    conv => lhs; whnf
    refine go_lk (look_str hM (parentP q)) ?_
    have hnb : (kGet (parentP q) l).getD 0 ≤ 1000000 := by
      rw [hcnt]
      have h1 := kidCount_le (ps.take k) (parentP q)
      rw [List.length_take] at h1
      omega
    have hnew : ∀ A3, (∀ b, b ≠ c → A3.blk b = As.blk b) → MapAt A3 c (strL natV (kPut (parentP q) ((kGet (parentP q) l).getD 0 + 1) l)) → (allInv1 A2 c ps).G (⟨k + 1, A3, kPut (parentP q) ((kGet (parentP q) l).getD 0 + 1) l⟩ : A1G) := fun A3 ho hm => by
      refine ⟨by show k + 1 ≤ ps.length; omega, fun b hb => (ho b hb).trans (hkeep b hb), hm, fun q' => ?_⟩
      show (kGet q' (kPut (parentP q) ((kGet (parentP q) l).getD 0 + 1) l)).getD 0 = kidCount (ps.take (k + 1)) q'
      rw [kidCount_snoc ps k hkl, ← hq, kGet_put]
      by_cases e : q' = parentP q
      · rw [if_pos e, if_pos e, e, ← hcnt]; rfl
      · rw [if_neg e, if_neg e, hcnt]; rfl
    cases hkg : kGet (parentP q) l with
    | none =>
      rw [hkg] at hnew
      conv => lhs; whnf
      refine (hD _).2 ⟨_, hM, strL_alike natV (parentP q) _, fun A3 hm3 ho3 => ?_⟩
      have hm3 : MapAt A3 c (putL (.string (parentP q)) (natV (0 + 1)) (strL natV l)) := hm3
      rw [strL_put] at hm3
      conv => lhs; whnf
      exact (hD _).2 ⟨(⟨k + 1, A3, kPut (parentP q) (0 + 1) l⟩ : A1G), ⟨hnew A3 ho3 hm3, ⟨inc_slot (k := k) (by omega), trivial⟩, trivial, rfl⟩, by show ps.length - (k + 1) < ps.length - k; omega, ⟨rfl, rfl, rfl, rfl, rfl, trivial⟩, trivial⟩
    | some n =>
      rw [hkg] at hnew hnb
      have hnb : n ≤ 1000000 := hnb
      conv => lhs; whnf
      refine (hD _).2 ⟨_, hM, strL_alike natV (parentP q) _, fun A3 hm3 ho3 => ?_⟩
      have hm3 : MapAt A3 c (putL (.string (parentP q)) (.int .i64 (IntKind.i64.wrap ((n : Int) + 1))) (strL natV l)) := hm3
      rw [wrap_inc (by omega), show Value.int .i64 ((n + 1 : Nat) : Int) = natV (n + 1) from rfl, strL_put] at hm3
      conv => lhs; whnf
      exact (hD _).2 ⟨(⟨k + 1, A3, kPut (parentP q) (n + 1) l⟩ : A1G), ⟨hnew A3 ho3 hm3, ⟨inc_slot (k := k) (by omega), trivial⟩, trivial, rfl⟩, by show ps.length - (k + 1) < ps.length - k; omega, ⟨rfl, rfl, rfl, rfl, rfl, trivial⟩, trivial⟩
  · have e : k = ps.length := by
      have hlt : ¬ (k : Int) < (ps.length : Int) := hlt
      omega
    subst e
    rw [List.take_length] at hcnt
    have hTA := TreeAt_sub hT hAs
    refine (hD _).2 ⟨allInv2 A As T ps, ⟨(⟨0, As, As, .slice none 0 0, []⟩ : A2G), ⟨Nat.zero_le _, Arena.Sub.refl _, Arena.Sub.refl _, GrowR.nil _ _ _ _, rfl, fun _ hx => (by cases hx)⟩, ⟨rfl, rfl, trivial⟩, trivial, rfl⟩, fun (sg : A2G) hG => ⟨⟨trivial, trivial, trivial⟩, trivial, ?_⟩⟩
    obtain ⟨k, Ak, K, v0, rs⟩ := sg
    obtain ⟨hk, hKA, hLK, hGr, hrs, hdat⟩ : k ≤ ps.length ∧ K.Sub Ak ∧ As.Sub K ∧ GrowR K Ak 12 39 k v0 (rs.flatMap nodeC) ∧ rs.map (·.1) = (ps.take k).map (fun x => toldOf T (bytesOf x)) ∧ ∀ x ∈ rs, SlB (K.minus A) x.2 x.1.data := hG
    conv => lhs; whnf
    refine split_dec (fun hlt => ?_) (fun hlt => ?_) <;> (conv => lhs; whnf)
    · have hkl : k < ps.length := by
        have hlt : (k : Int) < (ps.length : Int) := hlt
        omega
      obtain ⟨g, o, rfl, hra⟩ := Sl.at_ hcp ha1 ha2 ha3 (by omega)
      have hLA := hLK.trans hKA
      have hrow := rd_sub (hPs.trans hLA) (text_at hra k hkl rfl)
      obtain ⟨q, hq⟩ : ∃ q, q = bytesOf ps[k] := ⟨_, rfl⟩
      have hrow : Ak.rd g (o + k * 1) 1 = some [.string q] := by rw [hrow, hq]; rfl
      have hqm : q ∈ T.nodes.map (·.1) := by
        rw [hq]; exact paths_mem (hps ▸ List.getElem_mem hkl)
      obtain ⟨n, hn⟩ : ∃ n, kGet q T.nodes = some n := by
        cases h : kGet q T.nodes with
        | some n => exact ⟨n, rfl⟩
        | none => exact absurd h (kGet_iff.2 hqm)
      conv => lhs; whnf
      refine split_in (fun _ _ => ?_) (fun h => by omega)
      conv => lhs; whnf
      refine go_rd hrow ?_
      conv => lhs; whnf
      refine go_lk (look_str (hM.sub fun o ho => hLA _ _ ho) q) ?_
      obtain ⟨cn, hcn⟩ : ∃ cn, cn = (kGet q l).getD 0 := ⟨_, rfl⟩
      have hkn : cn = kidsN T q := by rw [hcn, hcnt, hps, count_paths]
      have htold : toldOf T q = ⟨q, n.data, { n.stat with len := n.data.length, kids := cn }⟩ := by
        rw [toldOf, hn, hkn]
      rcases hkg : kGet q l with _ | n1
      all_goals
        rw [hkg] at hcn
        conv => lhs; whnf
        refine (hD _).2 ⟨(⟨T, B, O, t⟩, q, n, cn), ⟨by rw [hcn]; rfl, TreeAt_sub hT (hAs.trans hLA), hn⟩, fun v A4 hq4 => ?_⟩
        obtain ⟨s4, vd, rfl, hS4⟩ : Ak.Sub A4 ∧ ∃ vd, v = nodeV q vd { n.stat with len := n.data.length, kids := cn } ∧ SlB (A4.minus Ak) vd n.data := hq4
        obtain ⟨ad, kd, rfl⟩ := hS4.1.form
        conv => lhs; whnf
        refine (hD _).2 fun gb A5 hN => ?_
        obtain ⟨x, hx⟩ : ∃ x : ToldD × Value, x = (toldOf T q, .slice ad n.data.length kd) := ⟨_, rfl⟩
        have hNx : A4.New A5 gb (nodeC x).toArray 39 := by rw [hx, htold]; exact hN
        have hxl : (nodeC x).length = 12 := rfl
        have hKA4 := hKA.trans s4
        obtain ⟨K', hK'⟩ : ∃ K' : Arena, K' = K.plus (A4.minus Ak) := ⟨_, rfl⟩
        have hKK : K.Sub K' := by rw [hK']; exact plus_l _ _
        have hNK : (A4.minus Ak).Sub K' := by
          rw [hK']
          refine plus_r fun j o hj => ?_
          cases hKj : K.blk j with
          | none => rfl
          | some o' => rw [minus_none _ (hKA _ _ hKj)] at hj; cases hj
        have hK4 : K'.Sub A4 := fun j o hj => by
          rw [hK'] at hj
          rcases plus_cases hj with hj | ⟨_, hj⟩
          · exact hKA4 _ _ hj
          · exact (minus_blk hj).2
        have hG4 : GrowR K' Ak 12 39 k v0 (rs.flatMap nodeC) := grow_know hGr fun j o h1 h2 => by
          rw [hK', plus_blk, h1]; exact minus_none _ h2
        have hG5 := (hG4.sub s4).sub hN.sub
        have hK5 := hK4.trans hN.sub
        have hd5 : ∀ j, A5.blk j = none → K'.blk j = none := fun j hj => by
          cases h1 : K'.blk j with
          | none => rfl
          | some o => rw [hK5 _ _ h1] at hj; cases hj
        obtain ⟨base, c9, rfl, hbase, hP, hA⟩ := hG5.form
        have hP := hP 120 (by omega) (by omega)
        have hrow : A5.rd gb 0 (1 * 12) = some (nodeC x) := hNx.rd (o := 0) (n := 1 * 12) (by rw [List.size_toArray, hxl]; omega)
        rcases hbase with rfl | ⟨g0, rfl⟩ <;> (conv => lhs; whnf)
        all_goals
          refine (hD _).2 ⟨rs.flatMap nodeC, nodeC x, hP.rd, ?_, rfl, ?_, ?_, hP.cap, rfl, hP.none_, fun g' o' he' hle' _ => hP.room 12 rfl g' o' he' hle', fun v A6 hAp => ?_⟩
          · show (if 1 * 12 = 0 then some [] else A5.rd gb 0 (1 * 12)) = _
            rw [if_neg (by omega)]; exact hrow
          · intro v hv
            rw [hx] at hv
            simp only [nodeC, StatD.cells, List.mem_cons, List.not_mem_nil, or_false] at hv
            rcases hv with rfl | rfl | rfl | rfl | rfl | rfl | rfl | rfl | rfl | rfl | rfl | rfl <;> rfl
          · show k + 1 ≤ 9223372036854775807
            omega
          · obtain ⟨hG6, hk6⟩ := hA _ _ _ rfl hd5 hAp
            have hK6 : K'.Sub A6 := fun j o hj => by rw [hk6 j o hj]; exact hK5 _ _ hj
            have hg6 : (allInv2 A As T ps).G (⟨k + 1, A6, K', v, rs ++ [x]⟩ : A2G) := by
              refine ⟨by show k + 1 ≤ ps.length; omega, hK6, hLK.trans hKK, ?_, ?_, fun y hy => ?_⟩
              · show GrowR K' A6 12 39 (k + 1) v ((rs ++ [x]).flatMap nodeC)
                rw [List.flatMap_append, List.flatMap_singleton]; exact hG6
              · show (rs ++ [x]).map (·.1) = (ps.take (k + 1)).map fun y => toldOf T (bytesOf y)
                rw [List.take_succ_eq_append_getElem hkl, List.map_append, List.map_append, hrs, List.map_singleton, List.map_singleton, ← hq, hx]
              · rcases List.mem_append.1 hy with hy | hy
                · exact (hdat y hy).sub (minus_mono hKK)
                · simp only [List.mem_singleton] at hy
                  subst hy
                  rw [hx, htold]
                  refine hS4.sub fun j o hj => ?_
                  have hAj : A.blk j = none := by
                    cases hAj : A.blk j with
                    | none => rfl
                    | some o' => rw [minus_none _ (hAs.trans hLA _ _ hAj)] at hj; cases hj
                  show (match A.blk j with
                    | none => K'.blk j
                    | some _ => none) = some o
                  rw [hAj]; exact hNK _ _ hj
            conv => lhs; whnf
            exact (hD _).2 ⟨(⟨k + 1, A6, K', v, rs ++ [x]⟩ : A2G), ⟨hg6, ⟨inc_slot (k := k) (by omega), rfl, trivial⟩, trivial, rfl⟩, by show ps.length - (k + 1) < ps.length - k; omega, ⟨rfl, rfl, rfl, rfl, rfl, trivial⟩, trivial⟩
    · have e : k = ps.length := by
        have hlt : ¬ (k : Int) < (ps.length : Int) := hlt
        omega
      subst e
      rw [List.take_length] at hrs
      have hrs : rs.map (·.1) = treeAll T := by rw [hrs, hps]; rfl
      have hl : (treeAll T).length = ps.length := by rw [treeAll, List.length_map, hps]
      have hend : allS.post ⟨T, B, O, t⟩ [.pointer (some ⟨t, 0, none⟩)] A v0 Ak := by
        refine ⟨hAs.trans (hLK.trans hKA), rs, hrs, ?_, fun x hx => (hdat x hx).sub (minus_mono hKA)⟩
        rw [hl]
        exact grow_sl hGr (hAs.trans hLK)
      exact (hD _).2 hend

end
end Go.Proofs.YtabonbbfcfchmaaDoor

namespace Go.Proofs.YtabonbbfcfchmaaDoor
open Go.Sx Go.RowKit
noncomputable section

theorem conv_bytes {A : Arena} {w : World} (hA : ∀ k o, A.blk k = some o → w.heap[k]? = some o) {v : Value} {bs : List UInt8} (h : SlB A v bs) : (convert 34 9 v).run Tryd.prog w = .ok (.string ⟨bs.toArray⟩) w := by
  obtain ⟨⟨ao, c, rfl, hc, _, h1, h2, h3⟩, _⟩ := h
  rcases Nat.eq_zero_or_pos bs.length with hn | hn
  · obtain rfl : bs = [] := List.length_eq_zero_iff.1 hn
    rw [show ([] : List UInt8).length = 0 from rfl, run_convert_bytes_string w 34 9 5 _ 0 c Tryd.underlying34 Tryd.underlying5 Tryd.underlying9]
    cases ao <;> simp [Conv.bytesToString, loadCells]
    all_goals rfl
  · obtain ⟨g, o, rfl, hr⟩ := Sl.at_ hc h1 h2 h3 hn
    have hx : (bs.map fun b => (b.toNat : Int)).length = bs.length := List.length_map _
    have hcell : ∀ i, i < bs.length → w.cell? ⟨g, o + i, none⟩ = some (.int .u8 ((bs.map fun b => (b.toNat : Int)).getD i 0)) := fun i hi => by
      have h9 := byte_at hr i hi rfl
      rw [A.rdeq] at h9
      unfold rdOf at h9
      split at h9
      · rename_i cc tt fz hb
        split at h9
        · injection h9 with h9
          unfold World.cell?
          rw [hA _ _ hb]
          simp only [Option.isSome_none, Bool.false_eq_true, if_false]
          have h10 : ((cc.toList.drop (o + i * 1)).take 1)[0]? = ([bv bs[i]])[0]? := by rw [h9]
          rw [List.getElem?_take, if_pos (by omega), List.getElem?_drop, Nat.mul_one, Nat.add_zero] at h10
          rw [← Array.getElem?_toList, h10]
          simp [bv, hi]
        · cases h9
      · cases h9
    have := run_convert_bytes_arg (P := Tryd.prog) w 34 5 Tryd.underlying34 Tryd.underlying5 g o bs.length c _ hx hcell 9 Tryd.underlying9
    rw [this]
    have e : strOfNums (bs.map fun b => (b.toNat : Int)) = ⟨bs.toArray⟩ := by
      have hm : ∀ l : List UInt8, l.map ((fun n : Int => UInt8.ofNat n.toNat) ∘ fun b : UInt8 => (b.toNat : Int)) = l := fun l => by
        induction l with
        | nil => rfl
        | cons b l ih => rw [List.map_cons, ih, Function.comp_apply, Int.toNat_natCast, UInt8.ofNat_toNat]
      unfold strOfNums
      rw [List.map_map, hm]
    rw [e]

set_option maxHeartbeats 1000000 in
theorem equal_run (v1 v2 : Value) (t1 t2 : ByteArray) (w : World) (h1 : (convert 34 9 v1).run Tryd.prog w = .ok (.string t1) w) (h2 : (convert 34 9 v2).run Tryd.prog w = .ok (.string t2) w) :
    Calls Tryd.prog 39 #[v1, v2] w fun e w' => e = .returned (.bool (t1.toList == t2.toList)) ∧ w' = w := by
  go_enter Tryd.func39, Tryd.ntmps39
  go_wp2
  go_ret
  exact ⟨rfl, rfl⟩

def equalS : FSpec := ⟨List UInt8 × List UInt8, fun g vs A => ∃ x y, vs = [x, y] ∧ SlB A x g.1 ∧ SlB A y g.2, fun g _ A v A' => A' = A ∧ v = .bool (decide (g.1 = g.2))⟩

theorem equal_ok : FOk Tryd.prog 39 equalS := by
  intro ⟨xs, ys⟩ vs A w hA hp
  obtain ⟨x, y, rfl, hx, hy⟩ : ∃ x y, vs = [x, y] ∧ SlB A x xs ∧ SlB A y ys := hp
  refine goes_of_calls Tryd.func39 ⟨by kernel_rfl, by kernel_rfl⟩ ?_
  intro cs
  obtain ⟨e, w', fr, ⟨k1, k2⟩, k3⟩ := equal_run x y _ _ w (conv_bytes hA hx) (conv_bytes hA hy) cs
  subst k2
  refine ⟨e, w', fr, ⟨_, k1, A, ⟨rfl, ?_⟩, rfl, rfl, rfl, fun _ _ _ => rfl, hA, fun k o ho => .inl ⟨o, ho⟩⟩, k3⟩
  congr 1
  rw [Lib.toList_data, Lib.toList_data]
  by_cases h : xs = ys
  · subst h; simp
  · simp [h]

end
end Go.Proofs.YtabonbbfcfchmaaDoor

namespace Go.Proofs.YtabonbbfcfchmaaDoor
open Go.Sx Go.RowKit
noncomputable section
open Classical

def sameNodeS : FSpec := ⟨(ToldD × Value) × (ToldD × Value), fun g vs A => vs = [.agg (nodeC g.1).toArray, .agg (nodeC g.2).toArray] ∧ SlB A g.1.2 g.1.1.data ∧ SlB A g.2.2 g.2.1.data, fun g _ A v A' => A' = A ∧ v = .bool (decide (g.1.1 = g.2.1))⟩

set_option maxRecDepth 100000 in
set_option maxHeartbeats 0 in
theorem sameNode_ok : FOk Tryd.prog 38 sameNodeS := by
  refine fok_v mixed fun ⟨⟨⟨p, d, ⟨s1, s2, s3, s4, s5, s6, s7, s8, s9, s10⟩⟩, vd⟩, ⟨⟨q, e, ⟨u1, u2, u3, u4, u5, u6, u7, u8, u9, u10⟩⟩, ve⟩⟩ vs A hp => ?_
  obtain ⟨rfl, hd, he⟩ : vs = [.agg #[.string p, vd, .int .i64 s1, .int .i64 s2, .int .i64 s3, .int .i64 s4, .int .i64 s5, .int .i64 s6, .int .i64 s7, .int .i64 s8, .int .i64 s9, .int .i64 s10], .agg #[.string q, ve, .int .i64 u1, .int .i64 u2, .int .i64 u3, .int .i64 u4, .int .i64 u5, .int .i64 u6, .int .i64 u7, .int .i64 u8, .int .i64 u9, .int .i64 u10]] ∧ SlB A vd d ∧ SlB A ve e := hp
  obtain ⟨ad, cd, rfl⟩ := hd.1.form
  obtain ⟨ae, ce, rfl⟩ := he.1.form
  have hCt : CTSound Tryd.prog (lookC [specE 39 equalS] noC) := lookC_sound (noC_sound _) (fun x hx => by
    simp only [List.mem_singleton] at hx
    subst hx; exact specE_ok equal_ok)
  refine ⟨_, noL, 60, hCt, noL_sound _, fun blk os out tape D hD => ?_⟩
  have hend : ∀ b : Bool, (b = true ↔ ((p = q ∧ ((s1 = u1 ∧ s2 = u2 ∧ s3 = u3 ∧ s4 = u4 ∧ s5 = u5) ∧ s6 = u6 ∧ s7 = u7 ∧ s8 = u8 ∧ s9 = u9 ∧ s10 = u10)) ∧ d = e)) → sameNodeS.post ⟨⟨⟨p, d, ⟨s1, s2, s3, s4, s5, s6, s7, s8, s9, s10⟩⟩, .slice ad d.length cd⟩, ⟨⟨q, e, ⟨u1, u2, u3, u4, u5, u6, u7, u8, u9, u10⟩⟩, .slice ae e.length ce⟩⟩ [] A (.bool b) A := fun b hb => by
    refine ⟨rfl, ?_⟩
    congr 1
    rw [Bool.eq_iff_iff, hb, decide_eq_true_iff]
    simp only [ToldD.mk.injEq, StatD.mk.injEq]
    constructor
    · rintro ⟨⟨h1, ⟨h2, h3, h4, h5, h6⟩, h7⟩, h8⟩
      exact ⟨h1, h8, h2, h3, h4, h5, h6, h7⟩
    · rintro ⟨h1, h8, h2, h3, h4, h5, h6, h7⟩
      exact ⟨⟨h1, ⟨h2, h3, h4, h5, h6⟩, h7⟩, h8⟩
  conv => lhs; whnf
  refine split_b (fun hb => ?_) (fun hb => ?_) <;> (conv => lhs; whnf)
  rotate_left
  · exact (hD _).2 (hend false ⟨fun h => (by cases h), fun h => absurd (congrArg (fun x : ByteArray => x.data.toList) h.1.1) (beqL_ff.1 hb)⟩)
  have hpq : p = q := bytes_ext (beqL_iff.1 hb)
  refine go_D hD (by kernel_rfl) ?_
  conv => lhs; whnf
  refine split_b (fun h1 => ?_) (fun h1 => ?_) <;> (conv => lhs; whnf)
  rotate_left
  · exact (hD _).2 (hend false ⟨fun h => (by cases h), fun h => (by
      obtain ⟨⟨_, ⟨rfl, rfl, rfl, rfl, rfl⟩, rfl, rfl, rfl, rfl, rfl⟩, _⟩ := h
      simp at h1)⟩)
  refine (hD _).2 ⟨(d, e), ⟨_, _, rfl, hd, he⟩, fun v A' hq => ?_⟩
  obtain ⟨hA, rfl⟩ : A = A' ∧ v = .bool (decide (d = e)) := ⟨hq.1.symm, hq.2⟩
  subst hA
  have hall : (s1 = u1 ∧ s2 = u2 ∧ s3 = u3 ∧ s4 = u4 ∧ s5 = u5) ∧ s6 = u6 ∧ s7 = u7 ∧ s8 = u8 ∧ s9 = u9 ∧ s10 = u10 := by
    simp at h1
    omega
  conv => lhs; whnf
  exact (hD _).2 (hend _ (by show decide (d = e) = true ↔ _; rw [decide_eq_true_iff]; exact ⟨fun h => ⟨⟨hpq, hall⟩, h⟩, fun h => h.2⟩))

def eqNodeV : Value := .func (.func 38) #[] #[]

def NodesR (A : Arena) (v : Value) (l : List (ToldD × Value)) : Prop := Sl A 12 l.length v (l.flatMap nodeC) ∧ ∀ x ∈ l, SlB A x.2 x.1.data

def eqNodesS : FSpec := ⟨List (ToldD × Value) × List (ToldD × Value), fun g vs A => ∃ x y, vs = [x, y, eqNodeV] ∧ NodesR A x g.1 ∧ NodesR A y g.2 ∧ g.1.length ≤ 1000000 ∧ g.2.length ≤ 1000000, fun g _ A v A' => A' = A ∧ v = .bool (decide (g.1.map (·.1) = g.2.map (·.1)))⟩

set_option maxRecDepth 100000 in
set_option maxHeartbeats 0 in
theorem eqNodes_ok : FOk Tryd.prog 40 eqNodesS := by
  refine fok_v mixed fun ⟨ls, bs⟩ vs A hp => ?_
  obtain ⟨x, y, rfl, ⟨⟨ao, c, rfl, hc, _, ha1, ha2, ha3⟩, hda⟩, ⟨⟨bo, d, rfl, hd, _, hb1, hb2, hb3⟩, hdb⟩, hl1, hl2⟩ : ∃ x y, vs = [x, y, eqNodeV] ∧ NodesR A x ls ∧ NodesR A y bs ∧ ls.length ≤ 1000000 ∧ bs.length ≤ 1000000 := hp
  have hCt : CTSound Tryd.prog (lookC [specE 38 sameNodeS] noC) := lookC_sound (noC_sound _) (fun x hx => by
    simp only [List.mem_singleton] at hx
    subst hx; exact specE_ok sameNode_ok)
  refine ⟨_, tabO Tryd.prog _ noL 60 [(40, 0)], 60, hCt, tabO_sound mixed hCt (noL_sound _) _ _, fun blk os out tape D hD => ?_⟩
  have hend : ∀ b : Bool, (b = true ↔ ls.map (·.1) = bs.map (·.1)) → eqNodesS.post (ls, bs) [] A (.bool b) A := fun b hb => by
    refine ⟨rfl, ?_⟩
    congr 1
    rw [Bool.eq_iff_iff, hb, decide_eq_true_iff]
  conv => lhs; whnf
  refine split_b (fun hb => ?_) (fun hb => ?_) <;> (conv => lhs; whnf)
  · refine (hD _).2 (hend false ⟨fun h => (by cases h), fun e => ?_⟩)
    have e1 := congrArg List.length e
    simp at e1
    rw [e1] at hb
    simp at hb
  · have hlen : ls.length = bs.length := by
      have : (ls.length : Int) = bs.length := by simpa using hb
      omega
    refine (hD _).2 ⟨cnt A 17 [1, 2, 15, 16] [] ls.length fun k => (ls.take k).map (·.1) = (bs.take k).map (·.1), ⟨(0 : Nat), ⟨Nat.zero_le _, rfl⟩, ⟨rfl, trivial⟩, trivial, rfl⟩, fun (k : Nat) hk => ⟨⟨trivial, trivial⟩, trivial, ?_⟩⟩
    simp only [cnt] at hk
    conv => lhs; whnf
    refine split_dec (fun hlt => ?_) (fun hlt => ?_) <;> (conv => lhs; whnf)
    · have hkl : k < ls.length := by omega
      obtain ⟨g, o, rfl, hra⟩ := Sl.at_ hc ha1 ha2 ha3 (by omega)
      obtain ⟨g', o', rfl, hrb⟩ := Sl.at_ hd hb1 hb2 hb3 (by omega)
      have r1 := row_at (enc := nodeC) (fun _ => rfl) hra k hkl rfl
      have r2 := row_at (enc := nodeC) (fun _ => rfl) hrb k (by omega) rfl
      obtain ⟨⟨⟨p1, e1, ⟨a1, a2, a3, a4, a5, a6, a7, a8, a9, a10⟩⟩, v1⟩, hn1⟩ : ∃ n1, n1 = ls[k] := ⟨_, rfl⟩
      obtain ⟨⟨⟨p2, e2, ⟨b1, b2, b3, b4, b5, b6, b7, b8, b9, b10⟩⟩, v2⟩, hn2⟩ : ∃ n2, n2 = bs[k] := ⟨_, rfl⟩
      have d1 : SlB A v1 e1 := hda (((⟨p1, e1, ⟨a1, a2, a3, a4, a5, a6, a7, a8, a9, a10⟩⟩ : ToldD), v1)) (by rw [hn1]; exact List.getElem_mem _)
      have d2 : SlB A v2 e2 := hdb (((⟨p2, e2, ⟨b1, b2, b3, b4, b5, b6, b7, b8, b9, b10⟩⟩ : ToldD), v2)) (by rw [hn2]; exact List.getElem_mem _)
      have t1 : (ls.take (k + 1)).map (·.1) = (ls.take k).map (·.1) ++ [(⟨p1, e1, ⟨a1, a2, a3, a4, a5, a6, a7, a8, a9, a10⟩⟩ : ToldD)] := by rw [List.take_succ_eq_append_getElem hkl, List.map_append, ← hn1]; rfl
      have t2 : (bs.take (k + 1)).map (·.1) = (bs.take k).map (·.1) ++ [(⟨p2, e2, ⟨b1, b2, b3, b4, b5, b6, b7, b8, b9, b10⟩⟩ : ToldD)] := by rw [List.take_succ_eq_append_getElem (by omega), List.map_append, ← hn2]; rfl
      rw [← hn1] at r1
      rw [← hn2] at r2
      obtain ⟨x1, c1, rfl⟩ := d1.1.form
      obtain ⟨x2, c2, rfl⟩ := d2.1.form
      have r1 : A.rd g (o + k * 12) 12 = some [.string p1, .slice x1 e1.length c1, .int .i64 a1, .int .i64 a2, .int .i64 a3, .int .i64 a4, .int .i64 a5, .int .i64 a6, .int .i64 a7, .int .i64 a8, .int .i64 a9, .int .i64 a10] := r1
      have r2 : A.rd g' (o' + k * 12) 12 = some [.string p2, .slice x2 e2.length c2, .int .i64 b1, .int .i64 b2, .int .i64 b3, .int .i64 b4, .int .i64 b5, .int .i64 b6, .int .i64 b7, .int .i64 b8, .int .i64 b9, .int .i64 b10] := r2
      conv => lhs; whnf
      refine go_in ⟨by show (0 : Int) ≤ (k : Int); omega, by show (k : Int) < (ls.length : Int); omega⟩ ?_
      conv => lhs; whnf
      refine go_rd r1 ?_
      conv => lhs; whnf
      refine go_in ⟨by show (0 : Int) ≤ (k : Int); omega, by show (k : Int) < (bs.length : Int); omega⟩ ?_
      conv => lhs; whnf
      refine go_rd r2 ?_
      conv => lhs; whnf
      refine (hD _).2 ⟨(((⟨p1, e1, ⟨a1, a2, a3, a4, a5, a6, a7, a8, a9, a10⟩⟩ : ToldD), .slice x1 e1.length c1), ((⟨p2, e2, ⟨b1, b2, b3, b4, b5, b6, b7, b8, b9, b10⟩⟩ : ToldD), .slice x2 e2.length c2)), ⟨rfl, d1, d2⟩, fun v A' hq => ?_⟩
      obtain ⟨hA, rfl⟩ : A = A' ∧ v = .bool (decide ((⟨p1, e1, ⟨a1, a2, a3, a4, a5, a6, a7, a8, a9, a10⟩⟩ : ToldD) = (⟨p2, e2, ⟨b1, b2, b3, b4, b5, b6, b7, b8, b9, b10⟩⟩ : ToldD))) := ⟨hq.1.symm, hq.2⟩
      subst hA
      conv => lhs; whnf
      refine split_b (fun he => ?_) (fun he => ?_) <;> (conv => lhs; whnf)
      · refine (hD _).2 (hend false ⟨fun h => (by cases h), fun e => ?_⟩)
        have e3 := congrArg (List.take (k + 1)) e
        rw [← List.map_take, ← List.map_take, t1, t2, hk.2] at e3
        have e4 := List.append_cancel_left e3
        injection e4 with e4
        simp [e4] at he
      · have he : (⟨p1, e1, ⟨a1, a2, a3, a4, a5, a6, a7, a8, a9, a10⟩⟩ : ToldD) = (⟨p2, e2, ⟨b1, b2, b3, b4, b5, b6, b7, b8, b9, b10⟩⟩ : ToldD) := by simpa using he
        refine (hD _).2 ⟨(k + 1 : Nat), ⟨⟨by omega, ?_⟩, ⟨inc_slot (by omega), trivial⟩, trivial, rfl⟩, ?_, ⟨rfl, rfl, rfl, rfl, trivial⟩, trivial⟩
        · show (ls.take (k + 1)).map (·.1) = (bs.take (k + 1)).map (·.1)
          rw [t1, t2, hk.2, he]
        · show ls.length - (k + 1) < ls.length - k
          omega
    · have e : k = ls.length := by omega
      refine (hD _).2 (hend true ⟨fun _ => ?_, fun _ => rfl⟩)
      have h := hk.2
      rw [e, List.take_length, hlen, List.take_length] at h
      exact h

def eqSitsS : FSpec := ⟨List SitD × List SitD, fun g vs A => ∃ x y, vs = [x, y] ∧ Sl A 3 g.1.length x (g.1.flatMap sitC) ∧ Sl A 3 g.2.length y (g.2.flatMap sitC) ∧ g.1.length ≤ 1000000 ∧ g.2.length ≤ 1000000, fun g _ A v A' => A' = A ∧ v = .bool (decide (g.1 = g.2))⟩

set_option maxRecDepth 100000 in
set_option maxHeartbeats 0 in
theorem eqSits_ok : FOk Tryd.prog 41 eqSitsS := by
  refine fok_v mixed fun ⟨ls, bs⟩ vs A hp => ?_
  obtain ⟨x, y, rfl, ⟨ao, c, rfl, hc, _, ha1, ha2, ha3⟩, ⟨bo, d, rfl, hd, _, hb1, hb2, hb3⟩, hl1, hl2⟩ : ∃ x y, vs = [x, y] ∧ Sl A 3 ls.length x (ls.flatMap sitC) ∧ Sl A 3 bs.length y (bs.flatMap sitC) ∧ ls.length ≤ 1000000 ∧ bs.length ≤ 1000000 := hp
  refine ⟨noC, tabO Tryd.prog noC noL 60 [(41, 0)], 60, noC_sound _, tabO_sound mixed (noC_sound _) (noL_sound _) _ _, fun blk os out tape D hD => ?_⟩
  have hend : ∀ b : Bool, (b = true ↔ ls = bs) → eqSitsS.post (ls, bs) [] A (.bool b) A := fun b hb => by
    refine ⟨rfl, ?_⟩
    congr 1
    rw [Bool.eq_iff_iff, hb, decide_eq_true_iff]
  conv => lhs; whnf
  refine split_b (fun hb => ?_) (fun hb => ?_) <;> (conv => lhs; whnf)
  · refine (hD _).2 (hend false ⟨fun h => (by cases h), fun e => ?_⟩)
    have e1 := congrArg List.length e
    rw [e1] at hb
    simp at hb
  · have hlen : ls.length = bs.length := by
      have : (ls.length : Int) = bs.length := by simpa using hb
      omega
    refine (hD _).2 ⟨cnt A 13 [0, 1, 11, 12] [] ls.length fun k => ls.take k = bs.take k, ⟨(0 : Nat), ⟨Nat.zero_le _, rfl⟩, ⟨rfl, trivial⟩, trivial, rfl⟩, fun (k : Nat) hk => ⟨⟨trivial, trivial⟩, trivial, ?_⟩⟩
    simp only [cnt] at hk
    conv => lhs; whnf
    refine split_dec (fun hlt => ?_) (fun hlt => ?_) <;> (conv => lhs; whnf)
    · have hkl : k < ls.length := by omega
      obtain ⟨g, o, rfl, hra⟩ := Sl.at_ hc ha1 ha2 ha3 (by omega)
      obtain ⟨g', o', rfl, hrb⟩ := Sl.at_ hd hb1 hb2 hb3 (by omega)
      have r1 := row_at (enc := sitC) (fun _ => rfl) hra k hkl rfl
      have r2 := row_at (enc := sitC) (fun _ => rfl) hrb k (by omega) rfl
      have t1 : ls.take (k + 1) = ls.take k ++ [ls[k]] := by rw [List.take_succ_eq_append_getElem hkl]
      have t2 : bs.take (k + 1) = bs.take k ++ [bs[k]] := by rw [List.take_succ_eq_append_getElem (by omega)]
      obtain ⟨⟨a1, a2, a3⟩, hn1⟩ : ∃ n1, n1 = ls[k] := ⟨_, rfl⟩
      obtain ⟨⟨b1, b2, b3⟩, hn2⟩ : ∃ n2, n2 = bs[k] := ⟨_, rfl⟩
      rw [← hn1] at r1 t1
      rw [← hn2] at r2 t2
      have r1 : A.rd g (o + k * 3) 3 = some [.int .i64 a1, .int .i64 a2, .int .i64 a3] := r1
      have r2 : A.rd g' (o' + k * 3) 3 = some [.int .i64 b1, .int .i64 b2, .int .i64 b3] := r2
      conv => lhs; whnf
      have i1 : (0 : Int) ≤ (k : Int) ∧ (k : Int) < (ls.length : Int) := by omega
      have i2 : (0 : Int) ≤ (k : Int) ∧ (k : Int) < (bs.length : Int) := by omega
      repeat (first | refine go_in i1 ?_ | refine go_in i2 ?_ | refine go_rd r1 ?_ | refine go_rd r2 ?_ | refine go_D hD rfl ?_ | refine go_D hD (by kernel_rfl) ?_
              conv => lhs; whnf)
      refine split_b (fun he => ?_) (fun he => ?_) <;> (conv => lhs; whnf)
      · refine (hD _).2 (hend false ⟨fun h => (by cases h), fun e => ?_⟩)
        have e3 := congrArg (List.take (k + 1)) e
        rw [t1, t2, hk.2] at e3
        have e4 := List.append_cancel_left e3
        injection e4 with e4
        injection e4 with h1 h2 h3
        subst h1 h2 h3
        simp at he
      · have he : (⟨a1, a2, a3⟩ : SitD) = ⟨b1, b2, b3⟩ := by
          simp at he
          rw [he.1, he.2.1, he.2.2]
        refine (hD _).2 ⟨(k + 1 : Nat), ⟨⟨by omega, ?_⟩, ⟨inc_slot (by omega), trivial⟩, trivial, rfl⟩, ?_, ⟨rfl, rfl, rfl, rfl, trivial⟩, trivial⟩
        · show ls.take (k + 1) = bs.take (k + 1)
          rw [t1, t2, hk.2, he]
        · show ls.length - (k + 1) < ls.length - k
          omega
    · have e : k = ls.length := by omega
      refine (hD _).2 (hend true ⟨fun _ => ?_, fun _ => rfl⟩)
      have h := hk.2
      rw [e, List.take_length, hlen, List.take_length] at h
      exact h

theorem treeSits_len (T : TreeD) : (treeSits T).length = T.seats.length := by rw [treeSits, List.length_map, sortI_length, List.length_map]
theorem treeAll_len (T : TreeD) : (treeAll T).length = T.nodes.length := by rw [treeAll, List.length_map, treePaths, sortL_length, List.length_map]

theorem nodesR_of {A B : Arena} {v : Value} {ns : List ToldD} (h : NodesS A v ns) (hs : A.Sub B) : ∃ l : List (ToldD × Value), l.map (·.1) = ns ∧ NodesR B v l := by
  obtain ⟨l, h1, h2, h3⟩ := h
  have hl : l.length = ns.length := by rw [← h1, List.length_map]
  exact ⟨l, h1, by rw [hl]; exact h2.sub hs, fun x hx => (h3 x hx).sub hs⟩

/-- Do two trees tell the same? -/
def TSame (T U : TreeD) : Prop := treeAll T = treeAll U ∧ treeSits T = treeSits U

def TFits (T : TreeD) : Prop := SeatsOk T ∧ T.nodes.length ≤ 1000000 ∧ T.seats.length ≤ 1000000

def sameS : FSpec := ⟨TG × TG, fun g vs A => vs = [.pointer (some ⟨g.1.t, 0, none⟩), .pointer (some ⟨g.2.t, 0, none⟩)] ∧ TreeAt A g.1.B g.1.O g.1.t g.1.T ∧ TreeAt A g.2.B g.2.O g.2.t g.2.T ∧ TFits g.1.T ∧ TFits g.2.T,
  fun g _ A v A' => A.Sub A' ∧ v = .bool (decide (TSame g.1.T g.2.T))⟩

set_option maxRecDepth 100000 in
set_option maxHeartbeats 0 in
theorem same_ok : FOk Tryd.prog 16 sameS := by
  refine fok_v mixed fun ⟨⟨T, B, O, t⟩, ⟨U, B', O', t'⟩⟩ vs A hp => ?_
  obtain ⟨rfl, hT, hU, ⟨fT1, fT2, fT3⟩, ⟨fU1, fU2, fU3⟩⟩ : vs = [.pointer (some ⟨t, 0, none⟩), .pointer (some ⟨t', 0, none⟩)] ∧ TreeAt A B O t T ∧ TreeAt A B' O' t' U ∧ TFits T ∧ TFits U := hp
  have hCt : CTSound Tryd.prog (lookC [specE 9 allS, specE 12 sittingsS, specE 40 eqNodesS, specE 41 eqSitsS] noC) := lookC_sound (noC_sound _) (fun x hx => by
    simp only [List.mem_cons, List.not_mem_nil, or_false] at hx
    rcases hx with rfl | rfl | rfl | rfl
    · exact specE_ok all_ok
    · exact specE_ok sittings_ok
    · exact specE_ok eqNodes_ok
    · exact specE_ok eqSits_ok)
  refine ⟨_, noL, 60, hCt, noL_sound _, fun blk os out tape D hD => ?_⟩
  have htop : ∃ m, A.rd t 0 1 = some [.map (some m)] := by
    obtain ⟨m, s, E, h⟩ := hT
    exact ⟨m, h.top.rd (o := 0) (n := 1) (by show 0 + 1 ≤ 2; omega)⟩
  have htop' : ∃ m, A.rd t' 0 1 = some [.map (some m)] := by
    obtain ⟨m, s, E, h⟩ := hU
    exact ⟨m, h.top.rd (o := 0) (n := 1) (by show 0 + 1 ≤ 2; omega)⟩
  obtain ⟨m, htop⟩ := htop
  obtain ⟨m', htop'⟩ := htop'
  conv => lhs; whnf
  repeat (first | refine go_rd htop ?_ | refine go_rd htop' ?_ | refine go_D hD rfl ?_
          conv => lhs; whnf)
  refine (hD _).2 ⟨⟨T, B, O, t⟩, ⟨rfl, hT, fT2⟩, fun v A1 hq => ?_⟩
  obtain ⟨s1, hN1⟩ : A.Sub A1 ∧ NodesS (A1.minus A) v (treeAll T) := hq
  obtain ⟨a1, c1, rfl⟩ := hN1.choose_spec.2.1.form
  conv => lhs; whnf
  refine (hD _).2 ⟨⟨U, B', O', t'⟩, ⟨rfl, TreeAt_sub hU s1, fU2⟩, fun v A2 hq => ?_⟩
  obtain ⟨s2, hN2⟩ : A1.Sub A2 ∧ NodesS (A2.minus A1) v (treeAll U) := hq
  obtain ⟨a2, c2, rfl⟩ := hN2.choose_spec.2.1.form
  obtain ⟨l1, hl1, hR1⟩ := nodesR_of hN1 ((minus_sub A A1).trans s2)
  obtain ⟨l2, hl2, hR2⟩ := nodesR_of hN2 (minus_sub A1 A2)
  have e1 : l1.length = (treeAll T).length := by rw [← hl1, List.length_map]
  have e2 : l2.length = (treeAll U).length := by rw [← hl2, List.length_map]
  conv => lhs; whnf
  refine (hD _).2 ⟨(l1, l2), ⟨_, _, rfl, hR1, hR2, by show l1.length ≤ _; rw [e1, treeAll_len]; exact fT2, by show l2.length ≤ _; rw [e2, treeAll_len]; exact fU2⟩, fun v A3 hq => ?_⟩
  obtain ⟨hA3, rfl⟩ : A2 = A3 ∧ v = .bool (decide (l1.map (·.1) = l2.map (·.1))) := ⟨hq.1.symm, hq.2⟩
  subst hA3
  rw [hl1, hl2]
  conv => lhs; whnf
  have hend : ∀ (b : Bool) Ak, A.Sub Ak → (b = true ↔ TSame T U) → sameS.post (⟨T, B, O, t⟩, ⟨U, B', O', t'⟩) [.pointer (some ⟨t, 0, none⟩), .pointer (some ⟨t', 0, none⟩)] A (.bool b) Ak := fun b Ak hk hb => by
    refine ⟨hk, ?_⟩
    congr 1
    rw [Bool.eq_iff_iff, hb, decide_eq_true_iff]
  refine split_dec (fun hall => ?_) (fun hall => ?_) <;> (conv => lhs; whnf)
  rotate_left
  · exact (hD _).2 (hend false A2 (s1.trans s2) ⟨fun h => (by cases h), fun h => absurd h.1 hall⟩)
  refine (hD _).2 ⟨⟨T, B, O, t⟩, ⟨rfl, TreeAt_sub hT (s1.trans s2), fT1, fT3⟩, fun v A4 hq => ?_⟩
  obtain ⟨s4, hS4⟩ : A2.Sub A4 ∧ Sl (A4.minus A2) 3 (treeSits T).length v ((treeSits T).flatMap sitC) := hq
  obtain ⟨a4, c4, rfl⟩ := hS4.form
  conv => lhs; whnf
  refine (hD _).2 ⟨⟨U, B', O', t'⟩, ⟨rfl, TreeAt_sub hU (s1.trans (s2.trans s4)), fU1, fU3⟩, fun v A5 hq => ?_⟩
  obtain ⟨s5, hS5⟩ : A4.Sub A5 ∧ Sl (A5.minus A4) 3 (treeSits U).length v ((treeSits U).flatMap sitC) := hq
  obtain ⟨a5, c5, rfl⟩ := hS5.form
  conv => lhs; whnf
  refine (hD _).2 ⟨(treeSits T, treeSits U), ⟨_, _, rfl, hS4.sub ((minus_sub A2 A4).trans s5), hS5.sub (minus_sub A4 A5), by show (treeSits T).length ≤ _; rw [treeSits_len]; exact fT3, by show (treeSits U).length ≤ _; rw [treeSits_len]; exact fU3⟩, fun v A6 hq => ?_⟩
  obtain ⟨hA6, rfl⟩ : A5 = A6 ∧ v = .bool (decide (treeSits T = treeSits U)) := ⟨hq.1.symm, hq.2⟩
  subst hA6
  conv => lhs; whnf
  exact (hD _).2 (hend _ A5 (s1.trans (s2.trans (s4.trans s5))) (by show decide (treeSits T = treeSits U) = true ↔ _; rw [decide_eq_true_iff]; exact ⟨fun h => ⟨hall, h⟩, fun h => h.2⟩))

end
end Go.Proofs.YtabonbbfcfchmaaDoor

namespace Go.Proofs.YtabonbbfcfchmaaDoor
open Go.Sx Go.RowKit
noncomputable section
open Classical

section
variable {κ α : Type} [BEq κ] [LawfulBEq κ]

theorem kGet_some {q : κ} {x : α} {l : List (κ × α)} (hn : (l.map (·.1)).Nodup) : kGet q l = some x ↔ (q, x) ∈ l :=
  ⟨fun h => kGet_mem (fun _ h => (eq_of_beq h).symm) h, fun h => kGet_of_mem (fun _ => BEq.rfl) (fun _ _ h => (eq_of_beq h).symm) hn h⟩

theorem kGet_perm {l l' : List (κ × α)} (h : l.Perm l') (hn : (l.map (·.1)).Nodup) (q : κ) : kGet q l = kGet q l' := by
  have hn' : (l'.map (·.1)).Nodup := (h.map (·.1)).nodup_iff.1 hn
  cases hk : kGet q l with
  | some x => exact ((kGet_some hn').2 (h.mem_iff.1 ((kGet_some hn).1 hk))).symm
  | none =>
    refine (kGet_not fun hm => ?_).symm
    exact kGet_none BEq.rfl hk ((h.map (·.1)).mem_iff.2 hm)

theorem kGet_fold [DecidableEq κ] (q : κ) : ∀ (l m : List (κ × α)), (l.map (·.1)).Nodup → kGet q (l.foldl (fun m e => kPut e.1 e.2 m) m) = match kGet q l with | some x => some x | none => kGet q m
  | [], m, _ => rfl
  | (r, y) :: l, m, hn => by
    rw [List.map_cons, List.nodup_cons] at hn
    rw [List.foldl_cons, kGet_fold q l _ hn.2, kGet_put]
    by_cases e : q = r
    · subst e
      simp only [kGet, BEq.rfl, cond_true, if_true]
      rw [kGet_not hn.1]
    · have hb : (q == r) = false := by simpa using e
      simp only [kGet, hb, cond_false, if_neg e]

theorem keys_perm {l l' : List (κ × α)} (h : ∀ q, kGet q l = kGet q l') (hn : (l.map (·.1)).Nodup) (hn' : (l'.map (·.1)).Nodup) : (l.map (·.1)).Perm (l'.map (·.1)) :=
  (List.perm_ext_iff_of_nodup hn hn').2 fun q => by rw [← kGet_iff, ← kGet_iff, h q]

end

/-! ### Alike: the same is told -/

theorem paths_same {T U : TreeD} (h : TEq T U) (hT : ND T) (hU : ND U) : treePaths T = treePaths U := by
  have hp := (keys_perm h.1 hT.1 hU.1).map pathL
  rw [List.map_map, List.map_map] at hp
  exact mergeSort_of_perm hp

theorem told_same {T U : TreeD} (h : TEq T U) (hT : ND T) (hU : ND U) (p : ByteArray) : toldOf T p = toldOf U p := by
  have hk : kidsN T p = kidsN U p := (keys_perm h.1 hT.1 hU.1).countP_eq _
  unfold toldOf
  rw [h.1 p, hk]

theorem TEq.same {T U : TreeD} (h : TEq T U) (hT : ND T) (hU : ND U) : TSame T U := by
  constructor
  · rw [treeAll, treeAll, paths_same h hT hU]
    exact List.map_congr_left fun x _ => told_same h hT hU _
  · have hs : sitOf T.seats = sitOf U.seats := by
      funext s
      unfold sitOf
      rw [h.2 s]
    rw [treeSits, treeSits, hs, sortI_of_perm (keys_perm h.2 hT.2 hU.2)]

theorem TreeAt.nd {A B : Arena} {O : Nat → Prop} {t : Nat} {T : TreeD} (h : TreeAt A B O t T) : ND T := by
  obtain ⟨m, s, E, h⟩ := h
  exact ⟨by rw [h.nodes, kMap_keys]; exact h.keys, h.skeys⟩

/-! ### What deeds keep -/

structure TOk (T : TreeD) : Prop where
  nd : ND T
  ses : ∀ s x, kGet s T.seats = some x → x.ses = s ∧ 1 ≤ s
  root : kGet rootS T.nodes ≠ none

theorem TOk.seatsOk {T : TreeD} (h : TOk T) : SeatsOk T := fun e he => (h.ses e.1 e.2 ((kGet_some h.nd.2).2 he)).1

theorem tok_new : TOk treeNew := ⟨⟨by simp [treeNew], by simp [treeNew]⟩, fun s x h => by simp [treeNew, kGet] at h, by simp [treeNew, kGet]⟩

theorem chg_root {h : DeedH} (hf : h.kind = 1 ∨ h.kind = 2 → h.path.data.toList ≠ [47]) (z time : Int) {o : Option NodeD} (ho : o ≠ none) : chgF h z time rootS o ≠ none := by
  have hm : ∀ {o : Option NodeD}, o ≠ none → markF h z rootS o ≠ none := fun {o} ho => by
    unfold markF
    split
    · cases o with
      | none => exact absurd rfl ho
      | some x => simp
    · exact ho
  unfold chgF
  split
  · split
    · cases o with
      | none => exact absurd rfl ho
      | some x => simp
    · exact ho
  · split
    · refine hm ?_
      split
      · simp
      · exact ho
    · split
      · rename_i h2
        refine hm ?_
        rw [if_neg fun e => hf (.inr h2) (by rw [← e]; rfl)]
        exact ho
      · exact hm ho

theorem fits_root {h : DeedH} {np : Nat} (hf : FitsD h np) : h.kind = 1 ∨ h.kind = 2 → h.path.data.toList ≠ [47] := by
  obtain ⟨_, _, _, _, _, _, _, _, _, _, _, _, _, _, _, h9, _⟩ := hf
  exact h9

theorem parts_root (z time : Int) : ∀ (ps : List DeedD), (∀ p ∈ ps, FitsD p.h p.parts.length) → ∀ {o : Option NodeD}, o ≠ none → partsF ps z time rootS o ≠ none
  | [], _, o, ho => ho
  | p :: ps, hp, o, ho => parts_root z time ps (fun q hq => hp q (List.mem_cons_of_mem _ hq)) (chg_root (fits_root (hp p (by simp))) z time ho)

theorem TOk.apply {T : TreeD} (h : TOk T) (d : DeedD) : TOk (treeApply T d) := by
  obtain ⟨k0, k1, k2⟩ := apply_all h.nd d
  refine ⟨k0, fun s x hx => ?_, ?_⟩
  · rw [k2] at hx
    by_cases hr : RightD d
    · rw [if_pos hr] at hx
      have hz : 1 ≤ d.h.zxid := hr.1
      have key : ∀ o : Option SitD, (∀ y, o = some y → y.ses = s ∧ 1 ≤ s) → touchF d s o = some x → x.ses = s ∧ 1 ≤ s := fun o ho hx => by
        unfold touchF at hx
        split at hx
        · cases o with
          | none => cases hx
          | some y =>
            injection hx with hx
            subst hx
            exact ho y rfl
        · exact ho x hx
      refine key _ (fun y hy => ?_) hx
      split at hy
      · split at hy
        · rename_i e
          injection hy with hy
          subst hy
          rw [e]; exact ⟨rfl, hz⟩
        · exact h.ses s y hy
      · split at hy
        · split at hy
          · cases hy
          · exact h.ses s y hy
        · exact h.ses s y hy
    · rw [if_neg hr] at hx
      exact h.ses s x hx
  · rw [k1]
    by_cases hr : RightD d
    · rw [if_pos hr]
      unfold doF
      split
      · exact chg_root (fits_root hr.2.2.2.2.2.2.1) _ _ h.root
      · split
        · rename_i h58
          refine parts_root _ _ _ (fun p hp => ?_) h.root
          rcases h58 with h5 | h8
          · exact ((hr.2.2.2.2.2.2.2.1 h5).2.2 p hp).2.2.2.2.2.1
          · exact ((hr.2.2.2.2.2.2.2.2.2 h8).2.2 p hp).2.2.2.2.2.1
        · exact h.root
    · rw [if_neg hr]; exact h.root

theorem kDel_len {κ α : Type} [BEq κ] [LawfulBEq κ] (p : κ) (l : List (κ × α)) : (kDel p l).length ≤ l.length := (kDel_sub p l).length_le

theorem parts_seats (z time : Int) : ∀ (ps : List DeedD) (T : TreeD), (treeParts T ps z time).seats = T.seats
  | [], _ => rfl
  | p :: ps, T => (parts_seats z time ps _).trans (change_seats T p.h z time)

theorem apply_slen (T : TreeD) (d : DeedD) : (treeApply T d).seats.length ≤ T.seats.length + 2 := by
  have h1 : (treeDo T d).seats.length ≤ T.seats.length + 1 := by
    unfold treeDo
    split
    · rw [change_seats]; omega
    · split
      · exact kPut_len _ _ _
      · split
        · rw [parts_seats]
          have := kDel_len d.h.owner T.seats
          show (kDel d.h.owner T.seats).length ≤ _
          omega
        · split
          · rw [parts_seats]; omega
          · omega
  unfold treeApply
  split
  · unfold treeTouch
    split
    · have := kPut_len d.h.ses ⟨‹SitD›.ses, ‹SitD›.tmo, max ‹SitD›.turn d.h.turn⟩ (treeDo T d).seats
      show (kPut _ _ (treeDo T d).seats).length ≤ _
      omega
    · omega
  · omega

/-! ### Copies -/

theorem copy_eq {T : TreeD} (h : TOk T) {E sk : List (ByteArray × Nat × NodeD)} (hE : T.nodes = kMap (·.2) E) (hp : sk.Perm E) : TEq T ⟨copyNodes sk, seatsOf (treeSits T)⟩ := by
  constructor
  · intro q
    have h1 : copyNodes sk = (kMap (·.2) sk).foldl (fun m e => kPut e.1 e.2 m) treeNew.nodes := by
      unfold copyNodes kMap
      rw [List.foldl_map]
    have hpm : T.nodes.Perm (kMap (·.2) sk) := by
      rw [hE]
      exact (hp.map _).symm
    have hn : ((kMap (·.2) sk).map (·.1)).Nodup := (hpm.map (·.1)).nodup_iff.1 h.nd.1
    show kGet q T.nodes = kGet q (copyNodes sk)
    rw [h1, kGet_fold q _ _ hn, ← kGet_perm hpm h.nd.1 q]
    cases hk : kGet q T.nodes with
    | some x => rfl
    | none =>
      by_cases e : q = rootS
      · subst e; exact absurd hk h.root
      · have hb : (q == rootS) = false := by simpa using e
        simp [treeNew, kGet, hb]
  · intro s
    have hpos : ∀ x ∈ treeSits T, 1 ≤ x.ses ∧ kGet x.ses T.seats = some x := fun x hx => by
      obtain ⟨k, hk, rfl⟩ := List.mem_map.1 hx
      have hk := (sortI_perm _).mem_iff.1 hk
      obtain ⟨e, he, rfl⟩ := List.mem_map.1 hk
      have hg := (kGet_some h.nd.2).2 (show (e.1, e.2) ∈ T.seats from he)
      have hs := h.ses _ _ hg
      have hso : sitOf T.seats e.1 = e.2 := sitOf_mem h.nd.2 h.seatsOk he
      rw [hso, hs.1]
      exact ⟨hs.2, hg⟩
    have h1 : ∀ (l : List SitD) (m : List (Int × SitD)), (∀ x ∈ l, 1 ≤ x.ses) → l.foldl seatOne m = (l.map fun x => (x.ses, x)).foldl (fun m e => kPut e.1 e.2 m) m := fun l => by
      induction l with
      | nil => exact fun m _ => rfl
      | cons x l ih =>
        intro m hl
        rw [List.foldl_cons, List.map_cons, List.foldl_cons, ih _ fun y hy => hl y (List.mem_cons_of_mem _ hy)]
        have := hl x (by simp)
        rw [seatOne, if_neg (by omega)]
    have hkeys : ((treeSits T).map fun x => (x.ses, x)).map (·.1) = sortI (T.seats.map (·.1)) := by
      rw [List.map_map, treeSits, List.map_map]
      refine (List.map_congr_left fun k _ => ?_).trans (List.map_id _)
      exact sitOf_ses _ _
    have hn : (((treeSits T).map fun x => (x.ses, x)).map (·.1)).Nodup := by
      rw [hkeys]
      exact (sortI_perm _).nodup_iff.2 h.nd.2
    show kGet s T.seats = kGet s (seatsOf (treeSits T))
    unfold seatsOf
    rw [h1 _ _ fun x hx => (hpos x hx).1, kGet_fold s _ _ hn]
    cases hk : kGet s T.seats with
    | some x =>
      have hx : (s, x) ∈ (treeSits T).map fun x => (x.ses, x) := by
        have hm := (kGet_some h.nd.2).1 hk
        refine List.mem_map.2 ⟨x, List.mem_map.2 ⟨s, (sortI_perm _).mem_iff.2 (List.mem_map.2 ⟨_, hm, rfl⟩), sitOf_mem h.nd.2 h.seatsOk hm⟩, ?_⟩
        rw [(h.ses s x hk).1]
      rw [(kGet_some hn).2 hx]
    | none =>
      rw [kGet_not (l := (treeSits T).map fun x => (x.ses, x)) fun hm => ?_]
      · rfl
      · rw [hkeys] at hm
        exact kGet_none (by simp) hk ((sortI_perm _).mem_iff.1 hm)

end
end Go.Proofs.YtabonbbfcfchmaaDoor

namespace Go.Proofs.YtabonbbfcfchmaaDoor
open Go.Sx Go.RowKit
noncomputable section
open Classical

/-! ### The order of paths -/

theorem ltL_iff : ∀ (l m : List UInt8), ltL l m = true ↔ l < m
  | [], [] => by simp [ltL]
  | _ :: _, [] => by simp [ltL]
  | [], _ :: _ => by simp [ltL]
  | a :: l, b :: m => by
    rw [List.cons_lt_cons_iff, ← ltL_iff l m]
    simp only [ltL]
    by_cases h : a < b
    · have h' : a.toNat < b.toNat := UInt8.lt_iff_toNat_lt.1 h
      have hb : Nat.blt a.toNat b.toNat = true := Nat.ble_eq.mpr h'
      simp [hb, h]
    · have h' : ¬ a.toNat < b.toNat := fun x => h (UInt8.lt_iff_toNat_lt.2 x)
      have hb : Nat.blt a.toNat b.toNat = false := by
        cases hx : Nat.blt a.toNat b.toNat with
        | false => rfl
        | true => exact absurd (Nat.le_of_ble_eq_true hx) h'
      by_cases e : a = b
      · subst e
        simp [hb, h]
      · have he : Nat.beq a.toNat b.toNat = false := by
          cases hx : Nat.beq a.toNat b.toNat with
          | false => rfl
          | true => exact absurd (UInt8.toNat_inj.1 (Nat.eq_of_beq_eq_true hx)) e
        simp [hb, he, h, e]

theorem ltL_tri : ∀ {l m : List UInt8}, ltL l m = false → ltL m l = false → l = m
  | [], [], _, _ => rfl
  | _ :: _, [], _, h => by simp [ltL] at h
  | [], _ :: _, h, _ => by simp [ltL] at h
  | a :: l, b :: m, h1, h2 => by
    simp only [ltL] at h1 h2
    cases hab : Nat.blt a.toNat b.toNat with
    | true => rw [hab] at h1; cases h1
    | false =>
      cases hba : Nat.blt b.toNat a.toNat with
      | true => rw [hba] at h2; cases h2
      | false =>
        have h3 : ¬ a.toNat < b.toNat := fun h => by
          have : Nat.blt a.toNat b.toNat = true := Nat.ble_eq.mpr h
          rw [hab] at this; cases this
        have h4 : ¬ b.toNat < a.toNat := fun h => by
          have : Nat.blt b.toNat a.toNat = true := Nat.ble_eq.mpr h
          rw [hba] at this; cases this
        have e : a.toNat = b.toNat := by omega
        have hb1 : Nat.beq a.toNat b.toNat = true := by rw [e]; exact Nat.beq_refl _
        have hb2 : Nat.beq b.toNat a.toNat = true := by rw [e]; exact Nat.beq_refl _
        rw [hab, hb1] at h1
        rw [hba, hb2] at h2
        rw [UInt8.toNat_inj.1 e, ltL_tri h1 h2]

theorem pathL_inj {p q : ByteArray} (h : pathL p = pathL q) : p = q := bytes_ext h

theorem paths_nodup {T : TreeD} (h : ND T) : (treePaths T).Nodup := by
  refine (sortL_perm _).nodup_iff.2 ?_
  have h1 := h.1
  exact List.pairwise_map.2 ((List.pairwise_map.1 h1).imp fun hab e => hab (pathL_inj e))

theorem paths_sorted {T : TreeD} (h : ND T) : (treePaths T).Pairwise fun a b => ltL a b = true := by
  have hs : (treePaths T).Pairwise fun a b => a ≤ b := by
    have tr : ∀ a b c : List UInt8, decide (a ≤ b) = true → decide (b ≤ c) = true → decide (a ≤ c) = true := fun a b c h1 h2 => by
      simp only [decide_eq_true_eq] at *; exact List.le_trans h1 h2
    have to : ∀ a b : List UInt8, (decide (a ≤ b) || decide (b ≤ a)) = true := fun a b => by
      simp only [Bool.or_eq_true, decide_eq_true_eq]; exact List.le_total a b
    exact (List.pairwise_mergeSort tr to _).imp fun h => of_decide_eq_true h
  refine (hs.and (paths_nodup h)).imp fun {a b} hab => ?_
  cases h : ltL a b with
  | true => rfl
  | false =>
    refine absurd (ltL_tri h ?_) hab.2
    cases h2 : ltL b a with
    | false => rfl
    | true => exact absurd ((ltL_iff b a).1 h2) (List.not_lt.2 hab.1)

/-! ### Children -/

theorem kids_len (T : TreeD) (p : ByteArray) : (treeKids T p).length = kidsN T p := by
  rw [treeKids, sortL_length, kidsOf, List.length_map, kidsN, List.countP_eq_length_filter]

theorem count_cons {p : ByteArray} {ps : List ByteArray} (hp : p ∉ ps) : ∀ keys : List ByteArray, (keys.countP fun q => decide (parentP q = p)) + (keys.countP fun q => decide (parentP q ∈ ps)) = keys.countP fun q => decide (parentP q ∈ p :: ps)
  | [] => rfl
  | q :: keys => by
    have ih := count_cons hp keys
    rw [List.countP_cons, List.countP_cons, List.countP_cons, ← ih]
    by_cases h1 : parentP q = p
    · have h3 : p ∈ p :: ps := by simp
      simp only [h1, h3, hp, decide_true, decide_false, Bool.false_eq_true, if_true, if_false]
      omega
    · by_cases h2 : parentP q ∈ ps
      · have h3 : parentP q ∈ p :: ps := List.mem_cons_of_mem _ h2
        simp only [h1, h2, h3, decide_true, decide_false, Bool.false_eq_true, if_true, if_false]
        omega
      · have h3 : ¬ parentP q ∈ p :: ps := fun h => by
          rcases List.mem_cons.1 h with h | h
          · exact h1 h
          · exact h2 h
        simp only [h1, h2, h3, decide_false, Bool.false_eq_true, if_false]
        omega

theorem sum_kids (keys : List ByteArray) : ∀ ps : List ByteArray, ps.Nodup → (ps.map fun p => keys.countP fun q => decide (parentP q = p)).sum = keys.countP fun q => decide (parentP q ∈ ps)
  | [], _ => by simp
  | p :: ps, hn => by
    rw [List.nodup_cons] at hn
    rw [List.map_cons, List.sum_cons, sum_kids keys ps hn.2, count_cons hn.1]

theorem parent_root : parentP rootS = ⟨#[]⟩ := by
  unfold parentP cutP
  rw [if_neg fun h => h.2 rfl]

/-- All nodes but the root have one parent at most. -/
theorem kids_sum {T : TreeD} (h : TOk T) (hk : KeysOk T) : ((treePaths T).map fun x => kidsN T (bytesOf x)).sum + 1 ≤ T.nodes.length := by
  have h1 : ((treePaths T).map fun x => kidsN T (bytesOf x)) = (((treePaths T).map bytesOf).map fun p => (T.nodes.map (·.1)).countP fun q => decide (parentP q = p)) := by
    rw [List.map_map]; rfl
  have hn : ((treePaths T).map bytesOf).Nodup := by
    refine List.pairwise_map.2 ((paths_nodup h.nd).imp fun {a b} hab e => hab ?_)
    have := congrArg pathL e
    simpa [pathL, bytesOf] using this
  rw [h1, sum_kids _ _ hn]
  have hr : rootS ∈ T.nodes.map (·.1) := kGet_iff.1 h.root
  obtain ⟨a, b, e⟩ := List.append_of_mem hr
  have hl : T.nodes.length = a.length + (b.length + 1) := by
    have := congrArg List.length e
    simpa using this
  have hnr : ¬ parentP rootS ∈ (treePaths T).map bytesOf := fun hm => by
    rw [parent_root] at hm
    obtain ⟨x, hx, e⟩ := List.mem_map.1 hm
    have hm := paths_mem hx
    obtain ⟨y, hy, e2⟩ := List.mem_map.1 hm
    have := hk y hy
    rw [e2, e] at this
    cases this
  rw [e, List.countP_append, List.countP_cons, if_neg (by simpa using hnr), hl]
  have h2 := List.countP_le_length (p := fun q => decide (parentP q ∈ (treePaths T).map bytesOf)) (l := a)
  have h3 := List.countP_le_length (p := fun q => decide (parentP q ∈ (treePaths T).map bytesOf)) (l := b)
  omega

end
end Go.Proofs.YtabonbbfcfchmaaDoor

namespace Go.Proofs.YtabonbbfcfchmaaDoor
open Go.Sx Go.RowKit
noncomputable section
open Classical

/-! ### What nodes hold -/

def StatOk (s : StatD) : Prop := 0 ≤ s.czxid ∧ 0 ≤ s.mzxid ∧ 0 ≤ s.pzxid ∧ 0 ≤ s.ctime ∧ 0 ≤ s.mtime ∧ 0 ≤ s.ver ∧ 0 ≤ s.cver ∧ 0 ≤ s.owner ∧ 0 ≤ s.len ∧ 0 ≤ s.kids
def NdOk (n : NodeD) : Prop := n.data.length ≤ 1000 ∧ StatOk n.stat
def NodesOk (T : TreeD) : Prop := ∀ q n, kGet q T.nodes = some n → NdOk n

theorem chg_nd {h : DeedH} {np : Nat} (hf : FitsD h np) {z time : Int} (hz : 0 ≤ z) (ht : 0 ≤ time) {q : ByteArray} {o : Option NodeD} (ho : ∀ n, o = some n → NdOk n) : ∀ n, chgF h z time q o = some n → NdOk n := by
  obtain ⟨_, _, _, _, _, _, _, _, _, _, _, h1, h2, h3, h4, _⟩ := hf
  have hm : ∀ {o : Option NodeD}, (∀ n, o = some n → NdOk n) → ∀ n, markF h z q o = some n → NdOk n := fun {o} ho n hn => by
    unfold markF at hn
    split at hn
    · cases o with
      | none => cases hn
      | some x =>
        injection hn with hn
        obtain ⟨k1, k2, k3, k4, k5, k6, k7, k8, k9, k10, k11⟩ := ho x rfl
        subst hn
        exact ⟨k1, k2, k3, hz, k5, k6, k7, h4, k9, k10, k11⟩
    · exact ho n hn
  intro n hn
  unfold chgF at hn
  split at hn
  · split at hn
    · cases o with
      | none => cases hn
      | some x =>
        injection hn with hn
        obtain ⟨k1, k2, k3, k4, k5, k6, k7, k8, k9, k10, k11⟩ := ho x rfl
        subst hn
        exact ⟨h1, k2, hz, k4, k5, ht, h3, k8, k9, k10, k11⟩
    · exact ho n hn
  · split at hn
    · refine hm (fun m hm => ?_) n hn
      split at hm
      · injection hm with hm
        subst hm
        exact ⟨h1, hz, hz, hz, ht, ht, Int.le_refl _, Int.le_refl _, h2, Int.le_refl _, Int.le_refl _⟩
      · exact ho m hm
    · split at hn
      · refine hm (fun m hm => ?_) n hn
        split at hm
        · cases hm
        · exact ho m hm
      · exact hm ho n hn

theorem parts_nd {z time : Int} (hz : 0 ≤ z) (ht : 0 ≤ time) {q : ByteArray} : ∀ (ps : List DeedD), (∀ p ∈ ps, FitsD p.h p.parts.length) → ∀ {o : Option NodeD}, (∀ n, o = some n → NdOk n) → ∀ n, partsF ps z time q o = some n → NdOk n
  | [], _, _, ho => ho
  | p :: ps, hp, _, ho => parts_nd hz ht ps (fun q hq => hp q (List.mem_cons_of_mem _ hq)) (chg_nd (hp p (by simp)) hz ht ho)

theorem NodesOk.apply {T : TreeD} (h : NodesOk T) (hn : ND T) (d : DeedD) : NodesOk (treeApply T d) := fun q n hq => by
  obtain ⟨_, k1, _⟩ := apply_all hn d
  rw [k1] at hq
  by_cases hr : RightD d
  · rw [if_pos hr] at hq
    have hz : 0 ≤ d.h.zxid := by have := hr.1; omega
    have ht : 0 ≤ d.h.time := hr.2.2.2.2.2.1
    unfold doF at hq
    split at hq
    · exact chg_nd hr.2.2.2.2.2.2.1 hz ht (h q) n hq
    · split at hq
      · rename_i h58
        refine parts_nd hz ht d.parts (fun p hp => ?_) (h q) n hq
        rcases h58 with h5 | h8
        · exact ((hr.2.2.2.2.2.2.2.1 h5).2.2 p hp).2.2.2.2.2.1
        · exact ((hr.2.2.2.2.2.2.2.2.2 h8).2.2 p hp).2.2.2.2.2.1
      · exact h q n hq
  · rw [if_neg hr] at hq
    exact h q n hq

theorem nodesOk_new : NodesOk treeNew := fun q n hq => by
  simp only [treeNew, kGet] at hq
  cases hb : q == rootS with
  | false => rw [hb] at hq; cases hq
  | true =>
    rw [hb] at hq
    injection hq with hq
    subst hq
    exact ⟨by simp, by simp [StatOk]⟩

/-! ### Alike but for what is reckoned -/

def erN (n : NodeD) : NodeD := ⟨n.data, { n.stat with len := 0, kids := 0 }⟩

def TSim (T U : TreeD) : Prop := (∀ q, (kGet q T.nodes).map erN = (kGet q U.nodes).map erN) ∧ ∀ s, kGet s T.seats = kGet s U.seats

theorem TEq.sim {T U : TreeD} (h : TEq T U) : TSim T U := ⟨fun q => by rw [h.1], h.2⟩

theorem keys_sim {T U : TreeD} (h : TSim T U) (hT : ND T) (hU : ND U) : (T.nodes.map (·.1)).Perm (U.nodes.map (·.1)) :=
  (List.perm_ext_iff_of_nodup hT.1 hU.1).2 fun q => by
    rw [← kGet_iff, ← kGet_iff]
    have := h.1 q
    cases h1 : kGet q T.nodes <;> cases h2 : kGet q U.nodes <;> rw [h1, h2] at this <;> simp at this <;> simp

theorem TSim.same {T U : TreeD} (h : TSim T U) (hT : ND T) (hU : ND U) : TSame T U := by
  have hp := keys_sim h hT hU
  constructor
  · have e : treePaths T = treePaths U := by
      have hp := hp.map pathL
      rw [List.map_map, List.map_map] at hp
      exact mergeSort_of_perm hp
    rw [treeAll, treeAll, e]
    refine List.map_congr_left fun x _ => ?_
    have hk : kidsN T (bytesOf x) = kidsN U (bytesOf x) := hp.countP_eq _
    have := h.1 (bytesOf x)
    unfold toldOf
    rw [hk]
    cases h1 : kGet (bytesOf x) T.nodes with
    | none =>
      cases h2 : kGet (bytesOf x) U.nodes with
      | none => rfl
      | some m => rw [h1, h2] at this; cases this
    | some n =>
      cases h2 : kGet (bytesOf x) U.nodes with
      | none => rw [h1, h2] at this; cases this
      | some m =>
        rw [h1, h2] at this
        injection this with this
        obtain ⟨nd, ⟨n1, n2, n3, n4, n5, n6, n7, n8, n9, n10⟩⟩ := n
        obtain ⟨md, ⟨m1, m2, m3, m4, m5, m6, m7, m8, m9, m10⟩⟩ := m
        simp only [erN, NodeD.mk.injEq, StatD.mk.injEq] at this
        obtain ⟨rfl, rfl, rfl, rfl, rfl, rfl, rfl, rfl, rfl, -⟩ := this
        rfl
  · have hs : sitOf T.seats = sitOf U.seats := by
      funext s
      unfold sitOf
      rw [h.2 s]
    have hks := keys_perm h.2 hT.2 hU.2
    rw [treeSits, treeSits, hs, sortI_of_perm hks]

/-! ### Nodes that are loaded -/

def loadN (l : List ToldD) : List (ByteArray × NodeD) := l.foldl (fun m x => kPut x.path ⟨x.data, x.stat⟩ m) []

theorem loadN_snoc (l : List ToldD) (x : ToldD) : loadN (l ++ [x]) = kPut x.path ⟨x.data, x.stat⟩ (loadN l) := by
  unfold loadN; rw [List.foldl_append]; rfl

theorem loadN_get {l : List ToldD} (hn : (l.map (·.path)).Nodup) (q : ByteArray) : kGet q (loadN l) = kGet q (l.map fun x => (x.path, (⟨x.data, x.stat⟩ : NodeD))) := by
  have h1 : loadN l = (l.map fun x => (x.path, (⟨x.data, x.stat⟩ : NodeD))).foldl (fun m e => kPut e.1 e.2 m) [] := by
    unfold loadN; rw [List.foldl_map]
  rw [h1, kGet_fold q _ _ (by rw [List.map_map]; exact hn)]
  cases kGet q (l.map fun x => (x.path, (⟨x.data, x.stat⟩ : NodeD))) <;> rfl

theorem told_path (T : TreeD) (p : ByteArray) : (toldOf T p).path = p := by
  unfold toldOf; split <;> rfl

theorem all_paths (T : TreeD) : (treeAll T).map (·.path) = (treePaths T).map bytesOf := by
  rw [treeAll, List.map_map]
  exact List.map_congr_left fun x _ => told_path T _

theorem all_nodup {T : TreeD} (h : ND T) : ((treeAll T).map (·.path)).Nodup := by
  rw [all_paths]
  refine List.pairwise_map.2 ((paths_nodup h).imp fun {a b} hab e => hab ?_)
  have := congrArg pathL e
  simpa [pathL, bytesOf] using this

theorem load_sim {T : TreeD} (h : ND T) (q : ByteArray) : (kGet q (loadN (treeAll T))).map erN = (kGet q T.nodes).map erN := by
  rw [loadN_get (all_nodup h)]
  have hn : (((treeAll T).map fun x => (x.path, (⟨x.data, x.stat⟩ : NodeD))).map (·.1)).Nodup := by
    rw [List.map_map]; exact all_nodup h
  cases hk : kGet q T.nodes with
  | some n =>
    have hm : pathL q ∈ treePaths T := (sortL_perm _).mem_iff.2 (List.mem_map.2 ⟨(q, n), (kGet_some h.1).1 hk, rfl⟩)
    have ht : toldOf T q = ⟨q, n.data, { n.stat with len := n.data.length, kids := kidsN T q }⟩ := by unfold toldOf; rw [hk]
    have hx : (q, (⟨n.data, { n.stat with len := n.data.length, kids := kidsN T q }⟩ : NodeD)) ∈ (treeAll T).map fun x => (x.path, (⟨x.data, x.stat⟩ : NodeD)) := by
      refine List.mem_map.2 ⟨toldOf T q, List.mem_map.2 ⟨pathL q, hm, by rw [bytesOf_pathL]⟩, ?_⟩
      rw [ht]
    rw [(kGet_some hn).2 hx]
    rfl
  | none =>
    rw [kGet_not fun hm => ?_]
    rw [List.map_map] at hm
    have hm : q ∈ (treeAll T).map (·.path) := hm
    rw [all_paths] at hm
    obtain ⟨x, hx, rfl⟩ := List.mem_map.1 hm
    exact kGet_iff.2 (paths_mem hx) hk

/-! ### Rows of deeds -/

theorem er_chg (h : DeedH) (z time : Int) (q : ByteArray) (o : Option NodeD) : (chgF h z time q o).map erN = chgF h z time q (o.map erN) := by
  have hm : ∀ o : Option NodeD, (markF h z q o).map erN = markF h z q (o.map erN) := fun o => by
    unfold markF
    split
    · cases o <;> rfl
    · rfl
  unfold chgF
  split
  · split
    · cases o <;> rfl
    · rfl
  · split
    · rw [hm]
      split <;> rfl
    · split
      · rw [hm]
        split <;> rfl
      · exact hm o

theorem er_parts (z time : Int) (q : ByteArray) : ∀ (ps : List DeedD) (o : Option NodeD), (partsF ps z time q o).map erN = partsF ps z time q (o.map erN)
  | [], _ => rfl
  | p :: ps, o => by
    show (partsF ps z time q (chgF p.h z time q o)).map erN = partsF ps z time q (chgF p.h z time q (o.map erN))
    rw [er_parts z time q ps, er_chg]

theorem er_do (d : DeedD) (q : ByteArray) (o : Option NodeD) : (doF d q o).map erN = doF d q (o.map erN) := by
  unfold doF
  split
  · exact er_chg _ _ _ _ _
  · split
    · exact er_parts _ _ _ _ _
    · rfl

theorem TSim.apply {T U : TreeD} (h : TSim T U) (hT : ND T) (hU : ND U) (d : DeedD) : TSim (treeApply T d) (treeApply U d) := by
  obtain ⟨_, k1, k2⟩ := apply_all hT d
  obtain ⟨_, j1, j2⟩ := apply_all hU d
  refine ⟨fun q => ?_, fun s => by rw [k2, j2, h.2]⟩
  rw [k1, j1]
  split
  · rw [er_do, er_do, h.1]
  · exact h.1 q

/-- What a row of deeds does to the node of a path. -/
def rowF (ds : List DeedD) (q : ByteArray) (o : Option NodeD) : Option NodeD := ds.foldl (fun o d => if RightD d then doF d q o else o) o
def rowS (ds : List DeedD) (s : Int) (o : Option SitD) : Option SitD := ds.foldl (fun o d => if RightD d then sitF d s o else o) o
def treeRow (T : TreeD) (ds : List DeedD) : TreeD := ds.foldl treeApply T

theorem ow_row (q : ByteArray) : ∀ ds : List DeedD, Ow (rowF ds q)
  | [] => ow_id
  | d :: ds => by
    show Ow fun o => rowF ds q (if RightD d then doF d q o else o)
    by_cases h : RightD d
    · simp only [h, if_true]; exact ow_comp (ow_do d q) (ow_row q ds)
    · simp only [h, if_false]; exact ow_row q ds

theorem row_all : ∀ (ds : List DeedD) {T : TreeD}, ND T → ND (treeRow T ds) ∧ (∀ q, kGet q (treeRow T ds).nodes = rowF ds q (kGet q T.nodes)) ∧ ∀ s, kGet s (treeRow T ds).seats = rowS ds s (kGet s T.seats)
  | [], _, h => ⟨h, fun _ => rfl, fun _ => rfl⟩
  | d :: ds, T, h => by
    obtain ⟨k0, k1, k2⟩ := apply_all h d
    obtain ⟨j0, j1, j2⟩ := row_all ds k0
    exact ⟨j0, fun q => (j1 q).trans (by rw [k1]; rfl), fun s => (j2 s).trans (by rw [k2]; rfl)⟩

theorem row_append (T : TreeD) (ds es : List DeedD) : treeRow T (ds ++ es) = treeRow (treeRow T ds) es := by
  unfold treeRow; rw [List.foldl_append]

theorem TSim.row {T U : TreeD} (h : TSim T U) : ∀ (ds : List DeedD), ND T → ND U → TSim (treeRow T ds) (treeRow U ds) := fun ds => by
  induction ds generalizing T U with
  | nil => exact fun _ _ => h
  | cons d ds ih => exact fun hT hU => ih (h.apply hT hU d) (apply_all hT d).1 (apply_all hU d).1

/-- A sitting's changes. -/
def SOw (f : Option SitD → Option SitD) : Prop := (∃ c, f = fun _ => c) ∨ ∃ t : Option Int, f = Option.map fun x => ⟨x.ses, x.tmo, match t with | some t => max x.turn t | none => x.turn⟩

theorem sow_id : SOw fun o => o := .inr ⟨none, by funext o; cases o <;> rfl⟩

theorem sow_comp {f g : Option SitD → Option SitD} (hf : SOw f) (hg : SOw g) : SOw fun o => g (f o) := by
  rcases hg with ⟨c, rfl⟩ | ⟨t', rfl⟩
  · exact .inl ⟨c, rfl⟩
  · rcases hf with ⟨c, rfl⟩ | ⟨t, rfl⟩
    · exact .inl ⟨c.map _, rfl⟩
    · refine .inr ⟨match t, t' with | some a, some b => some (max a b) | some a, none => some a | none, y => y, ?_⟩
      funext o
      cases o with
      | none => rfl
      | some x =>
        cases t <;> cases t' <;> simp only [Option.map_some] <;> try rfl
        congr 2
        omega

theorem sow_idem {f : Option SitD → Option SitD} (hf : SOw f) (o : Option SitD) : f (f o) = f o := by
  rcases hf with ⟨c, rfl⟩ | ⟨t, rfl⟩
  · rfl
  · cases o with
    | none => rfl
    | some x =>
      cases t with
      | none => rfl
      | some t =>
        simp only [Option.map_some]
        congr 2
        omega

theorem sow_touch (d : DeedD) (s : Int) : SOw (touchF d s) := by
  unfold touchF
  by_cases e : s = d.h.ses
  · simp only [e, if_true]; exact .inr ⟨some d.h.turn, rfl⟩
  · simp only [e, if_false]; exact sow_id

theorem sow_sit (d : DeedD) (s : Int) : SOw (sitF d s) := by
  unfold sitF
  by_cases h4 : d.h.kind = 4
  · simp only [h4, if_true]
    by_cases e : s = d.h.zxid
    · simp only [e, if_true]; exact .inl ⟨_, rfl⟩
    · simp only [e, if_false]; exact sow_touch d s
  · simp only [h4, if_false]
    by_cases h5 : d.h.kind = 5
    · simp only [h5, if_true]
      by_cases e : s = d.h.owner
      · simp only [e, if_true]; exact .inl ⟨_, rfl⟩
      · simp only [e, if_false]; exact sow_touch d s
    · simp only [h5, if_false]; exact sow_touch d s

theorem sow_row (s : Int) : ∀ ds : List DeedD, SOw (rowS ds s)
  | [] => sow_id
  | d :: ds => by
    show SOw fun o => rowS ds s (if RightD d then sitF d s o else o)
    by_cases h : RightD d
    · simp only [h, if_true]; exact sow_comp (sow_sit d s) (sow_row s ds)
    · simp only [h, if_false]; exact sow_row s ds

end
end Go.Proofs.YtabonbbfcfchmaaDoor

namespace Go.Proofs.YtabonbbfcfchmaaDoor
open Go.Sx Go.RowKit
noncomputable section
open Classical

theorem er_row (q : ByteArray) : ∀ (ds : List DeedD) (o : Option NodeD), (rowF ds q o).map erN = rowF ds q (o.map erN)
  | [], _ => rfl
  | d :: ds, o => by
    show (rowF ds q (if RightD d then doF d q o else o)).map erN = rowF ds q (if RightD d then doF d q (o.map erN) else o.map erN)
    rw [er_row q ds]
    split
    · rw [er_do]
    · rfl

theorem rowF_app (q : ByteArray) (ds es : List DeedD) (o : Option NodeD) : rowF (ds ++ es) q o = rowF es q (rowF ds q o) := by
  unfold rowF; rw [List.foldl_append]

theorem rowS_app (s : Int) (ds es : List DeedD) (o : Option SitD) : rowS (ds ++ es) s o = rowS es s (rowS ds s o) := by
  unfold rowS; rw [List.foldl_append]

theorem again_sim {T U : TreeD} (hT : ND T) (hU : ND U) (ds : List DeedD)
    (hq : ∀ q, ∃ j, (kGet q U.nodes).map erN = (kGet q (treeRow T (ds.take j)).nodes).map erN) (hs : ∃ j, ∀ s, kGet s U.seats = kGet s (treeRow T (ds.take j)).seats) : TSim (treeRow U ds) (treeRow T ds) := by
  obtain ⟨_, k1, k2⟩ := row_all ds hU
  obtain ⟨_, j1, j2⟩ := row_all ds hT
  refine ⟨fun q => ?_, fun s => ?_⟩
  · obtain ⟨j, hj⟩ := hq q
    rw [k1, j1, er_row, hj, (row_all (ds.take j) hT).2.1, ← er_row]
    congr 1
    have e : ∀ o, rowF ds q o = rowF (ds.drop j) q (rowF (ds.take j) q o) := fun o => by rw [← rowF_app, List.take_append_drop]
    rw [e, e, ow_idem (ow_row q (ds.take j))]
  · obtain ⟨j, hj⟩ := hs
    rw [k2, j2, hj, (row_all (ds.take j) hT).2.2]
    have e : ∀ o, rowS ds s o = rowS (ds.drop j) s (rowS (ds.take j) s o) := fun o => by rw [← rowS_app, List.take_append_drop]
    rw [e, e, sow_idem (sow_row s (ds.take j))]

/-- What deeds keep, all at once. -/
structure TGood (T : TreeD) : Prop where
  ok : TOk T
  keys : KeysOk T
  nodes : NodesOk T

theorem tgood_new : TGood treeNew := ⟨tok_new, fun e he => by
  simp only [treeNew, List.mem_singleton] at he
  subst he; rfl, nodesOk_new⟩

theorem TGood.apply {T : TreeD} (h : TGood T) (d : DeedD) : TGood (treeApply T d) := ⟨h.ok.apply d, apply_keys h.keys d, h.nodes.apply h.ok.nd d⟩

theorem TGood.row {T : TreeD} (h : TGood T) : ∀ ds : List DeedD, TGood (treeRow T ds) := fun ds => by
  induction ds generalizing T with
  | nil => exact h
  | cons d ds ih => exact ih (h.apply d)

/-! ### What may be loaded -/

def NodeFits (x : ToldD) : Prop := pathOk x.path.data.toList = true ∧ x.data.length ≤ 1000 ∧ StatOk x.stat

def LoadOk (l : List ToldD) : Prop := (∀ x ∈ l, NodeFits x) ∧ (l.Pairwise fun a b => ltL (pathL a.path) (pathL b.path) = true) ∧ ∃ x, l.head? = some x ∧ x.path = rootS

theorem told_some {T : TreeD} {p : ByteArray} {n : NodeD} (h : kGet p T.nodes = some n) : toldOf T p = ⟨p, n.data, { n.stat with len := n.data.length, kids := kidsN T p }⟩ := by
  unfold toldOf; rw [h]

theorem all_get {T : TreeD} {x : List UInt8} (hx : x ∈ treePaths T) : ∃ n, kGet (bytesOf x) T.nodes = some n := by
  cases h : kGet (bytesOf x) T.nodes with
  | some n => exact ⟨n, rfl⟩
  | none => exact absurd h (kGet_iff.2 (paths_mem hx))

theorem pathL_bytesOf (x : List UInt8) : pathL (bytesOf x) = x := by simp [pathL, bytesOf]

theorem root_first {T : TreeD} (h : TGood T) : ∃ ps, treePaths T = [47] :: ps := by
  have hr : ([47] : List UInt8) ∈ treePaths T := by
    obtain ⟨e, he, h1⟩ := List.mem_map.1 (kGet_iff.1 h.ok.root)
    exact (sortL_perm _).mem_iff.2 (List.mem_map.2 ⟨e, he, by rw [h1]; rfl⟩)
  have hs := paths_sorted h.ok.nd
  cases hp : treePaths T with
  | nil => rw [hp] at hr; cases hr
  | cons x ps =>
    rw [hp] at hr hs
    rcases List.mem_cons.1 hr with e | hm
    · exact ⟨ps, by rw [e]⟩
    · have hlt := (List.pairwise_cons.1 hs).1 _ hm
      have hx : x ∈ treePaths T := by rw [hp]; simp
      obtain ⟨e, he, h1⟩ := List.mem_map.1 (paths_mem hx)
      have hk := h.keys e he
      have e2 : e.1.data.toList = x := by rw [h1]; exact pathL_bytesOf x
      rw [e2] at hk
      exfalso
      unfold pathOk at hk
      split at hk
      · rename_i q
        simp [ltL] at hlt
      · cases hk

theorem load_ok {T : TreeD} (h : TGood T) : LoadOk (treeAll T) := by
  refine ⟨fun x hx => ?_, ?_, ?_⟩
  · obtain ⟨y, hy, rfl⟩ := List.mem_map.1 hx
    obtain ⟨n, hn⟩ := all_get hy
    obtain ⟨h1, h2, h3, h4, h5, h6, h7, h8, h9, _, _⟩ := h.nodes _ _ hn
    rw [told_some hn]
    obtain ⟨e, he, h0⟩ := List.mem_map.1 (paths_mem hy)
    have hk := h.keys e he
    rw [h0] at hk
    exact ⟨hk, h1, h2, h3, h4, h5, h6, h7, h8, h9, by show (0 : Int) ≤ (n.data.length : Int); omega, by show (0 : Int) ≤ (kidsN T (bytesOf y) : Int); omega⟩
  · rw [treeAll]
    refine List.pairwise_map.2 ((paths_sorted h.ok.nd).imp fun {a b} hab => ?_)
    rw [told_path, told_path, pathL_bytesOf, pathL_bytesOf]
    exact hab
  · obtain ⟨ps, hp⟩ := root_first h
    rw [treeAll, hp]
    exact ⟨_, rfl, told_path T _⟩

/-- What was told, loaded and seated, is the same tree. -/
theorem loaded_sim {T : TreeD} (h : TGood T) : TSim T ⟨loadN (treeAll T), seatsOf (treeSits T)⟩ :=
  ⟨fun q => (load_sim h.ok.nd q).symm, fun s => by
    have hE : T.nodes = kMap (·.2) (T.nodes.map fun e => (e.1, (0 : Nat), e.2)) := by
      unfold kMap
      rw [List.map_map]
      exact (List.map_id _).symm
    exact (copy_eq h.ok hE (List.Perm.refl _)).2 s⟩

end
end Go.Proofs.YtabonbbfcfchmaaDoor

namespace Go.Proofs.YtabonbbfcfchmaaDoor
open Go.Sx Go.RowKit
noncomputable section
open Classical

def atD (l : List ToldD) (p : ByteArray) : Option ToldD := l.find? fun x => decide (x.path = p)

/-- Pick: a number below n. -/
def pickS : FSpec := ⟨Int × Nat, fun g vs _ => vs = [.int .i64 g.1, .int .i64 g.2] ∧ 1 ≤ g.2 ∧ g.2 ≤ 1000000, fun g _ A v A' => A' = A ∧ ∃ k : Nat, k < g.2 ∧ v = .int .i64 k⟩

set_option maxRecDepth 100000 in
set_option maxHeartbeats 0 in
theorem pick_ok : FOk Tryd.prog 7 pickS := by
  refine fok_v mixed fun ⟨x, n⟩ vs A hp => ?_
  obtain ⟨rfl, h1, h2⟩ : vs = [.int .i64 x, .int .i64 n] ∧ 1 ≤ n ∧ n ≤ 1000000 := hp
  refine ⟨noC, noL, 60, noC_sound _, noL_sound _, fun blk os out tape D hD => ?_⟩
  conv => lhs; whnf
  refine split_dec (fun h => ?_) (fun h => ?_) <;> (conv => lhs; whnf)
  · omega
  have hn0 : ¬ (n : Int) = 0 := by omega
  have hlo : -(n : Int) < Int.tmod x n := by
    have := Int.lt_tmod_of_pos x (b := (n : Int)) (by omega)
    omega
  have hhi : Int.tmod x n < n := Int.tmod_lt_of_pos x (by omega)
  have hend : ∀ z : Int, 0 ≤ z → z < n → pickS.post (x, n) [.int .i64 x, .int .i64 n] A (.int .i64 z) A := fun z h0 h1 => ⟨rfl, z.toNat, by show z.toNat < n; omega, by rw [Int.toNat_of_nonneg h0]⟩
  refine split_b (fun _ => ?_) (fun hb => absurd hb (by rw [decide_eq_false hn0]; decide)) <;> (conv => lhs; whnf)
  refine split_dec (fun h0 => ?_) (fun h0 => ?_) <;> (conv => lhs; whnf)
  · have hend1 := hend (IntKind.i64.wrap (Int.tmod x n + n)) (by rw [Sx.wrap_i64 (by omega) (by omega)]; omega) (by rw [Sx.wrap_i64 (by omega) (by omega)]; omega)
    exact (hD _).2 hend1
  · exact (hD _).2 (hend (Int.tmod x n) (by omega) hhi)

def atS : FSpec := ⟨List (ToldD × Value) × ByteArray, fun g vs A => ∃ x, vs = [x, .string g.2] ∧ NodesR A x g.1 ∧ g.1.length ≤ 1000000,
  fun g _ A v A' => A' = A ∧ ((∃ y ∈ g.1, y.1.path = g.2 ∧ v = .tuple #[.agg (nodeC y).toArray, .bool true]) ∨ ((∀ y ∈ g.1, y.1.path ≠ g.2) ∧ v = .tuple #[nodeV ⟨#[]⟩ (.slice none 0 0) statZ, .bool false]))⟩

set_option maxRecDepth 100000 in
set_option maxHeartbeats 0 in
theorem at_ok : FOk Tryd.prog 11 atS := by
  refine fok_v mixed fun ⟨l, p⟩ vs A hp => ?_
  obtain ⟨x, rfl, ⟨⟨ao, c, rfl, hc, _, ha1, ha2, ha3⟩, hda⟩, hl1⟩ : ∃ x, vs = [x, .string p] ∧ NodesR A x l ∧ l.length ≤ 1000000 := hp
  refine ⟨noC, tabO Tryd.prog noC noL 60 [(11, 0)], 60, noC_sound _, tabO_sound mixed (noC_sound _) (noL_sound _) _ _, fun blk os out tape D hD => ?_⟩
  conv => lhs; whnf
  refine (hD _).2 ⟨cnt A 6 [0, 1, 4] [0] l.length fun k => ∀ y ∈ l.take k, y.1.path ≠ p, ⟨(0 : Nat), ⟨Nat.zero_le _, by simp⟩, ⟨rfl, trivial⟩, trivial, rfl⟩, fun (k : Nat) hk => ⟨⟨trivial, trivial⟩, trivial, ?_⟩⟩
  simp only [cnt] at hk
  conv => lhs; whnf
  refine split_dec (fun hlt => ?_) (fun hlt => ?_) <;> (conv => lhs; whnf)
  · have hkl : k < l.length := by omega
    obtain ⟨g, o, rfl, hra⟩ := Sl.at_ hc ha1 ha2 ha3 (by omega)
    have r1 := row_at (enc := nodeC) (fun _ => rfl) hra k hkl rfl
    obtain ⟨⟨⟨q, d, ⟨s1, s2, s3, s4, s5, s6, s7, s8, s9, s10⟩⟩, vd⟩, hx⟩ : ∃ z, z = l[k] := ⟨_, rfl⟩
    have hd : SlB A vd d := hda ((⟨q, d, ⟨s1, s2, s3, s4, s5, s6, s7, s8, s9, s10⟩⟩ : ToldD), vd) (by rw [hx]; exact List.getElem_mem _)
    obtain ⟨ad, cd, rfl⟩ := hd.1.form
    have hmem : ((⟨q, d, ⟨s1, s2, s3, s4, s5, s6, s7, s8, s9, s10⟩⟩ : ToldD), Value.slice ad d.length cd) ∈ l := by rw [hx]; exact List.getElem_mem _
    rw [← hx] at r1
    have r1 : A.rd g (o + k * 12) 12 = some [.string q, .slice ad d.length cd, .int .i64 s1, .int .i64 s2, .int .i64 s3, .int .i64 s4, .int .i64 s5, .int .i64 s6, .int .i64 s7, .int .i64 s8, .int .i64 s9, .int .i64 s10] := r1
    have r1p : A.rd g (o + k * 12) 1 = some [.string q] := rd_at r1 (i := 0) (m := 1) (by omega)
    have i0 : (0 : Int) ≤ (k : Int) ∧ (k : Int) < (l.length : Int) := by omega
    have htk : l.take (k + 1) = l.take k ++ [(⟨q, d, ⟨s1, s2, s3, s4, s5, s6, s7, s8, s9, s10⟩⟩, .slice ad d.length cd)] := by rw [List.take_succ_eq_append_getElem hkl, ← hx]
    repeat (first | refine go_in i0 ?_ | refine go_rd r1p ?_
            conv => lhs; whnf)
    refine split_b (fun hb => ?_) (fun hb => ?_) <;> (conv => lhs; whnf)
    · have hqp : q = p := bytes_ext (beqL_iff.1 hb)
      repeat (first | refine go_in i0 ?_ | refine go_rd r1 ?_
              conv => lhs; whnf)
      exact (hD _).2 ⟨rfl, .inl ⟨_, hmem, hqp, rfl⟩⟩
    · have hqp : q ≠ p := fun e => beqL_ff.1 hb (by rw [e])
      refine (hD _).2 ⟨(k + 1 : Nat), ⟨⟨by omega, fun y hy => ?_⟩, ⟨inc_slot (by omega), trivial⟩, trivial, rfl⟩, ?_, ⟨rfl, rfl, rfl, trivial⟩, ⟨rfl, trivial⟩⟩
      · rw [htk] at hy
        rcases List.mem_append.1 hy with hy | hy
        · exact hk.2 y hy
        · simp only [List.mem_singleton] at hy
          subst hy; exact hqp
      · show l.length - (k + 1) < l.length - k
        omega
  · have e : k = l.length := by omega
    have h := hk.2
    rw [e, List.take_length] at h
    exact (hD _).2 ⟨rfl, .inr ⟨h, rfl⟩⟩

end
end Go.Proofs.YtabonbbfcfchmaaDoor

namespace Go.Proofs.YtabonbbfcfchmaaDoor
open Go.Sx Go.RowKit
noncomputable section
open Classical

/-- A closed run that gives true, where some blocks are known. -/
theorem fok_closedG {P : Program} (hm : P.follows .mixedOrders = true) {C : FuncId → Option CT} (hC : CTSound P C) {Λ : LTab} (hΛ : LTSound P Λ) {n : Nat} {f : FuncId} {gl : List (Nat × List Value)} {Q : Arena → Prop}
    (hQ : ∀ (A : Arena) (w : World), (∀ k o, A.blk k = some o → w.heap[k]? = some o) → Q A → ∀ g cs, (g, cs) ∈ gl → ∃ c t fz, w.heap[g]? = some (.cells c t fz) ∧ ∀ (i : Nat) v, cs[i]? = some v → c[i]? = some v)
    (hk : ∀ (w : World) (hg : ∀ g cs, (g, cs) ∈ gl → ∃ c t fz, w.heap[g]? = some (.cells c t fz) ∧ ∀ (i : Nat) v, cs[i]? = some v → c[i]? = some v), sxTop P C Λ n f [] ⟨.e, 0, memG w gl hg⟩ (fun r _ => isT r) = true) :
    FOk P f ⟨Unit, fun _ vs A => vs = [] ∧ Q A, fun _ _ A v A' => A' = A ∧ v = .bool true⟩ := by
  intro _ vs A w hA hvs
  obtain ⟨rfl, hq⟩ : vs = [] ∧ Q A := hvs
  have hg := hQ A w hA hq
  have R : HRel (fun _ => ⟨0, 0, 0⟩) ⟨.e, 0, memG w gl hg⟩ w := by
    refine ⟨rfl, rfl, rfl, fun k o hk => hk, fun b B hb => ?_, fun b b' B B' hb => ?_, fun b B hb => ?_, fun k o hk => (by cases hk), fun b B hb => ?_, fun k o hk => (by cases hk)⟩ <;> (rw [T.get_e] at hb; cases hb)
  refine (sxTop_sound hm hC hΛ n f [] _ _ (hk w hg) _ w R (fun x hx => by cases hx)).mono (fun v w' ⟨z, h', ρ', hz, hv, hl, R', _, _, hle⟩ => ?_) fun _ _ h => h
  have old : ∀ k o, w.heap[k]? = some o → w'.heap[k]? = some o := fun k o hk => R'.mem k o (hle.1 k o hk)
  refine ⟨A, ⟨rfl, ?_⟩, R'.os.trans hle.2.1, R'.out.trans hle.2.2.1, R'.tape.trans hle.2.2.2, fun k hk hlt => ?_, fun k o hk => old k o (hA k o hk), fun k o ho => .inl ⟨o, ho⟩⟩
  · rw [hv]
    cases z with
    | v x => cases x with
      | bool b => simp only [isT] at hz; subst hz; rfl
      | _ => simp [isT] at hz
    | _ => simp [isT] at hz
  · have h0 : w.heap[k]? = some w.heap[k] := Array.getElem?_eq_getElem hlt
    rw [old k _ h0, h0]

def hasG : List (Nat × List Value) := [((0 : Nat), [.int .i64 0, .int .i64 23, .int .i64 17, .int .i64 11, .int .i64 32, .int .i64 260, .int .i64 0, .int .i64 128, .int .i64 256, .int .i64 64])]

theorem hasG_of (A : Arena) (w : World) (hA : ∀ k o, A.blk k = some o → w.heap[k]? = some o) (h : HasA A) : ∀ g cs, (g, cs) ∈ hasG → ∃ c t fz, w.heap[g]? = some (.cells c t fz) ∧ ∀ (i : Nat) v, cs[i]? = some v → c[i]? = some v := fun g cs hm => by
  simp only [hasG, List.mem_singleton, Prod.mk.injEq] at hm
  obtain ⟨rfl, rfl⟩ := hm
  unfold HasA at h
  rw [A.rdeq] at h
  unfold rdOf at h
  split at h
  · rename_i c t fz hb
    split at h
    · injection h with h
      refine ⟨c, t, fz, hA _ _ hb, fun i v hv => ?_⟩
      have h2 : [Value.int .i64 0, .int .i64 23, .int .i64 17, .int .i64 11, .int .i64 32, .int .i64 260, .int .i64 0, .int .i64 128, .int .i64 256, .int .i64 64] = (c.toList.drop 0).take 10 := h.symm
      rw [h2, List.drop_zero, List.getElem?_take] at hv
      split at hv
      · rw [← Array.getElem?_toList]; exact hv
      · cases hv
    · cases h
  · cases h

set_option maxRecDepth 100000 in
theorem awake11_run (w : World) (hg : ∀ g cs, (g, cs) ∈ hasG → ∃ c t fz, w.heap[g]? = some (.cells c t fz) ∧ ∀ (i : Nat) v, cs[i]? = some v → c[i]? = some v) : sxTop Tryd.prog C0 noL 400 5 [] ⟨.e, 0, memG w hasG hg⟩ (fun r _ => isT r) = true := by kernel_rfl

def awake11S : FSpec := ⟨Unit, fun _ vs A => vs = [] ∧ HasA A, fun _ _ A v A' => A' = A ∧ v = .bool true⟩

theorem awake11_ok : FOk Tryd.prog 5 awake11S := fok_closedG mixed C0_sound (noL_sound _) hasG_of awake11_run

def greatS : FSpec := ⟨DeedD × Arena, fun g vs _ => ∃ cs, vs = [deedV cs] ∧ DeedR g.2 g.1 cs, fun g _ A v A' => A' = A ∧ v = .bool (decide ((60 : Int) < g.1.parts.length))⟩

set_option maxRecDepth 100000 in
set_option maxHeartbeats 0 in
theorem great_ok : FOk Tryd.prog 27 greatS := by
  refine fok_v mixed fun ⟨d, C⟩ vs A hp => ?_
  obtain ⟨cs, rfl, hR⟩ : ∃ cs, vs = [deedV cs] ∧ DeedR C d cs := hp
  obtain ⟨⟨zxid, kind, ses, turn, xid, dtime, path, data, owner, ver, cver, tmo, err, cfg, mem⟩, parts⟩ := d
  rw [DeedR] at hR
  dsimp only [DeedH.cells] at hR
  obtain ⟨vd, vm, vp, rws, rfl, -, hd1, hM, hSp, hlen2, hRows⟩ := hR
  obtain ⟨a7, k7, rfl⟩ := hd1.1.form
  obtain ⟨a14, k14, rfl⟩ := hM.1.form
  obtain ⟨a15, k15, rfl⟩ := hSp.form
  refine ⟨noC, noL, 60, noC_sound _, noL_sound _, fun blk os out tape D hD => ?_⟩
  conv => lhs; whnf
  exact (hD _).2 ⟨rfl, rfl⟩

end
end Go.Proofs.YtabonbbfcfchmaaDoor

namespace Go.Sx
noncomputable section

/-- What an append of m elements to it asks. -/
structure GrowM (A : Arena) (base : Option (Nat × Nat)) (n m c es bytes : Nat) (cs : List Value) : Prop where
  rd : baseRd A base (n * es) = some cs
  cap : c < n + m → Builtin.nextslicecap (n + m) c * bytes ≤ 281474976710656
  none_ : base = none → n = 0 ∧ c = 0
  room : ∀ (k : Nat), k = m * es → ∀ g o, base = some (g, o) → n + m ≤ c → A.Room g (o + n * es) k

theorem GrowR.formN {A1 A : Arena} {es : Nat} {e : TypeId} {n : Nat} {v : Value} {cs : List Value} (h : GrowR A1 A es e n v cs) :
    ∃ base c, v = .slice (addrA base) n c ∧ (base = none ∨ ∃ g, base = some (g, 0)) ∧ (∀ m bytes, bytes ≤ 65536 → n + m ≤ 1000000000 → GrowM A base n m c es bytes cs) ∧
    ∀ m ys v' A', ys.length = m * es → (∀ k, A.blk k = none → A1.blk k = none) → Appended A base n c es e cs ys m v' A' → GrowR A1 A' es e (n + m) v' (cs ++ ys) ∧ ∀ k o, A1.blk k = some o → A'.blk k = A.blk k := by
  obtain ⟨hl, ⟨rfl, rfl⟩ | ⟨g, nc, c, rfl, hn, hpos, hg, hb, hsz, ht⟩⟩ := h
  · have hcs : cs = [] := List.length_eq_zero_iff.1 (by rw [hl]; simp)
    subst hcs
    refine ⟨none, 0, rfl, .inl rfl, fun m bytes hby hn => ⟨by simp [baseRd], fun h => ?_, fun _ => ⟨rfl, rfl⟩, fun _ _ _ _ h => (by cases h)⟩, fun m ys v' A' hy hd ha => ?_⟩
    · have := nextcap_le h
      calc _ ≤ (2 * (0 + m) + 768) * 65536 := Nat.mul_le_mul this hby
        _ ≤ _ := by omega
    · rcases ha with ⟨h0, rfl, h3⟩ | ⟨hlt, g, nc, c, zs, rfl, hnc, hc, hz, hN⟩
      · have hm : m = 0 := by omega
        subst hm
        have hys : ys = [] := List.length_eq_zero_iff.1 (by rw [hy]; simp)
        subst hys
        rcases h3 with ⟨_, rfl⟩ | ⟨g, o, h, _⟩
        · exact ⟨GrowR.nil _ _ _ _, fun _ _ _ => rfl⟩
        · cases h
      · refine ⟨⟨by simp [hy], .inr ⟨g, nc, c, rfl, hnc, by omega, hd g hN.none_, hN.at_, ?_, ?_⟩⟩, fun k o hk => hN.other k fun e => (by subst e; rw [hd _ hN.none_] at hk; cases hk)⟩
        · rw [← Array.length_toList, hc]
          simp only [List.nil_append, List.length_append, hy, hz, Nat.zero_add]
          rw [← Nat.add_mul]; congr 1; omega
        · rw [hc, Nat.zero_add, List.nil_append, List.take_append_of_le_length (by omega), List.take_of_length_le (by omega)]
  · have hle : n * es ≤ nc * es := Nat.mul_le_mul_right _ hn
    refine ⟨some (g, 0), nc, rfl, .inr ⟨g, rfl⟩, fun m bytes hby hnb => ⟨?_, fun h => ?_, fun h => (by cases h), fun k hk g' o' h hlt => ?_⟩, fun m ys v' A' hy hd ha => ?_⟩
    · show (if n * es = 0 then some [] else A.rd g 0 (n * es)) = some cs
      by_cases h0 : n * es = 0
      · rw [if_pos h0]
        rw [h0] at hl; rw [List.length_eq_zero_iff.1 hl]
      · rw [if_neg h0, rd_mk hb (by omega)]; simp [ht]
    · have := nextcap_le h
      calc _ ≤ (2 * (n + m) + 768) * 65536 := Nat.mul_le_mul this hby
        _ ≤ _ := by omega
    · injection h with h; injection h with h1 h2; subst h1; subst h2; subst hk
      refine ⟨c, e, (0, 0), hb, ?_, .inl rfl⟩
      have := Nat.mul_le_mul_right es hlt
      rw [Nat.add_mul] at this; omega
    · rcases ha with ⟨h0, rfl, h3⟩ | ⟨h0, g', nc', c', zs, rfl, hnc, hc, hz, hN⟩
      · obtain ⟨c', k1, k2, k3⟩ : ∃ c', A'.blk g = some (.cells c' e (0, 0)) ∧ (∀ k, k ≠ g → A'.blk k = A.blk k) ∧ c'.toList = c.toList.take (n * es) ++ ys ++ c.toList.drop (n * es + ys.length) := by
          rcases h3 with ⟨rfl, rfl⟩ | ⟨g', o', h, hP⟩
          · exact ⟨c, hb, fun _ _ => rfl, by simp⟩
          · injection h with h; injection h with h1 h2; subst h1; subst h2
            obtain ⟨c0, t0, fz0, c', k1, k2, k3⟩ := hP.at_
            rw [hb] at k1
            injection k1 with k1; injection k1 with k1 k1' k1''
            subst k1; subst k1'; subst k1''
            exact ⟨c', k2, hP.other, by rw [k3]; simp⟩
        have hlen : n * es + m * es ≤ nc * es := by rw [← Nat.add_mul]; exact Nat.mul_le_mul_right _ h0
        have hcl : (cs ++ ys).length = (n + m) * es := by rw [List.length_append, hl, hy, Nat.add_mul]
        refine ⟨⟨hcl, .inr ⟨g, nc, c', rfl, h0, hpos, hg, k1, ?_, ?_⟩⟩, fun k o hk => k2 k fun e => (by subst e; rw [hg] at hk; cases hk)⟩
        · rw [← Array.length_toList, k3]
          simp only [List.length_append, List.length_take, List.length_drop, Array.length_toList, hsz, hy]
          omega
        · rw [k3, ht, List.take_append_of_le_length (by omega), List.take_of_length_le (by omega)]
      · have hcl : (cs ++ ys).length = (n + m) * es := by rw [List.length_append, hl, hy, Nat.add_mul]
        refine ⟨⟨hcl, .inr ⟨g', nc', c', rfl, hnc, by omega, hd g' hN.none_, hN.at_, ?_, ?_⟩⟩, fun k o hk => hN.other k fun e => (by subst e; rw [hd _ hN.none_] at hk; cases hk)⟩
        · rw [← Array.length_toList, hc]
          simp only [List.length_append, hl, hy, hz]
          rw [← Nat.add_mul, ← Nat.add_mul]; congr 1; omega
        · rw [hc, List.take_append_of_le_length (by omega), List.take_of_length_le (by omega)]

theorem addrA_inj {b b' : Option (Nat × Nat)} (h : addrA b = addrA b') : b = b' := by
  cases b with
  | none => cases b' with
    | none => rfl
    | some y => cases h
  | some x => cases b' with
    | none => cases h
    | some y =>
      obtain ⟨g, o⟩ := x
      obtain ⟨g', o'⟩ := y
      injection h with h
      injection h with h1 h2
      rw [h1, h2]

/-- The same, where the slice is spelled out. -/
theorem GrowR.formB {A1 A : Arena} {es : Nat} {e : TypeId} {n c : Nat} {base : Option (Nat × Nat)} {cs : List Value} (h : GrowR A1 A es e n (.slice (addrA base) n c) cs) :
    (∀ m bytes, bytes ≤ 65536 → n + m ≤ 1000000000 → GrowM A base n m c es bytes cs) ∧
    ∀ m ys v' A', ys.length = m * es → (∀ k, A.blk k = none → A1.blk k = none) → Appended A base n c es e cs ys m v' A' → GrowR A1 A' es e (n + m) v' (cs ++ ys) ∧ ∀ k o, A1.blk k = some o → A'.blk k = A.blk k := by
  obtain ⟨b', c', hv, _, h1, h2⟩ := h.formN
  injection hv with hv1 hv2 hv3
  have e := addrA_inj hv1
  subst e; subst hv3
  exact ⟨h1, h2⟩

theorem GrowR.cap_le {A1 A : Arena} {es : Nat} {e : TypeId} {n m c : Nat} {ao : Option Addr} {cs : List Value} (h : GrowR A1 A es e n (.slice ao m c) cs) : n ≤ c := by
  obtain ⟨_, ⟨rfl, h⟩ | ⟨g, nc, _, h, hn, _⟩⟩ := h
  · omega
  · injection h with h1 h2 h3
    omega

/-- What lies at the front of a row. -/
theorem src_take {A : Arena} {g o n q : Nat} {α : Type} {f : α → Value} {l : List α} (h : A.rd g 0 (n * 1) = some (l.map f)) (hq : q ≤ n) (ho : o = 0) : (if q = 0 then some [] else A.rd g o (q * 1)) = some ((l.take q).map f) := by
  subst ho
  by_cases h0 : q = 0
  · rw [if_pos h0, h0, List.take_zero]; rfl
  · rw [if_neg h0]
    have := rd_at h (i := 0) (m := q * 1) (by omega)
    rw [Nat.add_zero, List.drop_zero, Nat.mul_one, ← List.map_take] at this
    rw [Nat.mul_one]
    exact this

/-- What lies behind. -/
theorem src_drop {A : Arena} {g o n q : Nat} {α : Type} {f : α → Value} {l : List α} (h : A.rd g 0 (n * 1) = some (l.map f)) (hn : n = l.length) (ho : q < n → o = q) : (if n - q = 0 then some [] else A.rd g o ((n - q) * 1)) = some ((l.drop q).map f) := by
  by_cases h0 : n - q = 0
  · rw [if_pos h0, List.drop_eq_nil_of_le (by omega)]; rfl
  · rw [if_neg h0, ho (by omega)]
    have := rd_at h (i := q) (m := (n - q) * 1) (by omega)
    rw [Nat.zero_add] at this
    rw [this, ← List.map_drop, List.take_of_length_le (by rw [List.length_map, List.length_drop]; omega)]

/-- A row made by append, as a slice. -/
theorem GrowR.sl {A1 A : Arena} {es : Nat} {e : TypeId} {n : Nat} {v : Value} {cs : List Value} (h : GrowR A1 A es e n v cs) : Sl A es n v cs := by
  obtain ⟨h1, ⟨rfl, rfl⟩ | ⟨g, nc, c, rfl, h4, h4', h5, h6, h7, h8⟩⟩ := h
  · have hc : cs = [] := List.length_eq_zero_iff.1 (by rw [h1]; simp)
    subst hc
    exact Sl.nil _ _
  · have hle : n * es ≤ nc * es := Nat.mul_le_mul_right _ h4
    refine Sl.row h4 ?_
    rw [rd_mk h6 (by omega), List.drop_zero, h8]

end
end Go.Sx
