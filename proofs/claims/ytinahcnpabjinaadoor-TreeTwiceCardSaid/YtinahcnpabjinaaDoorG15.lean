/-
  Contracts: a node got; the answer to a reading.
  Contracts: a tree gets sittings.
  Contracts: two rows of texts: are they the same?
  Contracts: all of a tree's nodes, as they are told.
  Contracts: bytes.Equal.
  Contracts: are two trees the same?
  Contracts: a copy of a tree.
  Trees that are alike tell the same; a copy is alike; what deeds keep of a tree.
  A closed run as a contract; the law of chapter 26 is awake.
  Contracts: the law of chapter 11 is awake; is a deed great?
-/
import Derived.Test.YtinahcnpabjinaaDoorG14
import Derived.Test.YtinahcnpabjinaaDoorG07
import Derived.Laws.BytesArg
import Derived.Test.YtinahcnpabjinaaDoorG06
namespace Go.Proofs.YtinahcnpabjinaaDoor
open Go.Sx Go.RowKit
noncomputable section
open Classical

def statZ : StatD := ⟨0, 0, 0, 0, 0, 0, 0, 0, 0, 0⟩

/-- What a get tells. -/
def GotV (A A' : Arena) (T : TreeD) (p : ByteArray) (v : Value) : Prop := match kGet p T.nodes with
  | none => v = .tuple #[nodeV ⟨#[]⟩ (.slice none 0 0) statZ, .bool false]
  | some n => ∃ vd, v = .tuple #[nodeV p vd { n.stat with len := n.data.length, kids := (treeKids T p).length }, .bool true] ∧ SlB (A'.minus A) vd n.data

def getS : FSpec := ⟨TG × ByteArray, fun g vs A => vs = [.pointer (some ⟨g.1.t, 0, none⟩), .string g.2] ∧ TreeAt A g.1.B g.1.O g.1.t g.1.T ∧ g.1.T.nodes.length ≤ 1000000,
  fun g _ A v A' => A.Sub A' ∧ GotV A A' g.1.T g.2 v⟩

/-- A tree stays behind what only lays new blocks. -/
theorem TreeAt_sub {A B A' : Arena} {O : Nat → Prop} {t : Nat} {T : TreeD} (h : TreeAt A B O t T) (hs : A.Sub A') : TreeAt A' B O t T := by
  refine h.frame (fun k hk => ?_) ?_
  · obtain ⟨m, s, E, hR⟩ := h
    obtain ⟨o, ho⟩ := hR.live k hk
    rw [hs k o ho, ho]
  · obtain ⟨m, s, E, hR⟩ := h
    exact hR.sub.trans hs

set_option maxRecDepth 100000 in
set_option maxHeartbeats 0 in
theorem get_ok : FOk Tryd.prog 9 getS := by
  refine fok_v mixed fun ⟨⟨T, B, O, t⟩, p⟩ vs A hp => ?_
  obtain ⟨rfl, hT, hlen⟩ : vs = [.pointer (some ⟨t, 0, none⟩), .string p] ∧ TreeAt A B O t T ∧ T.nodes.length ≤ 1000000 := hp
  have hCt : CTSound Tryd.prog (lookC [specE 10 listS, specE 30 toldS] noC) := lookC_sound (noC_sound _) (fun x hx => by
    simp only [List.mem_cons, List.not_mem_nil, or_false] at hx
    rcases hx with rfl | rfl
    · exact specE_ok list_ok
    · exact specE_ok told_ok)
  refine ⟨_, noL, 60, hCt, noL_sound _, fun blk os out tape D hD => ?_⟩
  conv => lhs; whnf
  refine (hD _).2 ⟨(⟨T, B, O, t⟩, p), ⟨rfl, hT, hlen⟩, fun v A1 hq => ?_⟩
  obtain ⟨h1, x, rfl, hx⟩ : A.Sub A1 ∧ ∃ x, v = .tuple #[x, .bool (kGet p T.nodes).isSome] ∧ Sl (A1.minus A) 1 (if (kGet p T.nodes).isSome then treeKids T p else []).length x ((if (kGet p T.nodes).isSome then treeKids T p else []).map strV) := hq
  obtain ⟨a, k, rfl⟩ := hx.form
  cases hk : kGet p T.nodes with
  | none =>
    have hend : getS.post (⟨T, B, O, t⟩, p) [.pointer (some ⟨t, 0, none⟩), .string p] A (.tuple #[nodeV ⟨#[]⟩ (.slice none 0 0) statZ, .bool false]) A1 := ⟨h1, (by
      show GotV A A1 T p _
      rw [GotV, hk])⟩
    conv => lhs; whnf
    exact (hD _).2 hend
  | some n =>
    rw [hk] at hx
    conv => lhs; whnf
    refine (hD _).2 ⟨(⟨T, B, O, t⟩, p, n, (treeKids T p).length), ⟨rfl, TreeAt_sub hT h1, hk⟩, fun v A2 hq => ?_⟩
    obtain ⟨h2, vd, rfl, hS⟩ : A1.Sub A2 ∧ ∃ vd, v = nodeV p vd { n.stat with len := n.data.length, kids := (treeKids T p).length } ∧ SlB (A2.minus A1) vd n.data := hq
    have hend : getS.post (⟨T, B, O, t⟩, p) [.pointer (some ⟨t, 0, none⟩), .string p] A (.tuple #[nodeV p vd { n.stat with len := n.data.length, kids := (treeKids T p).length }, .bool true]) A2 := ⟨h1.trans h2, (by
      show GotV A A2 T p _
      rw [GotV, hk]
      exact ⟨vd, rfl, hS.sub (minus_later h1)⟩)⟩
    obtain ⟨b, k', rfl⟩ := hS.1.form
    conv => lhs; whnf
    exact (hD _).2 hend

def askV (k xid : Int) (p : ByteArray) : Value := .agg #[.int .u8 k, .int .i64 xid, .int .i64 0, .int .i64 0, .string p, .slice none 0 0, .int .i64 0, .int .i64 0, .bool false, .int .u8 0, .int .i64 0, .int .i64 0, .int .i64 0, .slice none 0 0, .slice none 0 0]

def replyV (k xid z err : Int) (vd : Value) (s : StatD) (vl : Value) : Value :=
  .agg #[.int .u8 k, .int .i64 xid, .int .i64 z, .int .i64 err, .int .i64 0, .int .i64 0, .string ⟨#[]⟩, vd, .int .i64 s.czxid, .int .i64 s.mzxid, .int .i64 s.pzxid, .int .i64 s.ctime, .int .i64 s.mtime, .int .i64 s.ver, .int .i64 s.cver, .int .i64 s.owner, .int .i64 s.len, .int .i64 s.kids, vl, .int .i64 0, .slice none 0 0, .slice none 0 0]

/-- What a reading is told. -/
def LookV (A A' : Arena) (T : TreeD) (k xid : Int) (p : ByteArray) (z : Int) (v : Value) : Prop :=
  (pathOk p.data.toList = false → v = replyV k xid z 120 (.slice none 0 0) statZ (.slice none 0 0)) ∧
  (pathOk p.data.toList = true → kGet p T.nodes = none → v = replyV k xid z 210 (.slice none 0 0) statZ (.slice none 0 0)) ∧
  (pathOk p.data.toList = true → ∀ n, kGet p T.nodes = some n → ∃ vd vl, v = replyV k xid z 0 vd { n.stat with len := n.data.length, kids := (treeKids T p).length } vl ∧
    (if k = 7 then SlB (A'.minus A) vd n.data else vd = .slice none 0 0) ∧ (if k = 9 then Sl (A'.minus A) 1 (treeKids T p).length vl ((treeKids T p).map strV) else vl = .slice none 0 0))

def lookS : FSpec := ⟨TG × Int × Int × ByteArray × Int, fun g vs A => vs = [.pointer (some ⟨g.1.t, 0, none⟩), askV g.2.1 g.2.2.1 g.2.2.2.1, .int .i64 g.2.2.2.2] ∧ TreeAt A g.1.B g.1.O g.1.t g.1.T ∧ g.1.T.nodes.length ≤ 1000000 ∧ (g.2.1 = 7 ∨ g.2.1 = 8 ∨ g.2.1 = 9),
  fun g _ A v A' => A.Sub A' ∧ LookV A A' g.1.T g.2.1 g.2.2.1 g.2.2.2.1 g.2.2.2.2 v⟩

set_option maxRecDepth 100000 in
set_option maxHeartbeats 0 in
theorem look_ok : FOk Tryd.prog 11 lookS := by
  refine fok_v mixed fun ⟨⟨T, B, O, t⟩, k, xid, p, z⟩ vs A hp => ?_
  obtain ⟨rfl, hT, hlen, hk⟩ : vs = [.pointer (some ⟨t, 0, none⟩), askV k xid p, .int .i64 z] ∧ TreeAt A B O t T ∧ T.nodes.length ≤ 1000000 ∧ (k = 7 ∨ k = 8 ∨ k = 9) := hp
  have hCt : CTSound Tryd.prog (lookC [specE 9 getS, specE 10 listS] C0) := lookC_sound C0_sound (fun x hx => by
    simp only [List.mem_cons, List.not_mem_nil, or_false] at hx
    rcases hx with rfl | rfl
    · exact specE_ok get_ok
    · exact specE_ok list_ok)
  refine ⟨_, noL, 60, hCt, noL_sound _, fun blk os out tape D hD => ?_⟩
  rcases hk with rfl | rfl | rfl
  · conv => lhs; whnf
    refine (hD _).2 ⟨(⟨T, B, O, t⟩, p), ⟨rfl, hT, hlen⟩, fun v A1 hq => ?_⟩
    obtain ⟨h1, hG⟩ : A.Sub A1 ∧ GotV A A1 T p v := hq
    cases hk : kGet p T.nodes with
    | none =>
      rw [GotV, hk] at hG
      obtain rfl : v = .tuple #[nodeV ⟨#[]⟩ (.slice none 0 0) statZ, .bool false] := hG
      conv => lhs; whnf
      refine split_b (fun hb => ?_) (fun hb => ?_) <;> (conv => lhs; whnf)
      · have hp0 : pathOk p.data.toList = false := by simpa using hb
        have hend : lookS.post (⟨T, B, O, t⟩, 7, xid, p, z) [.pointer (some ⟨t, 0, none⟩), askV 7 xid p, .int .i64 z] A (replyV 7 xid z 120 (.slice none 0 0) statZ (.slice none 0 0)) A1 := ⟨h1, fun _ => rfl, fun h => absurd (hp0.symm.trans h) (by simp), fun h => absurd (hp0.symm.trans h) (by simp)⟩
        exact (hD _).2 hend
      · have hp1 : pathOk p.data.toList = true := by simpa using hb
        have hend : lookS.post (⟨T, B, O, t⟩, 7, xid, p, z) [.pointer (some ⟨t, 0, none⟩), askV 7 xid p, .int .i64 z] A (replyV 7 xid z 210 (.slice none 0 0) statZ (.slice none 0 0)) A1 := ⟨h1, fun h => absurd (hp1.symm.trans h) (by simp), fun _ _ => rfl, fun _ n hn => absurd (hk.symm.trans hn) (by simp)⟩
        exact (hD _).2 hend
    | some n =>
      rw [GotV, hk] at hG
      obtain ⟨vd, rfl, hS⟩ : ∃ vd, v = .tuple #[nodeV p vd { n.stat with len := n.data.length, kids := (treeKids T p).length }, .bool true] ∧ SlB (A1.minus A) vd n.data := hG
      obtain ⟨a, c, rfl⟩ := hS.1.form
      conv => lhs; whnf
      refine split_b (fun hb => ?_) (fun hb => ?_) <;> (conv => lhs; whnf)
      · have hp0 : pathOk p.data.toList = false := by simpa using hb
        have hend : lookS.post (⟨T, B, O, t⟩, 7, xid, p, z) [.pointer (some ⟨t, 0, none⟩), askV 7 xid p, .int .i64 z] A (replyV 7 xid z 120 (.slice none 0 0) statZ (.slice none 0 0)) A1 := ⟨h1, fun _ => rfl, fun h => absurd (hp0.symm.trans h) (by simp), fun h => absurd (hp0.symm.trans h) (by simp)⟩
        exact (hD _).2 hend
      · have hp1 : pathOk p.data.toList = true := by simpa using hb
        have hend : lookS.post (⟨T, B, O, t⟩, 7, xid, p, z) [.pointer (some ⟨t, 0, none⟩), askV 7 xid p, .int .i64 z] A (replyV 7 xid z 0 (.slice a n.data.length c) { n.stat with len := n.data.length, kids := (treeKids T p).length } (.slice none 0 0)) A1 := ⟨h1, fun h => absurd (hp1.symm.trans h) (by simp), fun _ hn => absurd (hk.symm.trans hn) (by simp), fun _ n' hn => (by
          obtain rfl : n = n' := Option.some.inj (hk.symm.trans hn)
          exact ⟨_, _, rfl, (by rw [if_pos rfl]; exact hS), (by rw [if_neg (by dsimp only; omega)])⟩)⟩
        exact (hD _).2 hend
  · conv => lhs; whnf
    refine (hD _).2 ⟨(⟨T, B, O, t⟩, p), ⟨rfl, hT, hlen⟩, fun v A1 hq => ?_⟩
    obtain ⟨h1, hG⟩ : A.Sub A1 ∧ GotV A A1 T p v := hq
    cases hk : kGet p T.nodes with
    | none =>
      rw [GotV, hk] at hG
      obtain rfl : v = .tuple #[nodeV ⟨#[]⟩ (.slice none 0 0) statZ, .bool false] := hG
      conv => lhs; whnf
      refine split_b (fun hb => ?_) (fun hb => ?_) <;> (conv => lhs; whnf)
      · have hp0 : pathOk p.data.toList = false := by simpa using hb
        have hend : lookS.post (⟨T, B, O, t⟩, 8, xid, p, z) [.pointer (some ⟨t, 0, none⟩), askV 8 xid p, .int .i64 z] A (replyV 8 xid z 120 (.slice none 0 0) statZ (.slice none 0 0)) A1 := ⟨h1, fun _ => rfl, fun h => absurd (hp0.symm.trans h) (by simp), fun h => absurd (hp0.symm.trans h) (by simp)⟩
        exact (hD _).2 hend
      · have hp1 : pathOk p.data.toList = true := by simpa using hb
        have hend : lookS.post (⟨T, B, O, t⟩, 8, xid, p, z) [.pointer (some ⟨t, 0, none⟩), askV 8 xid p, .int .i64 z] A (replyV 8 xid z 210 (.slice none 0 0) statZ (.slice none 0 0)) A1 := ⟨h1, fun h => absurd (hp1.symm.trans h) (by simp), fun _ _ => rfl, fun _ n hn => absurd (hk.symm.trans hn) (by simp)⟩
        exact (hD _).2 hend
    | some n =>
      rw [GotV, hk] at hG
      obtain ⟨vd, rfl, hS⟩ : ∃ vd, v = .tuple #[nodeV p vd { n.stat with len := n.data.length, kids := (treeKids T p).length }, .bool true] ∧ SlB (A1.minus A) vd n.data := hG
      obtain ⟨a, c, rfl⟩ := hS.1.form
      conv => lhs; whnf
      refine split_b (fun hb => ?_) (fun hb => ?_) <;> (conv => lhs; whnf)
      · have hp0 : pathOk p.data.toList = false := by simpa using hb
        have hend : lookS.post (⟨T, B, O, t⟩, 8, xid, p, z) [.pointer (some ⟨t, 0, none⟩), askV 8 xid p, .int .i64 z] A (replyV 8 xid z 120 (.slice none 0 0) statZ (.slice none 0 0)) A1 := ⟨h1, fun _ => rfl, fun h => absurd (hp0.symm.trans h) (by simp), fun h => absurd (hp0.symm.trans h) (by simp)⟩
        exact (hD _).2 hend
      · have hp1 : pathOk p.data.toList = true := by simpa using hb
        have hend : lookS.post (⟨T, B, O, t⟩, 8, xid, p, z) [.pointer (some ⟨t, 0, none⟩), askV 8 xid p, .int .i64 z] A (replyV 8 xid z 0 (.slice none 0 0) { n.stat with len := n.data.length, kids := (treeKids T p).length } (.slice none 0 0)) A1 := ⟨h1, fun h => absurd (hp1.symm.trans h) (by simp), fun _ hn => absurd (hk.symm.trans hn) (by simp), fun _ n' hn => (by
          obtain rfl : n = n' := Option.some.inj (hk.symm.trans hn)
          exact ⟨_, _, rfl, (by rw [if_neg (by dsimp only; omega)]), (by rw [if_neg (by dsimp only; omega)])⟩)⟩
        exact (hD _).2 hend
  · conv => lhs; whnf
    refine (hD _).2 ⟨(⟨T, B, O, t⟩, p), ⟨rfl, hT, hlen⟩, fun v A1 hq => ?_⟩
    obtain ⟨h1, hG⟩ : A.Sub A1 ∧ GotV A A1 T p v := hq
    cases hk : kGet p T.nodes with
    | none =>
      rw [GotV, hk] at hG
      obtain rfl : v = .tuple #[nodeV ⟨#[]⟩ (.slice none 0 0) statZ, .bool false] := hG
      conv => lhs; whnf
      refine split_b (fun hb => ?_) (fun hb => ?_) <;> (conv => lhs; whnf)
      · have hp0 : pathOk p.data.toList = false := by simpa using hb
        have hend : lookS.post (⟨T, B, O, t⟩, 9, xid, p, z) [.pointer (some ⟨t, 0, none⟩), askV 9 xid p, .int .i64 z] A (replyV 9 xid z 120 (.slice none 0 0) statZ (.slice none 0 0)) A1 := ⟨h1, fun _ => rfl, fun h => absurd (hp0.symm.trans h) (by simp), fun h => absurd (hp0.symm.trans h) (by simp)⟩
        exact (hD _).2 hend
      · have hp1 : pathOk p.data.toList = true := by simpa using hb
        have hend : lookS.post (⟨T, B, O, t⟩, 9, xid, p, z) [.pointer (some ⟨t, 0, none⟩), askV 9 xid p, .int .i64 z] A (replyV 9 xid z 210 (.slice none 0 0) statZ (.slice none 0 0)) A1 := ⟨h1, fun h => absurd (hp1.symm.trans h) (by simp), fun _ _ => rfl, fun _ n hn => absurd (hk.symm.trans hn) (by simp)⟩
        exact (hD _).2 hend
    | some n =>
      rw [GotV, hk] at hG
      obtain ⟨vd, rfl, hS⟩ : ∃ vd, v = .tuple #[nodeV p vd { n.stat with len := n.data.length, kids := (treeKids T p).length }, .bool true] ∧ SlB (A1.minus A) vd n.data := hG
      obtain ⟨a, c, rfl⟩ := hS.1.form
      conv => lhs; whnf
      refine split_b (fun hb => ?_) (fun hb => ?_) <;> (conv => lhs; whnf)
      · have hp0 : pathOk p.data.toList = false := by simpa using hb
        have hend : lookS.post (⟨T, B, O, t⟩, 9, xid, p, z) [.pointer (some ⟨t, 0, none⟩), askV 9 xid p, .int .i64 z] A (replyV 9 xid z 120 (.slice none 0 0) statZ (.slice none 0 0)) A1 := ⟨h1, fun _ => rfl, fun h => absurd (hp0.symm.trans h) (by simp), fun h => absurd (hp0.symm.trans h) (by simp)⟩
        exact (hD _).2 hend
      · have hp1 : pathOk p.data.toList = true := by simpa using hb
        refine (hD _).2 ⟨(⟨T, B, O, t⟩, p), ⟨rfl, TreeAt_sub hT h1, hlen⟩, fun v A2 hq => ?_⟩
        obtain ⟨h2, x, rfl, hx⟩ : A1.Sub A2 ∧ ∃ x, v = .tuple #[x, .bool (kGet p T.nodes).isSome] ∧ Sl (A2.minus A1) 1 (if (kGet p T.nodes).isSome then treeKids T p else []).length x ((if (kGet p T.nodes).isSome then treeKids T p else []).map strV) := hq
        rw [hk] at hx
        have hx : Sl (A2.minus A1) 1 (treeKids T p).length x ((treeKids T p).map strV) := hx
        obtain ⟨b, c', rfl⟩ := hx.form
        have hend : lookS.post (⟨T, B, O, t⟩, 9, xid, p, z) [.pointer (some ⟨t, 0, none⟩), askV 9 xid p, .int .i64 z] A (replyV 9 xid z 0 (.slice none 0 0) { n.stat with len := n.data.length, kids := (treeKids T p).length } (.slice b (treeKids T p).length c')) A2 := ⟨h1.trans h2, fun h => absurd (hp1.symm.trans h) (by simp), fun _ hn => absurd (hk.symm.trans hn) (by simp), fun _ n' hn => (by
          obtain rfl : n = n' := Option.some.inj (hk.symm.trans hn)
          exact ⟨_, _, rfl, (by rw [if_neg (by dsimp only; omega)]), (by rw [if_pos rfl]; exact hx.sub (minus_later h1))⟩)⟩
        conv => lhs; whnf
        exact (hD _).2 hend

end
end Go.Proofs.YtinahcnpabjinaaDoor

namespace Go.Proofs.YtinahcnpabjinaaDoor
open Go.Sx Go.RowKit
noncomputable section
open Classical

/-- Sittings as a row that came in. -/
def SlS (A : Arena) (v : Value) (l : List SitD) : Prop := Sl A 3 l.length v (l.flatMap sitC) ∧ l.length ≤ 140737488351232

theorem flat_at {α : Type} (enc : α → List Value) (k : Nat) (hk : ∀ x, (enc x).length = k) : ∀ (l : List α) (i : Nat) (hi : i < l.length), ((l.flatMap enc).drop (i * k)).take k = enc l[i]
  | [], i, hi => by simp at hi
  | x :: l, 0, _ => by
    rw [Nat.zero_mul, List.drop_zero, List.flatMap_cons, List.take_append_of_le_length (by rw [hk]; omega), List.take_of_length_le (by rw [hk]; omega)]; rfl
  | x :: l, i + 1, hi => by
    rw [List.flatMap_cons, Nat.succ_mul, Nat.add_comm, ← List.drop_drop, List.drop_left' (hk x)]
    exact flat_at enc k hk l i (by simpa using hi)

theorem flat_len {α : Type} (enc : α → List Value) (k : Nat) (hk : ∀ x, (enc x).length = k) (l : List α) : (l.flatMap enc).length = l.length * k := by
  induction l with
  | nil => simp
  | cons x l ih => rw [List.flatMap_cons, List.length_append, hk, ih, List.length_cons, Nat.succ_mul]; omega

theorem row_at {α : Type} {enc : α → List Value} {k : Nat} (hk : ∀ x, (enc x).length = k) {A : Arena} {g o n : Nat} {l : List α} (h : A.rd g o (n * k) = some (l.flatMap enc)) (i : Nat) (hi : i < l.length) (hn : n = l.length) : A.rd g (o + i * k) k = some (enc l[i]) := by
  have hle : i * k + k ≤ n * k := by rw [← Nat.succ_mul]; exact Nat.mul_le_mul_right _ (by omega)
  rw [rd_at h (i := i * k) (m := k) hle, flat_at enc k hk l i hi]

def seatOne (l : List (Int × SitD)) (s : SitD) : List (Int × SitD) := if s.ses < 1 then l else kPut s.ses s l
def seatsOf (l : List SitD) : List (Int × SitD) := l.foldl seatOne []

theorem seatsOf_snoc (l : List SitD) (s : SitD) : seatsOf (l ++ [s]) = seatOne (seatsOf l) s := by
  unfold seatsOf; rw [List.foldl_append]; rfl

theorem seatOne_nodup {l : List (Int × SitD)} (h : (l.map (·.1)).Nodup) (s : SitD) : ((seatOne l s).map (·.1)).Nodup := by
  unfold seatOne
  split
  · exact h
  · exact kPut_nodup h

structure SeG where
  k : Nat
  A : Arena

def seatInv (A2 B : Arena) (O : Nat → Prop) (t m s : Nat) (ns : List (ByteArray × NodeD)) (E : List (ByteArray × Nat × NodeD)) (l : List SitD) : LInv :=
  { γ := SeG, G := fun g => g.k ≤ l.length ∧ TreeR g.A B O t ⟨ns, seatsOf (l.take g.k)⟩ m s E ∧ ∀ b, b ≠ s → g.A.blk b = A2.blk b,
    keepS := [0, 13, 14], keepB := [], sl := fun g => [(15, .v (.int .i64 g.k))], bl := fun _ => [], ar := fun g => g.A, mu := fun g => l.length - g.k }

def seatS : FSpec := ⟨TG × List SitD × Arena, fun g vs A => ∃ x, vs = [.pointer (some ⟨g.1.t, 0, none⟩), x] ∧ TreeAt A g.1.B g.1.O g.1.t g.1.T ∧ SlS g.2.2 x g.2.1 ∧ Aside A g.2.2 g.1.O,
  fun g _ A v A' => v = .tuple #[] ∧ StepTo A g.1.B g.1.O g.1.t ⟨g.1.T.nodes, seatsOf g.2.1⟩ A'⟩

set_option maxRecDepth 100000 in
set_option maxHeartbeats 0 in
theorem seat_ok : FOk Tryd.prog 40 seatS := by
  refine fok_v mixed fun ⟨⟨T, B, O, t⟩, l, C⟩ vs A hp => ?_
  obtain ⟨x, rfl, ⟨m, s, E, h⟩, ⟨⟨ao, c, rfl, hc, _, ha1, ha2, ha3⟩, hll⟩, hAs⟩ : ∃ x, vs = [.pointer (some ⟨t, 0, none⟩), x] ∧ TreeAt A B O t T ∧ SlS C x l ∧ Aside A C O := hp
  refine ⟨noC, tabO Tryd.prog noC noL 60 [(40, 0)], 60, noC_sound _, tabO_sound mixed (noC_sound _) (noL_sound _) _ _, fun blk os out tape D hD => ?_⟩
  have htop0 : A.rd t 0 1 = some [.map (some m)] := h.top.rd (o := 0) (n := 1) (by show 0 + 1 ≤ 2; omega)
  conv => lhs; whnf
  repeat (first | refine go_rd htop0 ?_ | refine go_D hD rfl ?_
          conv => lhs; whnf)
  refine (hD _).2 fun s' A1 hs' hA1 hM1 => ?_
  have hs' : A.blk s' = none := hs'
  have hA1 : ∀ k, k ≠ s' → A1.blk k = A.blk k := hA1
  obtain ⟨ot, hot⟩ := h.live t h.own.1
  have ts : t ≠ s' := fun e => by rw [e, hs'] at hot; cases hot
  have htop1 : CellsAt A1 t [.map (some m), .map (some s)] := h.top.sub fun o ho => by rw [hA1 t ts]; exact ho
  conv => lhs; whnf
  refine (hD _).2 ⟨htop1.room (o := 1) (n := 1) (by show 1 + 1 ≤ 2; omega), fun A2 hP2 => ?_⟩
  have hP2 : A1.Put A2 t 1 [.map (some s')] := hP2
  have htop2 : CellsAt A2 t [.map (some m), .map (some s')] := htop1.put hP2 (by show 1 + 1 ≤ 2; omega)
  have hA2 : ∀ k, k ≠ t → A2.blk k = A1.blk k := hP2.other
  have live_ne : ∀ {k : Nat}, O k → k ≠ s' := fun {k} hk e => by
    obtain ⟨o, ho⟩ := h.live k hk
    rw [e, hs'] at ho; cases ho
  have hold : ∀ k, k ≠ t → k ≠ s' → A2.blk k = A.blk k := fun k h1 h2 => by rw [hA2 k h1, hA1 k h2]
  have hBs : B.blk s' = none := by
    cases hB : B.blk s' with
    | none => rfl
    | some o => have := h.sub _ _ hB; rw [hs'] at this; cases this
  have hR2 : TreeR A2 B (fun k => O k ∨ k = s') t ⟨T.nodes, seatsOf (l.take 0)⟩ m s' E :=
    { nodes := h.nodes
      top := htop2
      nmap := h.nmap.sub fun o ho => by rw [hold m (Ne.symm h.top_ne.1) (live_ne h.own.2.1)]; exact ho
      smap := hM1.sub fun o ho => by rw [hA2 s' (Ne.symm ts)]; exact ho
      cells := fun e he => (h.cells e he).mono (hold _ (h.ne.2 e he) (live_ne (h.own.2.2.2 e he))) (Arena.Sub.refl _)
      keys := h.keys
      ptrs := h.ptrs
      skeys := by simp [seatsOf]
      sub := fun k o hk => by
        rw [hold k (fun e => by subst e; rw [h.off _ h.own.1] at hk; cases hk) (fun e => by subst e; rw [hBs] at hk; cases hk)]
        exact h.sub k o hk
      own := ⟨.inl h.own.1, .inl h.own.2.1, .inr rfl, fun e he => .inl (h.own.2.2.2 e he)⟩
      off := fun k hk => by
        rcases hk with hk | rfl
        · exact h.off k hk
        · exact hBs
      live := fun k hk => by
        by_cases e : k = t
        · subst e; exact htop2.dom
        · rcases hk with hk | rfl
          · rw [hold k e (live_ne hk)]; exact h.live k hk
          · rw [hA2 _ e]
            obtain ⟨es, cl, h1, _⟩ := hM1
            exact ⟨_, h1⟩
      ne := ⟨live_ne h.own.2.1, h.ne.2⟩ }
  have hend : ∀ Ak, TreeR Ak B (fun k => O k ∨ k = s') t ⟨T.nodes, seatsOf l⟩ m s' E → (∀ b, b ≠ s' → Ak.blk b = A2.blk b) → seatS.post (⟨T, B, O, t⟩, l, C) [.pointer (some ⟨t, 0, none⟩), .slice ao l.length c] A (.tuple #[]) Ak := fun Ak hR hk => by
    refine ⟨rfl, B, _, ⟨m, s', E, hR⟩, fun k o hk' hO => ?_, fun k hn => ?_, fun k hO => ?_, Arena.Sub.refl _, fun k o hb => .inl hb⟩
    · have n1 : k ≠ t := fun e => hO (e ▸ h.own.1)
      have n2 : k ≠ s' := fun e => by rw [e, hs'] at hk'; cases hk'
      rw [hk k n2, hold k n1 n2]; exact hk'
    · by_cases n2 : k = s'
      · rw [n2]; exact hs'
      · rw [hk k n2] at hn
        by_cases n1 : k = t
        · subst n1
          obtain ⟨o, ho⟩ := htop2.dom
          rw [ho] at hn; cases hn
        · rw [hold k n1 n2] at hn; exact hn
    · rcases hO with hO | rfl
      · exact .inl hO
      · exact .inr hs'
  conv => lhs; whnf
  refine (hD _).2 ⟨seatInv A2 B (fun k => O k ∨ k = s') t m s' T.nodes E l, ⟨(⟨0, A2⟩ : SeG), ⟨Nat.zero_le _, hR2, fun _ _ => rfl⟩, ⟨rfl, trivial⟩, trivial, rfl⟩, fun (sg : SeG) hG => ⟨⟨trivial, trivial⟩, trivial, ?_⟩⟩
  obtain ⟨k, Ak⟩ := sg
  obtain ⟨hk, hR, hkeep⟩ : k ≤ l.length ∧ TreeR Ak B (fun k => O k ∨ k = s') t ⟨T.nodes, seatsOf (l.take k)⟩ m s' E ∧ ∀ b, b ≠ s' → Ak.blk b = A2.blk b := hG
  conv => lhs; whnf
  refine split_dec (fun hlt => ?_) (fun hlt => ?_) <;> (conv => lhs; whnf)
  · have hlt : k < l.length := by
      have hlt : (k : Int) < (l.length : Int) := hlt
      omega
    obtain ⟨g, o, rfl, hra⟩ := Sl.at_ hc ha1 ha2 ha3 (by omega)
    have hrow := row_at (enc := sitC) (fun _ => rfl) hra k hlt rfl
    have hCk : C.Sub Ak := fun b o hb => by
      have h1 := hAs.1 b o hb
      have n2 : b ≠ s' := fun e => by rw [e, hs'] at h1; cases h1
      rw [hkeep b n2, hold b (fun e => hAs.2 b o hb (e ▸ h.own.1)) n2]
      exact h1
    have hrow := rd_sub hCk hrow
    obtain ⟨⟨sa, sb, sc⟩, hsv⟩ : ∃ x, x = l[k] := ⟨_, rfl⟩
    rw [← hsv] at hrow
    have hrow : Ak.rd g (o + k * 3) 3 = some [.int .i64 sa, .int .i64 sb, .int .i64 sc] := hrow
    have htk : l.take (k + 1) = l.take k ++ [⟨sa, sb, sc⟩] := by rw [List.take_succ_eq_append_getElem hlt, ← hsv]
    conv => lhs; whnf
    refine split_in (fun _ _ => ?_) (fun h => by omega)
    conv => lhs; whnf
    refine go_rd hrow ?_
    conv => lhs; whnf
    have htopk : Ak.rd t 1 1 = some [.map (some s')] := hR.top.rd (o := 1) (n := 1) (by show 1 + 1 ≤ 2; omega)
    refine split_dec (fun h1 => ?_) (fun h1 => ?_) <;> (conv => lhs; whnf)
    · have hone : seatsOf (l.take (k + 1)) = kPut sa ⟨sa, sb, sc⟩ (seatsOf (l.take k)) := by
        rw [htk, seatsOf_snoc, seatOne, if_neg (by show ¬ sa < 1; omega)]
      repeat (first | refine go_rd htopk ?_ | refine go_D hD rfl ?_
              conv => lhs; whnf)
      refine (hD _).2 ⟨_, hR.smap, intL_alike sitV sa _, fun A3 hm3 ho3 => ?_⟩
      have hm3 : MapAt A3 s' (putL (.int .i64 sa) (sitV ⟨sa, sb, sc⟩) (intL sitV (seatsOf (l.take k)))) := hm3
      have ho3 : ∀ b, b ≠ s' → A3.blk b = Ak.blk b := ho3
      rw [intL_put] at hm3
      have hR3 := hR.sit ho3 hm3 (kPut_nodup hR.skeys)
      conv => lhs; whnf
      exact (hD _).2 ⟨(⟨k + 1, A3⟩ : SeG), ⟨⟨by show k + 1 ≤ l.length; omega, by rw [hone]; exact hR3, fun b hb => (ho3 b hb).trans (hkeep b hb)⟩, ⟨inc_slot (k := k) (by omega), trivial⟩, trivial, rfl⟩, by show l.length - (k + 1) < l.length - k; omega, ⟨rfl, rfl, rfl, trivial⟩, trivial⟩
    · have hone : seatsOf (l.take (k + 1)) = seatsOf (l.take k) := by
        rw [htk, seatsOf_snoc, seatOne, if_pos (by show sa < 1; omega)]
      exact (hD _).2 ⟨(⟨k + 1, Ak⟩ : SeG), ⟨⟨by show k + 1 ≤ l.length; omega, by rw [hone]; exact hR, hkeep⟩, ⟨inc_slot (k := k) (by omega), trivial⟩, trivial, rfl⟩, by show l.length - (k + 1) < l.length - k; omega, ⟨rfl, rfl, rfl, trivial⟩, trivial⟩
  · have e : k = l.length := by
      have hlt : ¬ (k : Int) < (l.length : Int) := hlt
      omega
    subst e
    rw [List.take_length] at hR
    exact (hD _).2 (hend Ak hR hkeep)

end
end Go.Proofs.YtinahcnpabjinaaDoor

namespace Go.Proofs.YtinahcnpabjinaaDoor
open Go.Sx Go.RowKit
noncomputable section
open Classical

/-- A slice of texts. -/
def SlT (A : Arena) (v : Value) (l : List (List UInt8)) : Prop := Sl A 1 l.length v (l.map strV) ∧ l.length ≤ 140737488351232

theorem text_at {A : Arena} {g o n : Nat} {ls : List (List UInt8)} (h : A.rd g o (n * 1) = some (ls.map strV)) (k : Nat) (hk : k < ls.length) (hn : n = ls.length) : A.rd g (o + k * 1) 1 = some [.string ⟨ls[k].toArray⟩] := by
  rw [rd_at h (i := k * 1) (m := 1) (by omega)]
  congr 1
  refine List.ext_getElem? fun i => ?_
  cases i with
  | zero => simp [hk, strV]
  | succ i =>
    simp
    omega

def sameTextsS : FSpec := ⟨List (List UInt8) × List (List UInt8), fun g vs A => ∃ x y, vs = [x, y] ∧ SlT A x g.1 ∧ SlT A y g.2, fun g _ A v A' => A' = A ∧ v = .bool (decide (g.1 = g.2))⟩

set_option maxRecDepth 100000 in
set_option maxHeartbeats 0 in
theorem sameTexts_ok : FOk Tryd.prog 13 sameTextsS := by
  refine fok_v mixed fun ⟨ls, bs⟩ vs A hp => ?_
  simp only [sameTextsS] at hp
  obtain ⟨x, y, rfl, ⟨⟨ao, c, rfl, hc, _, ha1, ha2, ha3⟩, hxl⟩, ⟨bo, d, rfl, hd, _, hb1, hb2, hb3⟩, hyl⟩ := hp
  refine ⟨noC, tabO Tryd.prog noC noL 60 [(13, 0)], 60, noC_sound _, tabO_sound mixed (noC_sound _) (noL_sound _) _ _, fun blk os out tape D hD => ?_⟩
  conv => lhs; whnf
  refine split_b (fun hb => ?_) (fun hb => ?_) <;> (conv => lhs; whnf)
  · refine (hD _).2 ⟨rfl, ?_⟩
    have : ls ≠ bs := fun e => by subst e; simp at hb
    simp [this]
  · have hlen : ls.length = bs.length := by
      have : (ls.length : Int) = bs.length := by simpa using hb
      omega
    refine (hD _).2 ⟨cnt A 5 [0, 1] [] ls.length fun k => ls.take k = bs.take k, ⟨(0 : Nat), ⟨Nat.zero_le _, rfl⟩, ⟨rfl, trivial⟩, trivial, rfl⟩, fun (k : Nat) hk => ⟨⟨trivial, trivial⟩, trivial, ?_⟩⟩
    simp only [cnt] at hk
    conv => lhs; whnf
    refine split_dec (fun hlt => ?_) (fun hb => ?_) <;> (conv => lhs; whnf)
    · have hlt : k < ls.length := by omega
      obtain ⟨g, o, rfl, hra⟩ := Sl.at_ hc ha1 ha2 ha3 (by omega)
      obtain ⟨g', o', rfl, hrb⟩ := Sl.at_ hd hb1 hb2 hb3 (by omega)
      conv => lhs; whnf
      refine split_in (fun _ _ => ?_) (fun h => by omega)
      conv => lhs; whnf
      refine go_rd (text_at hra k hlt rfl) ?_
      conv => lhs; whnf
      refine split_in (fun _ _ => ?_) (fun h => by omega)
      conv => lhs; whnf
      refine go_rd (text_at hrb k (by omega) rfl) ?_
      conv => lhs; whnf
      refine split_b (fun hb => ?_) (fun hb => ?_) <;> (conv => lhs; whnf)
      · refine (hD _).2 ⟨rfl, ?_⟩
        have : ls ≠ bs := fun e => by
          subst e
          have h9 : beqL ls[k] ls[k] = true := beqL_iff.2 rfl
          simp [h9] at hb
        simp [this]
      · have he : ls[k] = bs[k] := by
          have h8 : beqL ls[k] bs[k] = true := by simpa using hb
          exact beqL_iff.1 h8
        refine (hD _).2 ⟨(k + 1 : Nat), ⟨⟨by omega, ?_⟩, ⟨inc_slot (by omega), trivial⟩, trivial, rfl⟩, ?_, ⟨rfl, rfl, trivial⟩, trivial⟩
        · show ls.take (k + 1) = bs.take (k + 1)
          rw [List.take_succ_eq_append_getElem hlt, List.take_succ_eq_append_getElem (by omega), hk.2, he]
        · show ls.length - (k + 1) < ls.length - k
          omega
    · refine (hD _).2 ⟨rfl, ?_⟩
      have h1 : k = ls.length := by omega
      have : ls = bs := by
        have := hk.2
        rw [h1, List.take_length, hlen, List.take_length] at this
        exact this
      simp [this]

end
end Go.Proofs.YtinahcnpabjinaaDoor

namespace Go.Proofs.YtinahcnpabjinaaDoor
open Go.Sx Go.RowKit
noncomputable section
open Classical

structure ToldD where
  path : ByteArray
  data : List UInt8
  stat : StatD

def bytesOf (l : List UInt8) : ByteArray := ⟨l.toArray⟩

theorem bytesOf_pathL (q : ByteArray) : bytesOf (pathL q) = q := by
  obtain ⟨⟨l⟩⟩ := q; rfl

def kidsN (T : TreeD) (p : ByteArray) : Nat := (T.nodes.map (·.1)).countP fun q => decide (parentP q = p)

def toldOf (T : TreeD) (p : ByteArray) : ToldD := match kGet p T.nodes with
  | some n => ⟨p, n.data, { n.stat with len := n.data.length, kids := kidsN T p }⟩
  | none => ⟨p, [], ⟨0, 0, 0, 0, 0, 0, 0, 0, 0, 0⟩⟩

def treeAll (T : TreeD) : List ToldD := (treePaths T).map fun l => toldOf T (bytesOf l)

def nodeC (x : ToldD × Value) : List Value := .string x.1.path :: x.2 :: x.1.stat.cells

/-- A row of nodes. -/
def NodesS (D : Arena) (v : Value) (ns : List ToldD) : Prop := ∃ l : List (ToldD × Value), l.map (·.1) = ns ∧ Sl D 12 ns.length v (l.flatMap nodeC) ∧ ∀ x ∈ l, SlB D x.2 x.1.data

abbrev natV (n : Nat) : Value := .int .i64 n

theorem wrap_inc {k : Nat} (h : k < 9223372036854775807) : IntKind.i64.wrap ((k : Int) + 1) = ((k + 1 : Nat) : Int) := by
  have h1 := inc_slot h
  injection h1 with h1
  injection h1 with h1
  injection h1

structure A1G where
  k : Nat
  A : Arena
  l : List (ByteArray × Nat)

def kidCount (ps : List (List UInt8)) (q : ByteArray) : Nat := ps.countP fun x => decide (parentP (bytesOf x) = q)

theorem kidCount_snoc (ps : List (List UInt8)) (k : Nat) (hk : k < ps.length) (q : ByteArray) : kidCount (ps.take (k + 1)) q = kidCount (ps.take k) q + if q = parentP (bytesOf ps[k]) then 1 else 0 := by
  unfold kidCount
  rw [List.take_succ_eq_append_getElem hk, List.countP_append]
  congr 1
  by_cases h : q = parentP (bytesOf ps[k])
  · rw [if_pos h, h]; simp
  · rw [if_neg h]
    have h' : ¬ parentP (bytesOf ps[k]) = q := fun e => h e.symm
    simp [h']

theorem kidCount_le (ps : List (List UInt8)) (q : ByteArray) : kidCount ps q ≤ ps.length := List.countP_le_length

theorem sortL_perm (l : List (List UInt8)) : (sortL l).Perm l := List.mergeSort_perm _ _

theorem paths_mem {T : TreeD} {x : List UInt8} (h : x ∈ treePaths T) : bytesOf x ∈ T.nodes.map (·.1) := by
  obtain ⟨e, he, h3⟩ := List.mem_map.1 ((sortL_perm _).mem_iff.1 h)
  exact List.mem_map.2 ⟨e, he, by rw [← h3, bytesOf_pathL]⟩

theorem count_paths (T : TreeD) (q : ByteArray) : kidCount (treePaths T) q = kidsN T q := by
  rw [kidCount, kidsN, treePaths, (sortL_perm _).countP_eq, List.countP_map, List.countP_map]
  refine List.countP_congr fun e _ => ?_
  simp only [Function.comp_apply, bytesOf_pathL]

theorem minus_mono {A K K' : Arena} (h : K.Sub K') : (K.minus A).Sub (K'.minus A) := fun k o hk => by
  obtain ⟨h1, h2⟩ := minus_blk hk
  show (match A.blk k with
    | none => K'.blk k
    | some _ => none) = some o
  rw [h1]; exact h _ _ h2

theorem grow_know {K K' A : Arena} {es : Nat} {e : TypeId} {n : Nat} {v : Value} {cs : List Value} (h : GrowR K A es e n v cs) (hk : ∀ k o, K.blk k = none → A.blk k = some o → K'.blk k = none) : GrowR K' A es e n v cs := by
  obtain ⟨h1, h2 | ⟨g, nc, c, h3, h4, h4', h5, h6, h7, h8⟩⟩ := h
  · exact ⟨h1, .inl h2⟩
  · exact ⟨h1, .inr ⟨g, nc, c, h3, h4, h4', hk g _ h5 h6, h6, h7, h8⟩⟩

/-- A row that was made is new memory. -/
theorem grow_sl {A0 K A : Arena} {es : Nat} {e : TypeId} {n : Nat} {v : Value} {cs : List Value} (h : GrowR K A es e n v cs) (h0 : A0.Sub K) : Sl (A.minus A0) es n v cs := by
  obtain ⟨h1, ⟨rfl, rfl⟩ | ⟨g, nc, c, rfl, h4, h4', h5, h6, h7, h8⟩⟩ := h
  · have hc : cs = [] := List.length_eq_zero_iff.1 (by rw [h1]; simp)
    subst hc
    exact Sl.nil _ _
  · have hg : A0.blk g = none := by
      cases hA : A0.blk g with
      | none => rfl
      | some o => rw [h0 _ _ hA] at h5; cases h5
    have hle : n * es ≤ nc * es := Nat.mul_le_mul_right _ h4
    refine Sl.row h4 (rd_minus ?_ hg)
    rw [rd_mk h6 (by omega), List.drop_zero, h8]

def allInv1 (A2 : Arena) (c : Nat) (ps : List (List UInt8)) : LInv :=
  { γ := A1G, G := fun g => g.k ≤ ps.length ∧ (∀ b, b ≠ c → g.A.blk b = A2.blk b) ∧ MapAt g.A c (strL natV g.l) ∧ ∀ q, (kGet q g.l).getD 0 = kidCount (ps.take g.k) q,
    keepS := [0, 3, 4, 14, 15], keepB := [], sl := fun g => [(16, .v (.int .i64 g.k))], bl := fun _ => [], ar := fun g => g.A, mu := fun g => ps.length - g.k }

structure A2G where
  k : Nat
  A : Arena
  K : Arena
  v : Value
  l : List (ToldD × Value)

def allInv2 (A AL : Arena) (T : TreeD) (ps : List (List UInt8)) : LInv :=
  { γ := A2G, G := fun g => g.k ≤ ps.length ∧ g.K.Sub g.A ∧ AL.Sub g.K ∧ GrowR g.K g.A 12 40 g.k g.v (g.l.flatMap nodeC) ∧ g.l.map (·.1) = (ps.take g.k).map (fun x => toldOf T (bytesOf x)) ∧ ∀ x ∈ g.l, SlB (g.K.minus A) x.2 x.1.data,
    keepS := [0, 3, 4, 26, 27], keepB := [], sl := fun g => [(28, .v (.int .i64 g.k)), (7, .v g.v)], bl := fun _ => [], ar := fun g => g.A, mu := fun g => ps.length - g.k }

def allS : FSpec := ⟨TG, fun g vs A => vs = [.pointer (some ⟨g.t, 0, none⟩)] ∧ TreeAt A g.B g.O g.t g.T ∧ g.T.nodes.length ≤ 1000000,
  fun g _ A v A' => A.Sub A' ∧ NodesS (A'.minus A) v (treeAll g.T)⟩

set_option maxRecDepth 100000 in
set_option maxHeartbeats 0 in
theorem all_ok : FOk Tryd.prog 44 allS := by
  refine fok_v mixed fun ⟨T, B, O, t⟩ vs A hp => ?_
  obtain ⟨rfl, hT, hlen⟩ : vs = [.pointer (some ⟨t, 0, none⟩)] ∧ TreeAt A B O t T ∧ T.nodes.length ≤ 1000000 := hp
  have hCt : CTSound Tryd.prog (lookC [specE 70 pathsS, specE 32 parentS, specE 30 toldS] noC) := lookC_sound (noC_sound _) (fun x hx => by
    simp only [List.mem_cons, List.not_mem_nil, or_false] at hx
    rcases hx with rfl | rfl | rfl
    · exact specE_ok paths_ok
    · exact specE_ok parent_ok
    · exact specE_ok told_ok)
  refine ⟨_, tabO Tryd.prog _ noL 60 [(44, 0), (44, 2)], 60, hCt, tabO_sound mixed hCt (noL_sound _) _ _, fun blk os out tape D hD => ?_⟩
  conv => lhs; whnf
  refine (hD _).2 fun c A1 hc hA1 hM1 => ?_
  have hc : A.blk c = none := hc
  have hA1 : ∀ k, k ≠ c → A1.blk k = A.blk k := hA1
  have hM1 : MapAt A1 c [] := hM1
  have s1 : A.Sub A1 := fun k o hk => by rw [hA1 k fun e => by subst e; rw [hc] at hk; cases hk]; exact hk
  conv => lhs; whnf
  refine (hD _).2 ⟨⟨T, B, O, t⟩, ⟨rfl, TreeAt_sub hT s1, hlen⟩, fun v A2 hq => ?_⟩
  obtain ⟨s2, hS⟩ : A1.Sub A2 ∧ Sl (A2.minus A1) 1 (treePaths T).length v ((treePaths T).map strV) := hq
  obtain ⟨ps, hps⟩ : ∃ ps, ps = treePaths T := ⟨_, rfl⟩
  rw [← hps] at hS
  have hpl : ps.length ≤ 1000000 := by rw [hps, treePaths, sortL_length, List.length_map]; exact hlen
  obtain ⟨ao, cp, rfl, hcp, _, ha1, ha2, ha3⟩ := hS
  conv => lhs; whnf
  refine (hD _).2 ⟨allInv1 A2 c ps, ⟨(⟨0, A2, []⟩ : A1G), ⟨Nat.zero_le _, fun _ _ => rfl, hM1.sub fun o ho => s2 _ _ ho, fun q => rfl⟩, ⟨rfl, trivial⟩, trivial, rfl⟩, fun (sg : A1G) hG => ⟨⟨trivial, trivial⟩, trivial, ?_⟩⟩
  obtain ⟨k, As, l⟩ := sg
  obtain ⟨hk, hkeep, hM, hcnt⟩ : k ≤ ps.length ∧ (∀ b, b ≠ c → As.blk b = A2.blk b) ∧ MapAt As c (strL natV l) ∧ ∀ q, (kGet q l).getD 0 = kidCount (ps.take k) q := hG
  obtain ⟨oc, hoc⟩ : ∃ o, A1.blk c = some o := by
    obtain ⟨es, cl, h1, _⟩ := hM1
    exact ⟨_, h1⟩
  have hPs : (A2.minus A1).Sub As := fun b o hb => by
    rw [hkeep b fun e => by subst e; rw [minus_none _ hoc] at hb; cases hb]
    exact (minus_blk hb).2
  have hAs : A.Sub As := fun b o hb => by
    rw [hkeep b fun e => by subst e; rw [hc] at hb; cases hb]
    exact s2 _ _ (s1 _ _ hb)
  conv => lhs; whnf
  refine split_dec (fun hlt => ?_) (fun hlt => ?_) <;> (conv => lhs; whnf)
  · have hkl : k < ps.length := by
      have hlt : (k : Int) < (ps.length : Int) := hlt
      omega
    obtain ⟨g, o, rfl, hra⟩ := Sl.at_ hcp ha1 ha2 ha3 (by omega)
    have hrow := rd_sub hPs (text_at hra k hkl rfl)
    obtain ⟨q, hq⟩ : ∃ q, q = bytesOf ps[k] := ⟨_, rfl⟩
    have hrow : As.rd g (o + k * 1) 1 = some [.string q] := by rw [hrow, hq]; rfl
    conv => lhs; whnf
    refine split_in (fun _ _ => ?_) (fun h => by omega)
    conv => lhs; whnf
    refine go_rd hrow ?_
    conv => lhs; whnf
    refine (hD _).2 ⟨q, rfl, fun v A9 hq9 => ?_⟩
    obtain ⟨h9, rfl⟩ : As = A9 ∧ v = .string (parentP q) := ⟨hq9.1.symm, hq9.2⟩
    subst h9
    conv => lhs; whnf
    refine go_lk (look_str hM (parentP q)) ?_
    have hnb : (kGet (parentP q) l).getD 0 ≤ 1000000 := by
      rw [hcnt]
      have h1 := kidCount_le (ps.take k) (parentP q)
      rw [List.length_take] at h1
      omega
    have hnew : ∀ A3, (∀ b, b ≠ c → A3.blk b = As.blk b) → MapAt A3 c (strL natV (kPut (parentP q) ((kGet (parentP q) l).getD 0 + 1) l)) → (allInv1 A2 c ps).G (⟨k + 1, A3, kPut (parentP q) ((kGet (parentP q) l).getD 0 + 1) l⟩ : A1G) := fun A3 ho hm => by
      refine ⟨by show k + 1 ≤ ps.length; omega, fun b hb => (ho b hb).trans (hkeep b hb), hm, fun q' => ?_⟩
      show (kGet q' (kPut (parentP q) ((kGet (parentP q) l).getD 0 + 1) l)).getD 0 = kidCount (ps.take (k + 1)) q'
      rw [kidCount_snoc ps k hkl, ← hq, kGet_put]
      by_cases e : q' = parentP q
      · rw [if_pos e, if_pos e, e, ← hcnt]; rfl
      · rw [if_neg e, if_neg e, hcnt]; rfl
    cases hkg : kGet (parentP q) l with
    | none =>
      rw [hkg] at hnew
      conv => lhs; whnf
      refine (hD _).2 ⟨_, hM, strL_alike natV (parentP q) _, fun A3 hm3 ho3 => ?_⟩
      have hm3 : MapAt A3 c (putL (.string (parentP q)) (natV (0 + 1)) (strL natV l)) := hm3
      rw [strL_put] at hm3
      conv => lhs; whnf
      exact (hD _).2 ⟨(⟨k + 1, A3, kPut (parentP q) (0 + 1) l⟩ : A1G), ⟨hnew A3 ho3 hm3, ⟨inc_slot (k := k) (by omega), trivial⟩, trivial, rfl⟩, by show ps.length - (k + 1) < ps.length - k; omega, ⟨rfl, rfl, rfl, rfl, rfl, trivial⟩, trivial⟩
    | some n =>
      rw [hkg] at hnew hnb
      have hnb : n ≤ 1000000 := hnb
      conv => lhs; whnf
      refine (hD _).2 ⟨_, hM, strL_alike natV (parentP q) _, fun A3 hm3 ho3 => ?_⟩
      have hm3 : MapAt A3 c (putL (.string (parentP q)) (.int .i64 (IntKind.i64.wrap ((n : Int) + 1))) (strL natV l)) := hm3
      rw [wrap_inc (by omega), show Value.int .i64 ((n + 1 : Nat) : Int) = natV (n + 1) from rfl, strL_put] at hm3
      conv => lhs; whnf
      exact (hD _).2 ⟨(⟨k + 1, A3, kPut (parentP q) (n + 1) l⟩ : A1G), ⟨hnew A3 ho3 hm3, ⟨inc_slot (k := k) (by omega), trivial⟩, trivial, rfl⟩, by show ps.length - (k + 1) < ps.length - k; omega, ⟨rfl, rfl, rfl, rfl, rfl, trivial⟩, trivial⟩
  · have e : k = ps.length := by
      have hlt : ¬ (k : Int) < (ps.length : Int) := hlt
      omega
    subst e
    rw [List.take_length] at hcnt
    have hTA := TreeAt_sub hT hAs
    refine (hD _).2 ⟨allInv2 A As T ps, ⟨(⟨0, As, As, .slice none 0 0, []⟩ : A2G), ⟨Nat.zero_le _, Arena.Sub.refl _, Arena.Sub.refl _, GrowR.nil _ _ _ _, rfl, fun _ hx => (by cases hx)⟩, ⟨rfl, rfl, trivial⟩, trivial, rfl⟩, fun (sg : A2G) hG => ⟨⟨trivial, trivial, trivial⟩, trivial, ?_⟩⟩
    obtain ⟨k, Ak, K, v0, rs⟩ := sg
    obtain ⟨hk, hKA, hLK, hGr, hrs, hdat⟩ : k ≤ ps.length ∧ K.Sub Ak ∧ As.Sub K ∧ GrowR K Ak 12 40 k v0 (rs.flatMap nodeC) ∧ rs.map (·.1) = (ps.take k).map (fun x => toldOf T (bytesOf x)) ∧ ∀ x ∈ rs, SlB (K.minus A) x.2 x.1.data := hG
    conv => lhs; whnf
    refine split_dec (fun hlt => ?_) (fun hlt => ?_) <;> (conv => lhs; whnf)
    · have hkl : k < ps.length := by
        have hlt : (k : Int) < (ps.length : Int) := hlt
        omega
      obtain ⟨g, o, rfl, hra⟩ := Sl.at_ hcp ha1 ha2 ha3 (by omega)
      have hLA := hLK.trans hKA
      have hrow := rd_sub (hPs.trans hLA) (text_at hra k hkl rfl)
      obtain ⟨q, hq⟩ : ∃ q, q = bytesOf ps[k] := ⟨_, rfl⟩
      have hrow : Ak.rd g (o + k * 1) 1 = some [.string q] := by rw [hrow, hq]; rfl
      have hqm : q ∈ T.nodes.map (·.1) := by
        rw [hq]; exact paths_mem (hps ▸ List.getElem_mem hkl)
      obtain ⟨n, hn⟩ : ∃ n, kGet q T.nodes = some n := by
        cases h : kGet q T.nodes with
        | some n => exact ⟨n, rfl⟩
        | none => exact absurd h (kGet_iff.2 hqm)
      conv => lhs; whnf
      refine split_in (fun _ _ => ?_) (fun h => by omega)
      conv => lhs; whnf
      refine go_rd hrow ?_
      conv => lhs; whnf
      refine go_lk (look_str (hM.sub fun o ho => hLA _ _ ho) q) ?_
      obtain ⟨cn, hcn⟩ : ∃ cn, cn = (kGet q l).getD 0 := ⟨_, rfl⟩
      have hkn : cn = kidsN T q := by rw [hcn, hcnt, hps, count_paths]
      have htold : toldOf T q = ⟨q, n.data, { n.stat with len := n.data.length, kids := cn }⟩ := by
        rw [toldOf, hn, hkn]
      rcases hkg : kGet q l with _ | n1
      all_goals
        rw [hkg] at hcn
        conv => lhs; whnf
        refine (hD _).2 ⟨(⟨T, B, O, t⟩, q, n, cn), ⟨by rw [hcn]; rfl, TreeAt_sub hT (hAs.trans hLA), hn⟩, fun v A4 hq4 => ?_⟩
        obtain ⟨s4, vd, rfl, hS4⟩ : Ak.Sub A4 ∧ ∃ vd, v = nodeV q vd { n.stat with len := n.data.length, kids := cn } ∧ SlB (A4.minus Ak) vd n.data := hq4
        obtain ⟨ad, kd, rfl⟩ := hS4.1.form
        conv => lhs; whnf
        refine (hD _).2 fun gb A5 hN => ?_
        obtain ⟨x, hx⟩ : ∃ x : ToldD × Value, x = (toldOf T q, .slice ad n.data.length kd) := ⟨_, rfl⟩
        have hNx : A4.New A5 gb (nodeC x).toArray 40 := by rw [hx, htold]; exact hN
        have hxl : (nodeC x).length = 12 := rfl
        have hKA4 := hKA.trans s4
        obtain ⟨K', hK'⟩ : ∃ K' : Arena, K' = K.plus (A4.minus Ak) := ⟨_, rfl⟩
        have hKK : K.Sub K' := by rw [hK']; exact plus_l _ _
        have hNK : (A4.minus Ak).Sub K' := by
          rw [hK']
          refine plus_r fun j o hj => ?_
          cases hKj : K.blk j with
          | none => rfl
          | some o' => rw [minus_none _ (hKA _ _ hKj)] at hj; cases hj
        have hK4 : K'.Sub A4 := fun j o hj => by
          rw [hK'] at hj
          rcases plus_cases hj with hj | ⟨_, hj⟩
          · exact hKA4 _ _ hj
          · exact (minus_blk hj).2
        have hG4 : GrowR K' Ak 12 40 k v0 (rs.flatMap nodeC) := grow_know hGr fun j o h1 h2 => by
          rw [hK', plus_blk, h1]; exact minus_none _ h2
        have hG5 := (hG4.sub s4).sub hN.sub
        have hK5 := hK4.trans hN.sub
        have hd5 : ∀ j, A5.blk j = none → K'.blk j = none := fun j hj => by
          cases h1 : K'.blk j with
          | none => rfl
          | some o => rw [hK5 _ _ h1] at hj; cases hj
        obtain ⟨base, c9, rfl, hbase, hP, hA⟩ := hG5.form
        have hP := hP 120 (by omega) (by omega)
        have hrow : A5.rd gb 0 (1 * 12) = some (nodeC x) := hNx.rd (o := 0) (n := 1 * 12) (by rw [List.size_toArray, hxl]; omega)
        rcases hbase with rfl | ⟨g0, rfl⟩ <;> (conv => lhs; whnf)
        all_goals
          refine (hD _).2 ⟨rs.flatMap nodeC, nodeC x, hP.rd, ?_, rfl, ?_, ?_, hP.cap, rfl, hP.none_, fun g' o' he' hle' _ => hP.room 12 rfl g' o' he' hle', fun v A6 hAp => ?_⟩
          · show (if 1 * 12 = 0 then some [] else A5.rd gb 0 (1 * 12)) = _
            rw [if_neg (by omega)]; exact hrow
          · intro v hv
            rw [hx] at hv
            simp only [nodeC, StatD.cells, List.mem_cons, List.not_mem_nil, or_false] at hv
            rcases hv with rfl | rfl | rfl | rfl | rfl | rfl | rfl | rfl | rfl | rfl | rfl | rfl <;> rfl
          · show k + 1 ≤ 9223372036854775807
            omega
          · obtain ⟨hG6, hk6⟩ := hA _ _ _ rfl hd5 hAp
            have hK6 : K'.Sub A6 := fun j o hj => by rw [hk6 j o hj]; exact hK5 _ _ hj
            have hg6 : (allInv2 A As T ps).G (⟨k + 1, A6, K', v, rs ++ [x]⟩ : A2G) := by
              refine ⟨by show k + 1 ≤ ps.length; omega, hK6, hLK.trans hKK, ?_, ?_, fun y hy => ?_⟩
              · show GrowR K' A6 12 40 (k + 1) v ((rs ++ [x]).flatMap nodeC)
                rw [List.flatMap_append, List.flatMap_singleton]; exact hG6
              · show (rs ++ [x]).map (·.1) = (ps.take (k + 1)).map fun y => toldOf T (bytesOf y)
                rw [List.take_succ_eq_append_getElem hkl, List.map_append, List.map_append, hrs, List.map_singleton, List.map_singleton, ← hq, hx]
              · rcases List.mem_append.1 hy with hy | hy
                · exact (hdat y hy).sub (minus_mono hKK)
                · simp only [List.mem_singleton] at hy
                  subst hy
                  rw [hx, htold]
                  refine hS4.sub fun j o hj => ?_
                  have hAj : A.blk j = none := by
                    cases hAj : A.blk j with
                    | none => rfl
                    | some o' => rw [minus_none _ (hAs.trans hLA _ _ hAj)] at hj; cases hj
                  show (match A.blk j with
                    | none => K'.blk j
                    | some _ => none) = some o
                  rw [hAj]; exact hNK _ _ hj
            conv => lhs; whnf
            exact (hD _).2 ⟨(⟨k + 1, A6, K', v, rs ++ [x]⟩ : A2G), ⟨hg6, ⟨inc_slot (k := k) (by omega), rfl, trivial⟩, trivial, rfl⟩, by show ps.length - (k + 1) < ps.length - k; omega, ⟨rfl, rfl, rfl, rfl, rfl, trivial⟩, trivial⟩
    · have e : k = ps.length := by
        have hlt : ¬ (k : Int) < (ps.length : Int) := hlt
        omega
      subst e
      rw [List.take_length] at hrs
      have hrs : rs.map (·.1) = treeAll T := by rw [hrs, hps]; rfl
      have hl : (treeAll T).length = ps.length := by rw [treeAll, List.length_map, hps]
      have hend : allS.post ⟨T, B, O, t⟩ [.pointer (some ⟨t, 0, none⟩)] A v0 Ak := by
        refine ⟨hAs.trans (hLK.trans hKA), rs, hrs, ?_, fun x hx => (hdat x hx).sub (minus_mono hKA)⟩
        rw [hl]
        exact grow_sl hGr (hAs.trans hLK)
      exact (hD _).2 hend

end
end Go.Proofs.YtinahcnpabjinaaDoor

namespace Go.Proofs.YtinahcnpabjinaaDoor
open Go.Sx Go.RowKit
noncomputable section

theorem conv_bytes {A : Arena} {w : World} (hA : ∀ k o, A.blk k = some o → w.heap[k]? = some o) {v : Value} {bs : List UInt8} (h : SlB A v bs) : (convert 29 9 v).run Tryd.prog w = .ok (.string ⟨bs.toArray⟩) w := by
  obtain ⟨⟨ao, c, rfl, hc, _, h1, h2, h3⟩, _⟩ := h
  rcases Nat.eq_zero_or_pos bs.length with hn | hn
  · obtain rfl : bs = [] := List.length_eq_zero_iff.1 hn
    rw [show ([] : List UInt8).length = 0 from rfl, run_convert_bytes_string w 29 9 5 _ 0 c Tryd.underlying29 Tryd.underlying5 Tryd.underlying9]
    cases ao <;> simp [Conv.bytesToString, loadCells]
    all_goals rfl
  · obtain ⟨g, o, rfl, hr⟩ := Sl.at_ hc h1 h2 h3 hn
    have hx : (bs.map fun b => (b.toNat : Int)).length = bs.length := List.length_map _
    have hcell : ∀ i, i < bs.length → w.cell? ⟨g, o + i, none⟩ = some (.int .u8 ((bs.map fun b => (b.toNat : Int)).getD i 0)) := fun i hi => by
      have h9 := byte_at hr i hi rfl
      rw [A.rdeq] at h9
      unfold rdOf at h9
      split at h9
      · rename_i cc tt fz hb
        split at h9
        · injection h9 with h9
          unfold World.cell?
          rw [hA _ _ hb]
          simp only [Option.isSome_none, Bool.false_eq_true, if_false]
          have h10 : ((cc.toList.drop (o + i * 1)).take 1)[0]? = ([bv bs[i]])[0]? := by rw [h9]
          rw [List.getElem?_take, if_pos (by omega), List.getElem?_drop, Nat.mul_one, Nat.add_zero] at h10
          rw [← Array.getElem?_toList, h10]
          simp [bv, hi]
        · cases h9
      · cases h9
    have := run_convert_bytes_arg (P := Tryd.prog) w 29 5 Tryd.underlying29 Tryd.underlying5 g o bs.length c _ hx hcell 9 Tryd.underlying9
    rw [this]
    have e : strOfNums (bs.map fun b => (b.toNat : Int)) = ⟨bs.toArray⟩ := by
      have hm : ∀ l : List UInt8, l.map ((fun n : Int => UInt8.ofNat n.toNat) ∘ fun b : UInt8 => (b.toNat : Int)) = l := fun l => by
        induction l with
        | nil => rfl
        | cons b l ih => rw [List.map_cons, ih, Function.comp_apply, Int.toNat_natCast, UInt8.ofNat_toNat]
      unfold strOfNums
      rw [List.map_map, hm]
    rw [e]

set_option maxHeartbeats 1000000 in
theorem equal_run (v1 v2 : Value) (t1 t2 : ByteArray) (w : World) (h1 : (convert 29 9 v1).run Tryd.prog w = .ok (.string t1) w) (h2 : (convert 29 9 v2).run Tryd.prog w = .ok (.string t2) w) :
    Calls Tryd.prog 42 #[v1, v2] w fun e w' => e = .returned (.bool (t1.toList == t2.toList)) ∧ w' = w := by
  go_enter Tryd.func42, Tryd.ntmps42
  go_wp2
  go_ret
  exact ⟨rfl, rfl⟩

def equalS : FSpec := ⟨List UInt8 × List UInt8, fun g vs A => ∃ x y, vs = [x, y] ∧ SlB A x g.1 ∧ SlB A y g.2, fun g _ A v A' => A' = A ∧ v = .bool (decide (g.1 = g.2))⟩

theorem equal_ok : FOk Tryd.prog 42 equalS := by
  intro ⟨xs, ys⟩ vs A w hA hp
  obtain ⟨x, y, rfl, hx, hy⟩ : ∃ x y, vs = [x, y] ∧ SlB A x xs ∧ SlB A y ys := hp
  refine goes_of_calls Tryd.func42 ⟨by kernel_rfl, by kernel_rfl⟩ ?_
  intro cs
  obtain ⟨e, w', fr, ⟨k1, k2⟩, k3⟩ := equal_run x y _ _ w (conv_bytes hA hx) (conv_bytes hA hy) cs
  subst k2
  refine ⟨e, w', fr, ⟨_, k1, A, ⟨rfl, ?_⟩, rfl, rfl, rfl, fun _ _ _ => rfl, hA, fun k o ho => .inl ⟨o, ho⟩⟩, k3⟩
  congr 1
  rw [Lib.toList_data, Lib.toList_data]
  by_cases h : xs = ys
  · subst h; simp
  · simp [h]

end
end Go.Proofs.YtinahcnpabjinaaDoor

namespace Go.Proofs.YtinahcnpabjinaaDoor
open Go.Sx Go.RowKit
noncomputable section
open Classical

def sameNodeS : FSpec := ⟨(ToldD × Value) × (ToldD × Value), fun g vs A => vs = [.agg (nodeC g.1).toArray, .agg (nodeC g.2).toArray] ∧ SlB A g.1.2 g.1.1.data ∧ SlB A g.2.2 g.2.1.data, fun g _ A v A' => A' = A ∧ v = .bool (decide (g.1.1 = g.2.1))⟩

set_option maxRecDepth 100000 in
set_option maxHeartbeats 0 in
theorem sameNode_ok : FOk Tryd.prog 41 sameNodeS := by
  refine fok_v mixed fun ⟨⟨⟨p, d, ⟨s1, s2, s3, s4, s5, s6, s7, s8, s9, s10⟩⟩, vd⟩, ⟨⟨q, e, ⟨u1, u2, u3, u4, u5, u6, u7, u8, u9, u10⟩⟩, ve⟩⟩ vs A hp => ?_
  obtain ⟨rfl, hd, he⟩ : vs = [.agg #[.string p, vd, .int .i64 s1, .int .i64 s2, .int .i64 s3, .int .i64 s4, .int .i64 s5, .int .i64 s6, .int .i64 s7, .int .i64 s8, .int .i64 s9, .int .i64 s10], .agg #[.string q, ve, .int .i64 u1, .int .i64 u2, .int .i64 u3, .int .i64 u4, .int .i64 u5, .int .i64 u6, .int .i64 u7, .int .i64 u8, .int .i64 u9, .int .i64 u10]] ∧ SlB A vd d ∧ SlB A ve e := hp
  obtain ⟨ad, cd, rfl⟩ := hd.1.form
  obtain ⟨ae, ce, rfl⟩ := he.1.form
  have hCt : CTSound Tryd.prog (lookC [specE 42 equalS] noC) := lookC_sound (noC_sound _) (fun x hx => by
    simp only [List.mem_singleton] at hx
    subst hx; exact specE_ok equal_ok)
  refine ⟨_, noL, 60, hCt, noL_sound _, fun blk os out tape D hD => ?_⟩
  have hend : ∀ b : Bool, (b = true ↔ ((p = q ∧ ((s1 = u1 ∧ s2 = u2 ∧ s3 = u3 ∧ s4 = u4 ∧ s5 = u5) ∧ s6 = u6 ∧ s7 = u7 ∧ s8 = u8 ∧ s9 = u9 ∧ s10 = u10)) ∧ d = e)) → sameNodeS.post ⟨⟨⟨p, d, ⟨s1, s2, s3, s4, s5, s6, s7, s8, s9, s10⟩⟩, .slice ad d.length cd⟩, ⟨⟨q, e, ⟨u1, u2, u3, u4, u5, u6, u7, u8, u9, u10⟩⟩, .slice ae e.length ce⟩⟩ [] A (.bool b) A := fun b hb => by
    refine ⟨rfl, ?_⟩
    congr 1
    rw [Bool.eq_iff_iff, hb, decide_eq_true_iff]
    simp only [ToldD.mk.injEq, StatD.mk.injEq]
    constructor
    · rintro ⟨⟨h1, ⟨h2, h3, h4, h5, h6⟩, h7⟩, h8⟩
      exact ⟨h1, h8, h2, h3, h4, h5, h6, h7⟩
    · rintro ⟨h1, h8, h2, h3, h4, h5, h6, h7⟩
      exact ⟨⟨h1, ⟨h2, h3, h4, h5, h6⟩, h7⟩, h8⟩
  conv => lhs; whnf
  refine split_b (fun hb => ?_) (fun hb => ?_) <;> (conv => lhs; whnf)
  rotate_left
  · exact (hD _).2 (hend false ⟨fun h => (by cases h), fun h => absurd (congrArg (fun x : ByteArray => x.data.toList) h.1.1) (beqL_ff.1 hb)⟩)
  have hpq : p = q := bytes_ext (beqL_iff.1 hb)
  refine go_D hD (by kernel_rfl) ?_
  conv => lhs; whnf
  refine split_b (fun h1 => ?_) (fun h1 => ?_) <;> (conv => lhs; whnf)
  rotate_left
  · exact (hD _).2 (hend false ⟨fun h => (by cases h), fun h => (by
      obtain ⟨⟨_, ⟨rfl, rfl, rfl, rfl, rfl⟩, rfl, rfl, rfl, rfl, rfl⟩, _⟩ := h
      simp at h1)⟩)
  refine (hD _).2 ⟨(d, e), ⟨_, _, rfl, hd, he⟩, fun v A' hq => ?_⟩
  obtain ⟨hA, rfl⟩ : A = A' ∧ v = .bool (decide (d = e)) := ⟨hq.1.symm, hq.2⟩
  subst hA
  have hall : (s1 = u1 ∧ s2 = u2 ∧ s3 = u3 ∧ s4 = u4 ∧ s5 = u5) ∧ s6 = u6 ∧ s7 = u7 ∧ s8 = u8 ∧ s9 = u9 ∧ s10 = u10 := by
    simp at h1
    omega
  conv => lhs; whnf
  exact (hD _).2 (hend _ (by show decide (d = e) = true ↔ _; rw [decide_eq_true_iff]; exact ⟨fun h => ⟨⟨hpq, hall⟩, h⟩, fun h => h.2⟩))

def eqNodeV : Value := .func (.func 41) #[] #[]

def NodesR (A : Arena) (v : Value) (l : List (ToldD × Value)) : Prop := Sl A 12 l.length v (l.flatMap nodeC) ∧ ∀ x ∈ l, SlB A x.2 x.1.data

def eqNodesS : FSpec := ⟨List (ToldD × Value) × List (ToldD × Value), fun g vs A => ∃ x y, vs = [x, y, eqNodeV] ∧ NodesR A x g.1 ∧ NodesR A y g.2 ∧ g.1.length ≤ 1000000 ∧ g.2.length ≤ 1000000, fun g _ A v A' => A' = A ∧ v = .bool (decide (g.1.map (·.1) = g.2.map (·.1)))⟩

set_option maxRecDepth 100000 in
set_option maxHeartbeats 0 in
theorem eqNodes_ok : FOk Tryd.prog 43 eqNodesS := by
  refine fok_v mixed fun ⟨ls, bs⟩ vs A hp => ?_
  obtain ⟨x, y, rfl, ⟨⟨ao, c, rfl, hc, _, ha1, ha2, ha3⟩, hda⟩, ⟨⟨bo, d, rfl, hd, _, hb1, hb2, hb3⟩, hdb⟩, hl1, hl2⟩ : ∃ x y, vs = [x, y, eqNodeV] ∧ NodesR A x ls ∧ NodesR A y bs ∧ ls.length ≤ 1000000 ∧ bs.length ≤ 1000000 := hp
  have hCt : CTSound Tryd.prog (lookC [specE 41 sameNodeS] noC) := lookC_sound (noC_sound _) (fun x hx => by
    simp only [List.mem_singleton] at hx
    subst hx; exact specE_ok sameNode_ok)
  refine ⟨_, tabO Tryd.prog _ noL 60 [(43, 0)], 60, hCt, tabO_sound mixed hCt (noL_sound _) _ _, fun blk os out tape D hD => ?_⟩
  have hend : ∀ b : Bool, (b = true ↔ ls.map (·.1) = bs.map (·.1)) → eqNodesS.post (ls, bs) [] A (.bool b) A := fun b hb => by
    refine ⟨rfl, ?_⟩
    congr 1
    rw [Bool.eq_iff_iff, hb, decide_eq_true_iff]
  conv => lhs; whnf
  refine split_b (fun hb => ?_) (fun hb => ?_) <;> (conv => lhs; whnf)
  · refine (hD _).2 (hend false ⟨fun h => (by cases h), fun e => ?_⟩)
    have e1 := congrArg List.length e
    simp at e1
    rw [e1] at hb
    simp at hb
  · have hlen : ls.length = bs.length := by
      have : (ls.length : Int) = bs.length := by simpa using hb
      omega
    refine (hD _).2 ⟨cnt A 17 [1, 2, 15, 16] [] ls.length fun k => (ls.take k).map (·.1) = (bs.take k).map (·.1), ⟨(0 : Nat), ⟨Nat.zero_le _, rfl⟩, ⟨rfl, trivial⟩, trivial, rfl⟩, fun (k : Nat) hk => ⟨⟨trivial, trivial⟩, trivial, ?_⟩⟩
    simp only [cnt] at hk
    conv => lhs; whnf
    refine split_dec (fun hlt => ?_) (fun hlt => ?_) <;> (conv => lhs; whnf)
    · have hkl : k < ls.length := by omega
      obtain ⟨g, o, rfl, hra⟩ := Sl.at_ hc ha1 ha2 ha3 (by omega)
      obtain ⟨g', o', rfl, hrb⟩ := Sl.at_ hd hb1 hb2 hb3 (by omega)
      have r1 := row_at (enc := nodeC) (fun _ => rfl) hra k hkl rfl
      have r2 := row_at (enc := nodeC) (fun _ => rfl) hrb k (by omega) rfl
      obtain ⟨⟨⟨p1, e1, ⟨a1, a2, a3, a4, a5, a6, a7, a8, a9, a10⟩⟩, v1⟩, hn1⟩ : ∃ n1, n1 = ls[k] := ⟨_, rfl⟩
      obtain ⟨⟨⟨p2, e2, ⟨b1, b2, b3, b4, b5, b6, b7, b8, b9, b10⟩⟩, v2⟩, hn2⟩ : ∃ n2, n2 = bs[k] := ⟨_, rfl⟩
      have d1 : SlB A v1 e1 := hda (((⟨p1, e1, ⟨a1, a2, a3, a4, a5, a6, a7, a8, a9, a10⟩⟩ : ToldD), v1)) (by rw [hn1]; exact List.getElem_mem _)
      have d2 : SlB A v2 e2 := hdb (((⟨p2, e2, ⟨b1, b2, b3, b4, b5, b6, b7, b8, b9, b10⟩⟩ : ToldD), v2)) (by rw [hn2]; exact List.getElem_mem _)
      have t1 : (ls.take (k + 1)).map (·.1) = (ls.take k).map (·.1) ++ [(⟨p1, e1, ⟨a1, a2, a3, a4, a5, a6, a7, a8, a9, a10⟩⟩ : ToldD)] := by rw [List.take_succ_eq_append_getElem hkl, List.map_append, ← hn1]; rfl
      have t2 : (bs.take (k + 1)).map (·.1) = (bs.take k).map (·.1) ++ [(⟨p2, e2, ⟨b1, b2, b3, b4, b5, b6, b7, b8, b9, b10⟩⟩ : ToldD)] := by rw [List.take_succ_eq_append_getElem (by omega), List.map_append, ← hn2]; rfl
      rw [← hn1] at r1
      rw [← hn2] at r2
      obtain ⟨x1, c1, rfl⟩ := d1.1.form
      obtain ⟨x2, c2, rfl⟩ := d2.1.form
      have r1 : A.rd g (o + k * 12) 12 = some [.string p1, .slice x1 e1.length c1, .int .i64 a1, .int .i64 a2, .int .i64 a3, .int .i64 a4, .int .i64 a5, .int .i64 a6, .int .i64 a7, .int .i64 a8, .int .i64 a9, .int .i64 a10] := r1
      have r2 : A.rd g' (o' + k * 12) 12 = some [.string p2, .slice x2 e2.length c2, .int .i64 b1, .int .i64 b2, .int .i64 b3, .int .i64 b4, .int .i64 b5, .int .i64 b6, .int .i64 b7, .int .i64 b8, .int .i64 b9, .int .i64 b10] := r2
      conv => lhs; whnf
      refine go_in ⟨by show (0 : Int) ≤ (k : Int); omega, by show (k : Int) < (ls.length : Int); omega⟩ ?_
      conv => lhs; whnf
      refine go_rd r1 ?_
      conv => lhs; whnf
      refine go_in ⟨by show (0 : Int) ≤ (k : Int); omega, by show (k : Int) < (bs.length : Int); omega⟩ ?_
      conv => lhs; whnf
      refine go_rd r2 ?_
      conv => lhs; whnf
      refine (hD _).2 ⟨(((⟨p1, e1, ⟨a1, a2, a3, a4, a5, a6, a7, a8, a9, a10⟩⟩ : ToldD), .slice x1 e1.length c1), ((⟨p2, e2, ⟨b1, b2, b3, b4, b5, b6, b7, b8, b9, b10⟩⟩ : ToldD), .slice x2 e2.length c2)), ⟨rfl, d1, d2⟩, fun v A' hq => ?_⟩
      obtain ⟨hA, rfl⟩ : A = A' ∧ v = .bool (decide ((⟨p1, e1, ⟨a1, a2, a3, a4, a5, a6, a7, a8, a9, a10⟩⟩ : ToldD) = (⟨p2, e2, ⟨b1, b2, b3, b4, b5, b6, b7, b8, b9, b10⟩⟩ : ToldD))) := ⟨hq.1.symm, hq.2⟩
      subst hA
      conv => lhs; whnf
      refine split_b (fun he => ?_) (fun he => ?_) <;> (conv => lhs; whnf)
      · refine (hD _).2 (hend false ⟨fun h => (by cases h), fun e => ?_⟩)
        have e3 := congrArg (List.take (k + 1)) e
        rw [← List.map_take, ← List.map_take, t1, t2, hk.2] at e3
        have e4 := List.append_cancel_left e3
        injection e4 with e4
        simp [e4] at he
      · have he : (⟨p1, e1, ⟨a1, a2, a3, a4, a5, a6, a7, a8, a9, a10⟩⟩ : ToldD) = (⟨p2, e2, ⟨b1, b2, b3, b4, b5, b6, b7, b8, b9, b10⟩⟩ : ToldD) := by simpa using he
        refine (hD _).2 ⟨(k + 1 : Nat), ⟨⟨by omega, ?_⟩, ⟨inc_slot (by omega), trivial⟩, trivial, rfl⟩, ?_, ⟨rfl, rfl, rfl, rfl, trivial⟩, trivial⟩
        · show (ls.take (k + 1)).map (·.1) = (bs.take (k + 1)).map (·.1)
          rw [t1, t2, hk.2, he]
        · show ls.length - (k + 1) < ls.length - k
          omega
    · have e : k = ls.length := by omega
      refine (hD _).2 (hend true ⟨fun _ => ?_, fun _ => rfl⟩)
      have h := hk.2
      rw [e, List.take_length, hlen, List.take_length] at h
      exact h

def eqSitsS : FSpec := ⟨List SitD × List SitD, fun g vs A => ∃ x y, vs = [x, y] ∧ Sl A 3 g.1.length x (g.1.flatMap sitC) ∧ Sl A 3 g.2.length y (g.2.flatMap sitC) ∧ g.1.length ≤ 1000000 ∧ g.2.length ≤ 1000000, fun g _ A v A' => A' = A ∧ v = .bool (decide (g.1 = g.2))⟩

set_option maxRecDepth 100000 in
set_option maxHeartbeats 0 in
theorem eqSits_ok : FOk Tryd.prog 45 eqSitsS := by
  refine fok_v mixed fun ⟨ls, bs⟩ vs A hp => ?_
  obtain ⟨x, y, rfl, ⟨ao, c, rfl, hc, _, ha1, ha2, ha3⟩, ⟨bo, d, rfl, hd, _, hb1, hb2, hb3⟩, hl1, hl2⟩ : ∃ x y, vs = [x, y] ∧ Sl A 3 ls.length x (ls.flatMap sitC) ∧ Sl A 3 bs.length y (bs.flatMap sitC) ∧ ls.length ≤ 1000000 ∧ bs.length ≤ 1000000 := hp
  refine ⟨noC, tabO Tryd.prog noC noL 60 [(45, 0)], 60, noC_sound _, tabO_sound mixed (noC_sound _) (noL_sound _) _ _, fun blk os out tape D hD => ?_⟩
  have hend : ∀ b : Bool, (b = true ↔ ls = bs) → eqSitsS.post (ls, bs) [] A (.bool b) A := fun b hb => by
    refine ⟨rfl, ?_⟩
    congr 1
    rw [Bool.eq_iff_iff, hb, decide_eq_true_iff]
  conv => lhs; whnf
  refine split_b (fun hb => ?_) (fun hb => ?_) <;> (conv => lhs; whnf)
  · refine (hD _).2 (hend false ⟨fun h => (by cases h), fun e => ?_⟩)
    have e1 := congrArg List.length e
    rw [e1] at hb
    simp at hb
  · have hlen : ls.length = bs.length := by
      have : (ls.length : Int) = bs.length := by simpa using hb
      omega
    refine (hD _).2 ⟨cnt A 13 [0, 1, 11, 12] [] ls.length fun k => ls.take k = bs.take k, ⟨(0 : Nat), ⟨Nat.zero_le _, rfl⟩, ⟨rfl, trivial⟩, trivial, rfl⟩, fun (k : Nat) hk => ⟨⟨trivial, trivial⟩, trivial, ?_⟩⟩
    simp only [cnt] at hk
    conv => lhs; whnf
    refine split_dec (fun hlt => ?_) (fun hlt => ?_) <;> (conv => lhs; whnf)
    · have hkl : k < ls.length := by omega
      obtain ⟨g, o, rfl, hra⟩ := Sl.at_ hc ha1 ha2 ha3 (by omega)
      obtain ⟨g', o', rfl, hrb⟩ := Sl.at_ hd hb1 hb2 hb3 (by omega)
      have r1 := row_at (enc := sitC) (fun _ => rfl) hra k hkl rfl
      have r2 := row_at (enc := sitC) (fun _ => rfl) hrb k (by omega) rfl
      have t1 : ls.take (k + 1) = ls.take k ++ [ls[k]] := by rw [List.take_succ_eq_append_getElem hkl]
      have t2 : bs.take (k + 1) = bs.take k ++ [bs[k]] := by rw [List.take_succ_eq_append_getElem (by omega)]
      obtain ⟨⟨a1, a2, a3⟩, hn1⟩ : ∃ n1, n1 = ls[k] := ⟨_, rfl⟩
      obtain ⟨⟨b1, b2, b3⟩, hn2⟩ : ∃ n2, n2 = bs[k] := ⟨_, rfl⟩
      rw [← hn1] at r1 t1
      rw [← hn2] at r2 t2
      have r1 : A.rd g (o + k * 3) 3 = some [.int .i64 a1, .int .i64 a2, .int .i64 a3] := r1
      have r2 : A.rd g' (o' + k * 3) 3 = some [.int .i64 b1, .int .i64 b2, .int .i64 b3] := r2
      conv => lhs; whnf
      have i1 : (0 : Int) ≤ (k : Int) ∧ (k : Int) < (ls.length : Int) := by omega
      have i2 : (0 : Int) ≤ (k : Int) ∧ (k : Int) < (bs.length : Int) := by omega
      repeat (first | refine go_in i1 ?_ | refine go_in i2 ?_ | refine go_rd r1 ?_ | refine go_rd r2 ?_ | refine go_D hD rfl ?_ | refine go_D hD (by kernel_rfl) ?_
              conv => lhs; whnf)
      refine split_b (fun he => ?_) (fun he => ?_) <;> (conv => lhs; whnf)
      · refine (hD _).2 (hend false ⟨fun h => (by cases h), fun e => ?_⟩)
        have e3 := congrArg (List.take (k + 1)) e
        rw [t1, t2, hk.2] at e3
        have e4 := List.append_cancel_left e3
        injection e4 with e4
        injection e4 with h1 h2 h3
        subst h1 h2 h3
        simp at he
      · have he : (⟨a1, a2, a3⟩ : SitD) = ⟨b1, b2, b3⟩ := by
          simp at he
          rw [he.1, he.2.1, he.2.2]
        refine (hD _).2 ⟨(k + 1 : Nat), ⟨⟨by omega, ?_⟩, ⟨inc_slot (by omega), trivial⟩, trivial, rfl⟩, ?_, ⟨rfl, rfl, rfl, rfl, trivial⟩, trivial⟩
        · show ls.take (k + 1) = bs.take (k + 1)
          rw [t1, t2, hk.2, he]
        · show ls.length - (k + 1) < ls.length - k
          omega
    · have e : k = ls.length := by omega
      refine (hD _).2 (hend true ⟨fun _ => ?_, fun _ => rfl⟩)
      have h := hk.2
      rw [e, List.take_length, hlen, List.take_length] at h
      exact h

theorem treeSits_len (T : TreeD) : (treeSits T).length = T.seats.length := by rw [treeSits, List.length_map, sortI_length, List.length_map]
theorem treeAll_len (T : TreeD) : (treeAll T).length = T.nodes.length := by rw [treeAll, List.length_map, treePaths, sortL_length, List.length_map]

theorem nodesR_of {A B : Arena} {v : Value} {ns : List ToldD} (h : NodesS A v ns) (hs : A.Sub B) : ∃ l : List (ToldD × Value), l.map (·.1) = ns ∧ NodesR B v l := by
  obtain ⟨l, h1, h2, h3⟩ := h
  have hl : l.length = ns.length := by rw [← h1, List.length_map]
  exact ⟨l, h1, by rw [hl]; exact h2.sub hs, fun x hx => (h3 x hx).sub hs⟩

/-- Do two trees tell the same? -/
def TSame (T U : TreeD) : Prop := treeAll T = treeAll U ∧ treeSits T = treeSits U

def TFits (T : TreeD) : Prop := SeatsOk T ∧ T.nodes.length ≤ 1000000 ∧ T.seats.length ≤ 1000000

def sameS : FSpec := ⟨TG × TG, fun g vs A => vs = [.pointer (some ⟨g.1.t, 0, none⟩), .pointer (some ⟨g.2.t, 0, none⟩)] ∧ TreeAt A g.1.B g.1.O g.1.t g.1.T ∧ TreeAt A g.2.B g.2.O g.2.t g.2.T ∧ TFits g.1.T ∧ TFits g.2.T,
  fun g _ A v A' => A.Sub A' ∧ v = .bool (decide (TSame g.1.T g.2.T))⟩

set_option maxRecDepth 100000 in
set_option maxHeartbeats 0 in
theorem same_ok : FOk Tryd.prog 17 sameS := by
  refine fok_v mixed fun ⟨⟨T, B, O, t⟩, ⟨U, B', O', t'⟩⟩ vs A hp => ?_
  obtain ⟨rfl, hT, hU, ⟨fT1, fT2, fT3⟩, ⟨fU1, fU2, fU3⟩⟩ : vs = [.pointer (some ⟨t, 0, none⟩), .pointer (some ⟨t', 0, none⟩)] ∧ TreeAt A B O t T ∧ TreeAt A B' O' t' U ∧ TFits T ∧ TFits U := hp
  have hCt : CTSound Tryd.prog (lookC [specE 44 allS, specE 38 sittingsS, specE 43 eqNodesS, specE 45 eqSitsS] noC) := lookC_sound (noC_sound _) (fun x hx => by
    simp only [List.mem_cons, List.not_mem_nil, or_false] at hx
    rcases hx with rfl | rfl | rfl | rfl
    · exact specE_ok all_ok
    · exact specE_ok sittings_ok
    · exact specE_ok eqNodes_ok
    · exact specE_ok eqSits_ok)
  refine ⟨_, noL, 60, hCt, noL_sound _, fun blk os out tape D hD => ?_⟩
  have htop : ∃ m, A.rd t 0 1 = some [.map (some m)] := by
    obtain ⟨m, s, E, h⟩ := hT
    exact ⟨m, h.top.rd (o := 0) (n := 1) (by show 0 + 1 ≤ 2; omega)⟩
  have htop' : ∃ m, A.rd t' 0 1 = some [.map (some m)] := by
    obtain ⟨m, s, E, h⟩ := hU
    exact ⟨m, h.top.rd (o := 0) (n := 1) (by show 0 + 1 ≤ 2; omega)⟩
  obtain ⟨m, htop⟩ := htop
  obtain ⟨m', htop'⟩ := htop'
  conv => lhs; whnf
  repeat (first | refine go_rd htop ?_ | refine go_rd htop' ?_ | refine go_D hD rfl ?_
          conv => lhs; whnf)
  refine (hD _).2 ⟨⟨T, B, O, t⟩, ⟨rfl, hT, fT2⟩, fun v A1 hq => ?_⟩
  obtain ⟨s1, hN1⟩ : A.Sub A1 ∧ NodesS (A1.minus A) v (treeAll T) := hq
  obtain ⟨a1, c1, rfl⟩ := hN1.choose_spec.2.1.form
  conv => lhs; whnf
  refine (hD _).2 ⟨⟨U, B', O', t'⟩, ⟨rfl, TreeAt_sub hU s1, fU2⟩, fun v A2 hq => ?_⟩
  obtain ⟨s2, hN2⟩ : A1.Sub A2 ∧ NodesS (A2.minus A1) v (treeAll U) := hq
  obtain ⟨a2, c2, rfl⟩ := hN2.choose_spec.2.1.form
  obtain ⟨l1, hl1, hR1⟩ := nodesR_of hN1 ((minus_sub A A1).trans s2)
  obtain ⟨l2, hl2, hR2⟩ := nodesR_of hN2 (minus_sub A1 A2)
  have e1 : l1.length = (treeAll T).length := by rw [← hl1, List.length_map]
  have e2 : l2.length = (treeAll U).length := by rw [← hl2, List.length_map]
  conv => lhs; whnf
  refine (hD _).2 ⟨(l1, l2), ⟨_, _, rfl, hR1, hR2, by show l1.length ≤ _; rw [e1, treeAll_len]; exact fT2, by show l2.length ≤ _; rw [e2, treeAll_len]; exact fU2⟩, fun v A3 hq => ?_⟩
  obtain ⟨hA3, rfl⟩ : A2 = A3 ∧ v = .bool (decide (l1.map (·.1) = l2.map (·.1))) := ⟨hq.1.symm, hq.2⟩
  subst hA3
  rw [hl1, hl2]
  conv => lhs; whnf
  have hend : ∀ (b : Bool) Ak, A.Sub Ak → (b = true ↔ TSame T U) → sameS.post (⟨T, B, O, t⟩, ⟨U, B', O', t'⟩) [.pointer (some ⟨t, 0, none⟩), .pointer (some ⟨t', 0, none⟩)] A (.bool b) Ak := fun b Ak hk hb => by
    refine ⟨hk, ?_⟩
    congr 1
    rw [Bool.eq_iff_iff, hb, decide_eq_true_iff]
  refine split_dec (fun hall => ?_) (fun hall => ?_) <;> (conv => lhs; whnf)
  rotate_left
  · exact (hD _).2 (hend false A2 (s1.trans s2) ⟨fun h => (by cases h), fun h => absurd h.1 hall⟩)
  refine (hD _).2 ⟨⟨T, B, O, t⟩, ⟨rfl, TreeAt_sub hT (s1.trans s2), fT1, fT3⟩, fun v A4 hq => ?_⟩
  obtain ⟨s4, hS4⟩ : A2.Sub A4 ∧ Sl (A4.minus A2) 3 (treeSits T).length v ((treeSits T).flatMap sitC) := hq
  obtain ⟨a4, c4, rfl⟩ := hS4.form
  conv => lhs; whnf
  refine (hD _).2 ⟨⟨U, B', O', t'⟩, ⟨rfl, TreeAt_sub hU (s1.trans (s2.trans s4)), fU1, fU3⟩, fun v A5 hq => ?_⟩
  obtain ⟨s5, hS5⟩ : A4.Sub A5 ∧ Sl (A5.minus A4) 3 (treeSits U).length v ((treeSits U).flatMap sitC) := hq
  obtain ⟨a5, c5, rfl⟩ := hS5.form
  conv => lhs; whnf
  refine (hD _).2 ⟨(treeSits T, treeSits U), ⟨_, _, rfl, hS4.sub ((minus_sub A2 A4).trans s5), hS5.sub (minus_sub A4 A5), by show (treeSits T).length ≤ _; rw [treeSits_len]; exact fT3, by show (treeSits U).length ≤ _; rw [treeSits_len]; exact fU3⟩, fun v A6 hq => ?_⟩
  obtain ⟨hA6, rfl⟩ : A5 = A6 ∧ v = .bool (decide (treeSits T = treeSits U)) := ⟨hq.1.symm, hq.2⟩
  subst hA6
  conv => lhs; whnf
  exact (hD _).2 (hend _ A5 (s1.trans (s2.trans (s4.trans s5))) (by show decide (treeSits T = treeSits U) = true ↔ _; rw [decide_eq_true_iff]; exact ⟨fun h => ⟨hall, h⟩, fun h => h.2⟩))

end
end Go.Proofs.YtinahcnpabjinaaDoor

namespace Go.Proofs.YtinahcnpabjinaaDoor
open Go.Sx Go.RowKit
noncomputable section
open Classical

abbrev strK (p : ByteArray) : Value := .string p
abbrev nodP (x : Nat × NodeD) : Value := ptrV x.1

def copyNodes (sk : List (ByteArray × Nat × NodeD)) : List (ByteArray × NodeD) := sk.foldl (fun l e => kPut e.1 e.2.2 l) treeNew.nodes

theorem copyNodes_snoc (sk : List (ByteArray × Nat × NodeD)) (e : ByteArray × Nat × NodeD) : copyNodes (sk ++ [e]) = kPut e.1 e.2.2 (copyNodes sk) := by
  unfold copyNodes; rw [List.foldl_append]; rfl

structure CG where
  A : Arena
  B : Arena
  O : Nat → Prop
  sk : List (ByteArray × Nat × NodeD)

/-- What a copy's loop keeps. -/
structure CopyI (C W : Arena) (i m t' : Nat) (E : List (ByteArray × Nat × NodeD)) (g : CG) : Prop where
  walk : MWalk strK nodP C W g.A i m E g.sk
  tree : TreeAt g.A g.B g.O t' ⟨copyNodes g.sk, []⟩
  off : ∀ k, g.O k → C.blk k = none
  noti : ¬ g.O i
  bi : g.B.blk i = none
  fresh : ∀ k o, g.B.blk k = some o → C.blk k = none

def copyInv (C W : Arena) (i m t' : Nat) (E : List (ByteArray × Nat × NodeD)) : LInv :=
  { γ := CG, G := CopyI C W i m t' E, keepS := [0, 3, 14], keepB := [], sl := fun _ => [], bl := fun _ => [], ar := fun g => g.A, mu := fun g => E.length - g.sk.length }

def copyS : FSpec := ⟨TG, fun g vs A => vs = [.pointer (some ⟨g.t, 0, none⟩)] ∧ TreeAt A g.B g.O g.t g.T ∧ SeatsOk g.T ∧ g.T.seats.length ≤ 1000000,
  fun g _ A v A' => A.Sub A' ∧ ∃ t' B' O' E sk, v = .pointer (some ⟨t', 0, none⟩) ∧ TreeAt A' B' O' t' ⟨copyNodes sk, seatsOf (treeSits g.T)⟩ ∧ (∀ k, O' k → A.blk k = none) ∧ (∀ k o, B'.blk k = some o → A.blk k = none) ∧ g.T.nodes = kMap (·.2) E ∧ sk.Perm E⟩

set_option maxRecDepth 100000 in
set_option maxHeartbeats 0 in
theorem copy_ok : FOk Tryd.prog 16 copyS := by
  refine fok_a mixed alNode fun ⟨T, B0, O0, t⟩ vs A hp => ?_
  obtain ⟨rfl, ⟨m, s, E, h⟩, hok, hlen⟩ : vs = [.pointer (some ⟨t, 0, none⟩)] ∧ TreeAt A B0 O0 t T ∧ SeatsOk T ∧ T.seats.length ≤ 1000000 := hp
  have hCt : CTSound Tryd.prog (lookC [specE 6 newS, specE 39 cloneBytesS, specE 38 sittingsS, specE 40 seatS] noC) := lookC_sound (noC_sound _) (fun x hx => by
    simp only [List.mem_cons, List.not_mem_nil, or_false] at hx
    rcases hx with rfl | rfl | rfl | rfl
    · exact specE_ok new_ok
    · exact specE_ok cloneBytes_ok
    · exact specE_ok sittings_ok
    · exact specE_ok seat_ok)
  refine ⟨_, tabO Tryd.prog _ noL 60 [(16, 0)], 60, hCt, tabO_sound mixed hCt (noL_sound _) _ _, fun blk os out tape D hD => ?_⟩
  have htop : A.rd t 0 1 = some [.map (some m)] := h.top.rd (o := 0) (n := 1) (by show 0 + 1 ≤ 2; omega)
  conv => lhs; whnf
  repeat (first | refine go_rd htop ?_ | refine go_D hD rfl ?_
          conv => lhs; whnf)
  refine (hD _).2 ⟨(), rfl, fun v A1 hq => ?_⟩
  obtain ⟨t', O1, rfl, hT1, s1, hO1⟩ : ∃ t' O1, v = .pointer (some ⟨t', 0, none⟩) ∧ TreeAt A1 Arena.void O1 t' treeNew ∧ A.Sub A1 ∧ ∀ k, O1 k → A.blk k = none := hq
  have htop1 := rd_sub s1 htop
  conv => lhs; whnf
  repeat (first | refine go_rd htop1 ?_ | refine go_D hD rfl ?_
          conv => lhs; whnf)
  have hLE : strL ptrV (kMap (·.1) E) = E.map fun e => (strK e.1, nodP e.2) := by simp [strL, kMap]
  have hnm := h.nmap
  rw [hLE] at hnm
  have hnd := walk_nodup (kv := strK) (f := nodP) (fun a b e => by injection e) h.keys
  refine (hD _).2 ⟨_, hnm.sub fun o ho => s1 _ _ ho, hnd, fun i A2 hi hA2 hI => ?_⟩
  have hi : A1.blk i = none := hi
  have hA2 : ∀ k, k ≠ i → A2.blk k = A1.blk k := hA2
  have hW := MWalk.start' s1 (h.live m h.own.2.1) hi hA2 hI
  have hWd : ∀ k o, (Arena.of fun k => if k = i then A2.blk k else A.blk k).blk k = some o → k = i ∨ ∃ o', A.blk k = some o' := fun k o hk => by
    have hk : (if k = i then A2.blk k else A.blk k) = some o := hk
    by_cases e : k = i
    · exact .inl e
    · rw [if_neg e] at hk; exact .inr ⟨o, hk⟩
  generalize (Arena.of fun k => if k = i then A2.blk k else A.blk k) = W at hW hWd
  conv => lhs; whnf
  have hG0 : CopyI A W i m t' E ⟨A2, Arena.void, O1, []⟩ := by
    have hni : ¬ O1 i := fun hO => by
      obtain ⟨m1, s1', E1, h1⟩ := hT1
      obtain ⟨o, ho⟩ := h1.live i hO
      rw [hi] at ho; cases ho
    exact ⟨hW, hT1.frame (fun k hk => hA2 k fun e => hni (e ▸ hk)) (fun k o hk => by cases hk), hO1, hni, rfl, fun k o hk => by cases hk⟩
  refine (hD _).2 ⟨copyInv A W i m t' E, ⟨(⟨A2, Arena.void, O1, []⟩ : CG), hG0, trivial, trivial, rfl⟩, fun (sg : CG) hG => ⟨trivial, trivial, ?_⟩⟩
  obtain ⟨Ak, B, O, sk⟩ := sg
  obtain ⟨hw, hT, hoff, hni, hbi, hfr⟩ : CopyI A W i m t' E ⟨Ak, B, O, sk⟩ := hG
  dsimp only at hw hT hoff hni hbi hfr
  conv => lhs; whnf
  refine (hD _).2 ⟨m, _, _, hw.it, fun e he hn A3 hA3 hI3 hent => ?_, fun hall => ?_⟩
  · obtain ⟨⟨p, g, n⟩, hx, rfl, hns, hM3, hlt⟩ := hw.next he hn hA3 hI3
    have hA3 : ∀ k, k ≠ i → A3.blk k = Ak.blk k := hA3
    have hent : A3.ent i = some (.tuple #[.string p, .pointer (some ⟨g, 0, none⟩)]) := hent
    obtain ⟨m', s', E', hR⟩ := hT.frame (A' := A3) (fun k hk => hA3 k fun e => hni (e ▸ hk)) (fun k o hk => by
      rw [hA3 k fun e => by subst e; rw [hbi] at hk; cases hk]
      obtain ⟨m1, s1', E1, h1⟩ := hT
      exact h1.sub k o hk)
    have htop' : A3.rd t' 0 1 = some [.map (some m')] := hR.top.rd (o := 0) (n := 1) (by show 0 + 1 ≤ 2; omega)
    obtain ⟨vn, hc, hs⟩ := h.cells _ hx
    obtain ⟨aw, kw, rfl⟩ := hs.1.form
    have hc3 : CellsAt A3 g (.slice aw n.data.length kw :: n.stat.cells) := hc.sub fun o ho => hM3.old _ _ ho
    have hs3 : SlB A3 (.slice aw n.data.length kw) n.data := (hs.sub h.sub).sub hM3.old
    have hrd : A3.rd g 0 1 = some [.slice aw n.data.length kw] := hc3.rd (o := 0) (n := 1) (by show 0 + 1 ≤ 11; omega)
    have hrs : A3.rd g 1 10 = some n.stat.cells := hc3.rd (o := 1) (n := 10) (by show 1 + 10 ≤ 11; omega)
    conv => lhs; whnf
    split
    rotate_left
    · rename_i hv
      exact absurd (hent.symm.trans hv) (by simp)
    rename_i v hv
    obtain rfl := Option.some.inj (hent.symm.trans hv)
    conv => lhs; whnf
    repeat (first | refine go_rd htop' ?_ | refine go_rd hrd ?_ | refine go_rd hrs ?_ | refine go_D hD rfl ?_
            conv => lhs; whnf)
    refine (hD _).2 ⟨n.data, ⟨_, rfl, hs3⟩, fun v A4 hq => ?_⟩
    obtain ⟨s4, b4⟩ : A3.Sub A4 ∧ SlB (A4.minus A3) v n.data := hq
    obtain ⟨ao, ko, rfl⟩ := b4.1.form
    have htop4 := rd_sub s4 htop'
    have hrd4 := rd_sub s4 hrd
    have hrs4 := rd_sub s4 hrs
    conv => lhs; whnf
    repeat (first | refine go_rd htop4 ?_ | refine go_rd hrd4 ?_ | refine go_rd hrs4 ?_ | refine go_D hD rfl ?_
            conv => lhs; whnf)
    refine (hD _).2 fun g' A5 hN => ?_
    have hN : A4.New A5 g' (.slice ao n.data.length ko :: n.stat.cells).toArray 72 := hN
    have htop5 := rd_sub hN.sub htop4
    have hrd5 := rd_sub hN.sub hrd4
    have hrs5 := rd_sub hN.sub hrs4
    conv => lhs; whnf
    repeat (first | refine go_rd htop5 ?_ | refine go_rd hrd5 ?_ | refine go_rd hrs5 ?_ | refine go_D hD rfl ?_
            conv => lhs; whnf)
    have hm5 := hR.nmap.sub (A' := A5) fun o ho => hN.sub _ _ (s4 _ _ ho)
    refine (hD _).2 ⟨_, hm5, strL_alike ptrV p _, fun A6 hm6 ho6 => ?_⟩
    obtain ⟨B6, O6, hT6, hS6⟩ : StepTo A3 B O t' ⟨kPut p n (copyNodes sk), []⟩ A6 := step_put hR s4 hN (by rfl) b4 hm6 ho6
    have hkeep : ∀ k o, A3.blk k = some o → ¬ O k → A6.blk k = some o := hS6.keep
    have hOld : ∀ k o, W.blk k = some o → ¬ O k := fun k o hk hO => by
      rcases hWd k o hk with rfl | ⟨o', ho'⟩
      · exact hni hO
      · rw [hoff k hO] at ho'; cases ho'
    have hM6 : MWalk strK nodP A W A6 i m E (sk ++ [(p, g, n)]) := hM3.more fun k o hk => by
      have h1 : ∃ o', A3.blk k = some o' := by
        cases h3 : A3.blk k with
        | some o' => exact ⟨o', rfl⟩
        | none => have := hM3.dom k h3; rw [hk] at this; cases this
      obtain ⟨o', h1⟩ := h1
      rw [h1]; exact hkeep k o' h1 (hOld k o hk)
    obtain ⟨oi, hoi⟩ : ∃ o, A3.blk i = some o := by
      cases h3 : A3.blk i with
      | some o' => exact ⟨o', rfl⟩
      | none =>
        obtain ⟨o, ho⟩ := hM3.iex
        have := hM3.dom i h3; rw [ho] at this; cases this
    have hnew : ∀ k, A3.blk k = none → A.blk k = none := hM3.dom1
    have hG6 : CopyI A W i m t' E ⟨A6, B6, O6, sk ++ [(p, g, n)]⟩ := by
      refine ⟨hM6, by rw [copyNodes_snoc]; exact hT6, fun k hk => ?_, fun hk => ?_, ?_, fun k o hk => ?_⟩
      · rcases hS6.own k hk with h1 | h1
        · exact hoff k h1
        · exact hnew k h1
      · rcases hS6.own i hk with h1 | h1
        · exact hni h1
        · rw [hoi] at h1; cases h1
      · cases hb : B6.blk i with
        | none => rfl
        | some o =>
          rcases hS6.new i o hb with h1 | h1
          · rw [hbi] at h1; cases h1
          · rw [hoi] at h1; cases h1
      · rcases hS6.new k o hk with h1 | h1
        · exact hfr k o h1
        · exact hnew k h1
    conv => lhs; whnf
    exact (hD _).2 ⟨(⟨A6, B6, O6, sk ++ [(p, g, n)]⟩ : CG), ⟨hG6, trivial, trivial, rfl⟩, by show E.length - (sk ++ [(p, g, n)]).length < E.length - sk.length; rw [List.length_append, List.length_singleton]; omega, ⟨rfl, rfl, rfl, trivial⟩, trivial⟩
  · have hperm : sk.Perm E := hw.done (fun a b e => by injection e) h.keys hall
    have hTk : TreeAt Ak B0 O0 t T := TreeAt_sub ⟨m, s, E, h⟩ hw.old
    have hdom := hw.dom1
    have hold := hw.old
    conv => lhs; whnf
    refine (hD _).2 ⟨⟨T, B0, O0, t⟩, ⟨rfl, hTk, hok, hlen⟩, fun v A7 hq => ?_⟩
    obtain ⟨s7, hS⟩ : Ak.Sub A7 ∧ Sl (A7.minus Ak) 3 (treeSits T).length v ((treeSits T).flatMap sitC) := hq
    have hsl : (treeSits T).length ≤ 140737488351232 := by
      rw [treeSits, List.length_map, sortI_length, List.length_map]; omega
    have hAs : Aside A7 (A7.minus Ak) O := ⟨minus_sub _ _, fun k o hk hO => by
      obtain ⟨m1, s1', E1, h1⟩ := hT
      obtain ⟨o', ho'⟩ := h1.live k hO
      rw [minus_none _ ho'] at hk; cases hk⟩
    obtain ⟨a7, c7, rfl⟩ := hS.form
    conv => lhs; whnf
    refine (hD _).2 ⟨(⟨⟨copyNodes sk, []⟩, B, O, t'⟩, treeSits T, A7.minus Ak), ⟨_, rfl, TreeAt_sub hT s7, ⟨hS, hsl⟩, hAs⟩, fun v A8 hq => ?_⟩
    obtain ⟨rfl, B8, O8, hT8, hS8⟩ : v = .tuple #[] ∧ StepTo A7 B O t' ⟨copyNodes sk, seatsOf (treeSits T)⟩ A8 := hq
    have hA8 : A.Sub A8 := hS8.stays (hold.trans s7) fun k o hk hO => by rw [hoff k hO] at hk; cases hk
    have hdom7 : ∀ k, A7.blk k = none → A.blk k = none := fun k hk => hdom k (by
      cases h8 : Ak.blk k with
      | none => rfl
      | some o => rw [s7 k o h8] at hk; cases hk)
    have hend : copyS.post ⟨T, B0, O0, t⟩ [.pointer (some ⟨t, 0, none⟩)] A (.pointer (some ⟨t', 0, none⟩)) A8 := by
      refine ⟨hA8, t', B8, O8, E, sk, rfl, hT8, fun k hk => ?_, fun k o hk => ?_, h.nodes, hperm⟩
      · rcases hS8.own k hk with h1 | h1
        · exact hoff k h1
        · exact hdom7 k h1
      · rcases hS8.new k o hk with h1 | h1
        · exact hfr k o h1
        · exact hdom7 k h1
    conv => lhs; whnf
    exact (hD _).2 hend

end
end Go.Proofs.YtinahcnpabjinaaDoor

namespace Go.Proofs.YtinahcnpabjinaaDoor
open Go.Sx Go.RowKit
noncomputable section
open Classical

section
variable {κ α : Type} [BEq κ] [LawfulBEq κ]

theorem kGet_some {q : κ} {x : α} {l : List (κ × α)} (hn : (l.map (·.1)).Nodup) : kGet q l = some x ↔ (q, x) ∈ l :=
  ⟨fun h => kGet_mem (fun _ h => (eq_of_beq h).symm) h, fun h => kGet_of_mem (fun _ => BEq.rfl) (fun _ _ h => (eq_of_beq h).symm) hn h⟩

theorem kGet_perm {l l' : List (κ × α)} (h : l.Perm l') (hn : (l.map (·.1)).Nodup) (q : κ) : kGet q l = kGet q l' := by
  have hn' : (l'.map (·.1)).Nodup := (h.map (·.1)).nodup_iff.1 hn
  cases hk : kGet q l with
  | some x => exact ((kGet_some hn').2 (h.mem_iff.1 ((kGet_some hn).1 hk))).symm
  | none =>
    refine (kGet_not fun hm => ?_).symm
    exact kGet_none BEq.rfl hk ((h.map (·.1)).mem_iff.2 hm)

theorem kGet_fold [DecidableEq κ] (q : κ) : ∀ (l m : List (κ × α)), (l.map (·.1)).Nodup → kGet q (l.foldl (fun m e => kPut e.1 e.2 m) m) = match kGet q l with | some x => some x | none => kGet q m
  | [], m, _ => rfl
  | (r, y) :: l, m, hn => by
    rw [List.map_cons, List.nodup_cons] at hn
    rw [List.foldl_cons, kGet_fold q l _ hn.2, kGet_put]
    by_cases e : q = r
    · subst e
      simp only [kGet, BEq.rfl, cond_true, if_true]
      rw [kGet_not hn.1]
    · have hb : (q == r) = false := by simpa using e
      simp only [kGet, hb, cond_false, if_neg e]

theorem keys_perm {l l' : List (κ × α)} (h : ∀ q, kGet q l = kGet q l') (hn : (l.map (·.1)).Nodup) (hn' : (l'.map (·.1)).Nodup) : (l.map (·.1)).Perm (l'.map (·.1)) :=
  (List.perm_ext_iff_of_nodup hn hn').2 fun q => by rw [← kGet_iff, ← kGet_iff, h q]

end

/-! ### Alike: the same is told -/

theorem paths_same {T U : TreeD} (h : TEq T U) (hT : ND T) (hU : ND U) : treePaths T = treePaths U := by
  have hp := (keys_perm h.1 hT.1 hU.1).map pathL
  rw [List.map_map, List.map_map] at hp
  exact mergeSort_of_perm hp

theorem told_same {T U : TreeD} (h : TEq T U) (hT : ND T) (hU : ND U) (p : ByteArray) : toldOf T p = toldOf U p := by
  have hk : kidsN T p = kidsN U p := (keys_perm h.1 hT.1 hU.1).countP_eq _
  unfold toldOf
  rw [h.1 p, hk]

theorem TEq.same {T U : TreeD} (h : TEq T U) (hT : ND T) (hU : ND U) : TSame T U := by
  constructor
  · rw [treeAll, treeAll, paths_same h hT hU]
    exact List.map_congr_left fun x _ => told_same h hT hU _
  · have hs : sitOf T.seats = sitOf U.seats := by
      funext s
      unfold sitOf
      rw [h.2 s]
    rw [treeSits, treeSits, hs, sortI_of_perm (keys_perm h.2 hT.2 hU.2)]

theorem TreeAt.nd {A B : Arena} {O : Nat → Prop} {t : Nat} {T : TreeD} (h : TreeAt A B O t T) : ND T := by
  obtain ⟨m, s, E, h⟩ := h
  exact ⟨by rw [h.nodes, kMap_keys]; exact h.keys, h.skeys⟩

/-! ### What deeds keep -/

structure TOk (T : TreeD) : Prop where
  nd : ND T
  ses : ∀ s x, kGet s T.seats = some x → x.ses = s ∧ 1 ≤ s
  root : kGet rootS T.nodes ≠ none

theorem TOk.seatsOk {T : TreeD} (h : TOk T) : SeatsOk T := fun e he => (h.ses e.1 e.2 ((kGet_some h.nd.2).2 he)).1

theorem tok_new : TOk treeNew := ⟨⟨by simp [treeNew], by simp [treeNew]⟩, fun s x h => by simp [treeNew, kGet] at h, by simp [treeNew, kGet]⟩

theorem chg_root {h : DeedH} (hf : h.kind = 1 ∨ h.kind = 2 → h.path.data.toList ≠ [47]) (z time : Int) {o : Option NodeD} (ho : o ≠ none) : chgF h z time rootS o ≠ none := by
  have hm : ∀ {o : Option NodeD}, o ≠ none → markF h z rootS o ≠ none := fun {o} ho => by
    unfold markF
    split
    · cases o with
      | none => exact absurd rfl ho
      | some x => simp
    · exact ho
  unfold chgF
  split
  · split
    · cases o with
      | none => exact absurd rfl ho
      | some x => simp
    · exact ho
  · split
    · refine hm ?_
      split
      · simp
      · exact ho
    · split
      · rename_i h2
        refine hm ?_
        rw [if_neg fun e => hf (.inr h2) (by rw [← e]; rfl)]
        exact ho
      · exact hm ho

theorem fits_root {h : DeedH} {np : Nat} (hf : FitsD h np) : h.kind = 1 ∨ h.kind = 2 → h.path.data.toList ≠ [47] := by
  obtain ⟨_, _, _, _, _, _, _, _, _, _, _, _, _, _, _, h9, _⟩ := hf
  exact h9

theorem parts_root (z time : Int) : ∀ (ps : List DeedD), (∀ p ∈ ps, FitsD p.h p.parts.length) → ∀ {o : Option NodeD}, o ≠ none → partsF ps z time rootS o ≠ none
  | [], _, o, ho => ho
  | p :: ps, hp, o, ho => parts_root z time ps (fun q hq => hp q (List.mem_cons_of_mem _ hq)) (chg_root (fits_root (hp p (by simp))) z time ho)

theorem TOk.apply {T : TreeD} (h : TOk T) (d : DeedD) : TOk (treeApply T d) := by
  obtain ⟨k0, k1, k2⟩ := apply_all h.nd d
  refine ⟨k0, fun s x hx => ?_, ?_⟩
  · rw [k2] at hx
    by_cases hr : RightD d
    · rw [if_pos hr] at hx
      have hz : 1 ≤ d.h.zxid := hr.1
      have key : ∀ o : Option SitD, (∀ y, o = some y → y.ses = s ∧ 1 ≤ s) → touchF d s o = some x → x.ses = s ∧ 1 ≤ s := fun o ho hx => by
        unfold touchF at hx
        split at hx
        · cases o with
          | none => cases hx
          | some y =>
            injection hx with hx
            subst hx
            exact ho y rfl
        · exact ho x hx
      refine key _ (fun y hy => ?_) hx
      split at hy
      · split at hy
        · rename_i e
          injection hy with hy
          subst hy
          rw [e]; exact ⟨rfl, hz⟩
        · exact h.ses s y hy
      · split at hy
        · split at hy
          · cases hy
          · exact h.ses s y hy
        · exact h.ses s y hy
    · rw [if_neg hr] at hx
      exact h.ses s x hx
  · rw [k1]
    by_cases hr : RightD d
    · rw [if_pos hr]
      unfold doF
      split
      · exact chg_root (fits_root hr.2.2.2.2.2.2.1) _ _ h.root
      · split
        · rename_i h58
          refine parts_root _ _ _ (fun p hp => ?_) h.root
          rcases h58 with h5 | h8
          · exact ((hr.2.2.2.2.2.2.2.1 h5).2.2 p hp).2.2.2.2.2.1
          · exact ((hr.2.2.2.2.2.2.2.2.2 h8).2.2 p hp).2.2.2.2.2.1
        · exact h.root
    · rw [if_neg hr]; exact h.root

theorem kDel_len {κ α : Type} [BEq κ] [LawfulBEq κ] (p : κ) (l : List (κ × α)) : (kDel p l).length ≤ l.length := (kDel_sub p l).length_le

theorem parts_seats (z time : Int) : ∀ (ps : List DeedD) (T : TreeD), (treeParts T ps z time).seats = T.seats
  | [], _ => rfl
  | p :: ps, T => (parts_seats z time ps _).trans (change_seats T p.h z time)

theorem apply_slen (T : TreeD) (d : DeedD) : (treeApply T d).seats.length ≤ T.seats.length + 2 := by
  have h1 : (treeDo T d).seats.length ≤ T.seats.length + 1 := by
    unfold treeDo
    split
    · rw [change_seats]; omega
    · split
      · exact kPut_len _ _ _
      · split
        · rw [parts_seats]
          have := kDel_len d.h.owner T.seats
          show (kDel d.h.owner T.seats).length ≤ _
          omega
        · split
          · rw [parts_seats]; omega
          · omega
  unfold treeApply
  split
  · unfold treeTouch
    split
    · have := kPut_len d.h.ses ⟨‹SitD›.ses, ‹SitD›.tmo, max ‹SitD›.turn d.h.turn⟩ (treeDo T d).seats
      show (kPut _ _ (treeDo T d).seats).length ≤ _
      omega
    · omega
  · omega

/-! ### Copies -/

theorem copy_eq {T : TreeD} (h : TOk T) {E sk : List (ByteArray × Nat × NodeD)} (hE : T.nodes = kMap (·.2) E) (hp : sk.Perm E) : TEq T ⟨copyNodes sk, seatsOf (treeSits T)⟩ := by
  constructor
  · intro q
    have h1 : copyNodes sk = (kMap (·.2) sk).foldl (fun m e => kPut e.1 e.2 m) treeNew.nodes := by
      unfold copyNodes kMap
      rw [List.foldl_map]
    have hpm : T.nodes.Perm (kMap (·.2) sk) := by
      rw [hE]
      exact (hp.map _).symm
    have hn : ((kMap (·.2) sk).map (·.1)).Nodup := (hpm.map (·.1)).nodup_iff.1 h.nd.1
    show kGet q T.nodes = kGet q (copyNodes sk)
    rw [h1, kGet_fold q _ _ hn, ← kGet_perm hpm h.nd.1 q]
    cases hk : kGet q T.nodes with
    | some x => rfl
    | none =>
      by_cases e : q = rootS
      · subst e; exact absurd hk h.root
      · have hb : (q == rootS) = false := by simpa using e
        simp [treeNew, kGet, hb]
  · intro s
    have hpos : ∀ x ∈ treeSits T, 1 ≤ x.ses ∧ kGet x.ses T.seats = some x := fun x hx => by
      obtain ⟨k, hk, rfl⟩ := List.mem_map.1 hx
      have hk := (sortI_perm _).mem_iff.1 hk
      obtain ⟨e, he, rfl⟩ := List.mem_map.1 hk
      have hg := (kGet_some h.nd.2).2 (show (e.1, e.2) ∈ T.seats from he)
      have hs := h.ses _ _ hg
      have hso : sitOf T.seats e.1 = e.2 := sitOf_mem h.nd.2 h.seatsOk he
      rw [hso, hs.1]
      exact ⟨hs.2, hg⟩
    have h1 : ∀ (l : List SitD) (m : List (Int × SitD)), (∀ x ∈ l, 1 ≤ x.ses) → l.foldl seatOne m = (l.map fun x => (x.ses, x)).foldl (fun m e => kPut e.1 e.2 m) m := fun l => by
      induction l with
      | nil => exact fun m _ => rfl
      | cons x l ih =>
        intro m hl
        rw [List.foldl_cons, List.map_cons, List.foldl_cons, ih _ fun y hy => hl y (List.mem_cons_of_mem _ hy)]
        have := hl x (by simp)
        rw [seatOne, if_neg (by omega)]
    have hkeys : ((treeSits T).map fun x => (x.ses, x)).map (·.1) = sortI (T.seats.map (·.1)) := by
      rw [List.map_map, treeSits, List.map_map]
      refine (List.map_congr_left fun k _ => ?_).trans (List.map_id _)
      exact sitOf_ses _ _
    have hn : (((treeSits T).map fun x => (x.ses, x)).map (·.1)).Nodup := by
      rw [hkeys]
      exact (sortI_perm _).nodup_iff.2 h.nd.2
    show kGet s T.seats = kGet s (seatsOf (treeSits T))
    unfold seatsOf
    rw [h1 _ _ fun x hx => (hpos x hx).1, kGet_fold s _ _ hn]
    cases hk : kGet s T.seats with
    | some x =>
      have hx : (s, x) ∈ (treeSits T).map fun x => (x.ses, x) := by
        have hm := (kGet_some h.nd.2).1 hk
        refine List.mem_map.2 ⟨x, List.mem_map.2 ⟨s, (sortI_perm _).mem_iff.2 (List.mem_map.2 ⟨_, hm, rfl⟩), sitOf_mem h.nd.2 h.seatsOk hm⟩, ?_⟩
        rw [(h.ses s x hk).1]
      rw [(kGet_some hn).2 hx]
    | none =>
      rw [kGet_not (l := (treeSits T).map fun x => (x.ses, x)) fun hm => ?_]
      · rfl
      · rw [hkeys] at hm
        exact kGet_none (by simp) hk ((sortI_perm _).mem_iff.1 hm)

end
end Go.Proofs.YtinahcnpabjinaaDoor

namespace Go.Proofs.YtinahcnpabjinaaDoor
open Go.Sx Go.RowKit
noncomputable section
open Classical

/-- A closed run that gives true changes nothing that lay. -/
theorem fok_closed {P : Program} (hm : P.follows .mixedOrders = true) {C : FuncId → Option CT} (hC : CTSound P C) {Λ : LTab} (hΛ : LTSound P Λ) {n : Nat} {f : FuncId} (hk : ∀ w : World, sxTop P C Λ n f [] ⟨.e, 0, memOf w⟩ (fun r _ => isT r) = true) :
    FOk P f ⟨Unit, fun _ vs _ => vs = [], fun _ _ A v A' => A' = A ∧ v = .bool true⟩ := by
  intro _ vs A w hA hvs
  simp only at hvs
  subst hvs
  have R : HRel (fun _ => ⟨0, 0, 0⟩) ⟨.e, 0, memOf w⟩ w := by
    refine ⟨rfl, rfl, rfl, fun k o hk => hk, fun b B hb => ?_, fun b b' B B' hb => ?_, fun b B hb => ?_, fun k o hk => (by cases hk), fun b B hb => ?_, fun k o hk => (by cases hk)⟩ <;> (rw [T.get_e] at hb; cases hb)
  refine (sxTop_sound hm hC hΛ n f [] _ _ (hk w) _ w R (fun x hx => by cases hx)).mono (fun v w' ⟨z, h', ρ', hz, hv, hl, R', _, _, hle⟩ => ?_) fun _ _ h => h
  have old : ∀ k o, w.heap[k]? = some o → w'.heap[k]? = some o := fun k o hk => R'.mem k o (hle.1 k o hk)
  refine ⟨A, ⟨rfl, ?_⟩, R'.os.trans hle.2.1, R'.out.trans hle.2.2.1, R'.tape.trans hle.2.2.2, fun k hk hlt => ?_, fun k o hk => old k o (hA k o hk), fun k o ho => .inl ⟨o, ho⟩⟩
  · rw [hv]
    cases z with
    | v x => cases x with
      | bool b => simp only [isT] at hz; subst hz; rfl
      | _ => simp [isT] at hz
    | _ => simp [isT] at hz
  · have h0 : w.heap[k]? = some w.heap[k] := Array.getElem?_eq_getElem hlt
    rw [old k _ h0, h0]

theorem awake_run (w : World) : sxTop Tryd.prog C0 noL 400 5 [] ⟨.e, 0, memOf w⟩ (fun r _ => isT r) = true := by kernel_rfl

def awakeS : FSpec := ⟨Unit, fun _ vs _ => vs = [], fun _ _ A v A' => A' = A ∧ v = .bool true⟩

theorem awake_ok : FOk Tryd.prog 5 awakeS := fok_closed mixed C0_sound (noL_sound _) awake_run

end
end Go.Proofs.YtinahcnpabjinaaDoor

namespace Go.Proofs.YtinahcnpabjinaaDoor
open Go.Sx Go.RowKit
noncomputable section
open Classical

/-- A closed run that gives true, where some blocks are known. -/
theorem fok_closedG {P : Program} (hm : P.follows .mixedOrders = true) {C : FuncId → Option CT} (hC : CTSound P C) {Λ : LTab} (hΛ : LTSound P Λ) {n : Nat} {f : FuncId} {gl : List (Nat × List Value)} {Q : Arena → Prop}
    (hQ : ∀ (A : Arena) (w : World), (∀ k o, A.blk k = some o → w.heap[k]? = some o) → Q A → ∀ g cs, (g, cs) ∈ gl → ∃ c t fz, w.heap[g]? = some (.cells c t fz) ∧ ∀ (i : Nat) v, cs[i]? = some v → c[i]? = some v)
    (hk : ∀ (w : World) (hg : ∀ g cs, (g, cs) ∈ gl → ∃ c t fz, w.heap[g]? = some (.cells c t fz) ∧ ∀ (i : Nat) v, cs[i]? = some v → c[i]? = some v), sxTop P C Λ n f [] ⟨.e, 0, memG w gl hg⟩ (fun r _ => isT r) = true) :
    FOk P f ⟨Unit, fun _ vs A => vs = [] ∧ Q A, fun _ _ A v A' => A' = A ∧ v = .bool true⟩ := by
  intro _ vs A w hA hvs
  obtain ⟨rfl, hq⟩ : vs = [] ∧ Q A := hvs
  have hg := hQ A w hA hq
  have R : HRel (fun _ => ⟨0, 0, 0⟩) ⟨.e, 0, memG w gl hg⟩ w := by
    refine ⟨rfl, rfl, rfl, fun k o hk => hk, fun b B hb => ?_, fun b b' B B' hb => ?_, fun b B hb => ?_, fun k o hk => (by cases hk), fun b B hb => ?_, fun k o hk => (by cases hk)⟩ <;> (rw [T.get_e] at hb; cases hb)
  refine (sxTop_sound hm hC hΛ n f [] _ _ (hk w hg) _ w R (fun x hx => by cases hx)).mono (fun v w' ⟨z, h', ρ', hz, hv, hl, R', _, _, hle⟩ => ?_) fun _ _ h => h
  have old : ∀ k o, w.heap[k]? = some o → w'.heap[k]? = some o := fun k o hk => R'.mem k o (hle.1 k o hk)
  refine ⟨A, ⟨rfl, ?_⟩, R'.os.trans hle.2.1, R'.out.trans hle.2.2.1, R'.tape.trans hle.2.2.2, fun k hk hlt => ?_, fun k o hk => old k o (hA k o hk), fun k o ho => .inl ⟨o, ho⟩⟩
  · rw [hv]
    cases z with
    | v x => cases x with
      | bool b => simp only [isT] at hz; subst hz; rfl
      | _ => simp [isT] at hz
    | _ => simp [isT] at hz
  · have h0 : w.heap[k]? = some w.heap[k] := Array.getElem?_eq_getElem hlt
    rw [old k _ h0, h0]

def hasG : List (Nat × List Value) := [((0 : Nat), [.int .i64 0, .int .i64 23, .int .i64 17, .int .i64 11, .int .i64 32, .int .i64 260, .int .i64 0, .int .i64 128, .int .i64 256, .int .i64 64])]

theorem hasG_of (A : Arena) (w : World) (hA : ∀ k o, A.blk k = some o → w.heap[k]? = some o) (h : HasA A) : ∀ g cs, (g, cs) ∈ hasG → ∃ c t fz, w.heap[g]? = some (.cells c t fz) ∧ ∀ (i : Nat) v, cs[i]? = some v → c[i]? = some v := fun g cs hm => by
  simp only [hasG, List.mem_singleton, Prod.mk.injEq] at hm
  obtain ⟨rfl, rfl⟩ := hm
  unfold HasA at h
  rw [A.rdeq] at h
  unfold rdOf at h
  split at h
  · rename_i c t fz hb
    split at h
    · injection h with h
      refine ⟨c, t, fz, hA _ _ hb, fun i v hv => ?_⟩
      have h2 : [Value.int .i64 0, .int .i64 23, .int .i64 17, .int .i64 11, .int .i64 32, .int .i64 260, .int .i64 0, .int .i64 128, .int .i64 256, .int .i64 64] = (c.toList.drop 0).take 10 := h.symm
      rw [h2, List.drop_zero, List.getElem?_take] at hv
      split at hv
      · rw [← Array.getElem?_toList]; exact hv
      · cases hv
    · cases h
  · cases h

set_option maxRecDepth 100000 in
theorem awake11_run (w : World) (hg : ∀ g cs, (g, cs) ∈ hasG → ∃ c t fz, w.heap[g]? = some (.cells c t fz) ∧ ∀ (i : Nat) v, cs[i]? = some v → c[i]? = some v) : sxTop Tryd.prog C0 noL 400 14 [] ⟨.e, 0, memG w hasG hg⟩ (fun r _ => isT r) = true := by kernel_rfl

def awake11S : FSpec := ⟨Unit, fun _ vs A => vs = [] ∧ HasA A, fun _ _ A v A' => A' = A ∧ v = .bool true⟩

theorem awake11_ok : FOk Tryd.prog 14 awake11S := fok_closedG mixed C0_sound (noL_sound _) hasG_of awake11_run

def greatS : FSpec := ⟨DeedD × Arena, fun g vs _ => ∃ cs, vs = [deedV cs] ∧ DeedR g.2 g.1 cs, fun g _ A v A' => A' = A ∧ v = .bool (decide ((60 : Int) < g.1.parts.length))⟩

set_option maxRecDepth 100000 in
set_option maxHeartbeats 0 in
theorem great_ok : FOk Tryd.prog 15 greatS := by
  refine fok_v mixed fun ⟨d, C⟩ vs A hp => ?_
  obtain ⟨cs, rfl, hR⟩ : ∃ cs, vs = [deedV cs] ∧ DeedR C d cs := hp
  obtain ⟨⟨zxid, kind, ses, turn, xid, dtime, path, data, owner, ver, cver, tmo, err, cfg, mem⟩, parts⟩ := d
  rw [DeedR] at hR
  dsimp only [DeedH.cells] at hR
  obtain ⟨vd, vm, vp, rws, rfl, -, hd1, hM, hSp, hlen2, hRows⟩ := hR
  obtain ⟨a7, k7, rfl⟩ := hd1.1.form
  obtain ⟨a14, k14, rfl⟩ := hM.1.form
  obtain ⟨a15, k15, rfl⟩ := hSp.form
  refine ⟨noC, noL, 60, noC_sound _, noL_sound _, fun blk os out tape D hD => ?_⟩
  conv => lhs; whnf
  exact (hD _).2 ⟨rfl, rfl⟩

end
end Go.Proofs.YtinahcnpabjinaaDoor
