/-
  Contracts: a tree does a create, a delete, a set.
-/
import Derived.Test.YtbebacffaljckaaGreatDoorG11
namespace Go.Proofs.YtbebacffaljckaaGreatDoor
open Go.Sx Go.RowKit
noncomputable section
open Classical

def nodeSet (h : DeedH) (z time : Int) (n : NodeD) : NodeD := ⟨h.data, { n.stat with mzxid := z, mtime := time, ver := h.ver }⟩
def nodeNew (h : DeedH) (z time : Int) : NodeD := ⟨h.data, ⟨z, z, z, time, time, 0, 0, h.owner, 0, 0⟩⟩

def treeChange (T : TreeD) (h : DeedH) (z time : Int) : TreeD :=
  if h.kind = 3 then ⟨kMod h.path (nodeSet h z time) T.nodes, T.seats⟩
  else if h.kind = 1 then treeMark ⟨kPut h.path (nodeNew h z time) T.nodes, T.seats⟩ h.path z h.cver
  else if h.kind = 2 then treeMark ⟨kDel h.path T.nodes, T.seats⟩ h.path z h.cver
  else treeMark T h.path z h.cver

/-- Memory that the tree does not own. -/
def Aside (A C : Arena) (O : Nat → Prop) : Prop := C.Sub A ∧ ∀ k o, C.blk k = some o → ¬ O k

theorem Aside.step {A B A' B' C : Arena} {O O' : Nat → Prop} (h : Aside A C O) (s : Step A B O A' B' O') : Aside A' C O' :=
  ⟨s.stays h.1 h.2, fun k o hk hO => by
    rcases s.own k hO with h1 | h1
    · exact h.2 k o hk h1
    · rw [h.1 k o hk] at h1; cases h1⟩

def changeS : FSpec := ⟨TG × DeedD × Arena × Int × Int, fun g vs A => ∃ cs, vs = [.pointer (some ⟨g.1.t, 0, none⟩), deedV cs, .int .i64 g.2.2.2.1, .int .i64 g.2.2.2.2] ∧ TreeAt A g.1.B g.1.O g.1.t g.1.T ∧ DeedR g.2.2.1 g.2.1 cs ∧ Aside A g.2.2.1 g.1.O,
  fun g _ A _ A' => StepTo A g.1.B g.1.O g.1.t (treeChange g.1.T g.2.1.h g.2.2.2.1 g.2.2.2.2) A'⟩

/-- A node is turned, and gets what is new. -/
theorem step_mod {A B A1 A2 : Arena} {O : Nat → Prop} {t : Nat} {T : TreeD} {m s : Nat} {E : List (ByteArray × Nat × NodeD)} (h : TreeR A B O t T m s E) {p : ByteArray} {g : Nat} {n : NodeD} {f : NodeD → NodeD} (hp : kGet p E = some (g, n))
    (s1 : A.Sub A1) (hother : ∀ k, k ≠ g → A2.blk k = A1.blk k) (hdom : ∀ k, A2.blk k = none ↔ A1.blk k = none) (hn : NodeAt A2 (A1.minus A) g (f n)) : StepTo A B O t ⟨kMod p f T.nodes, T.seats⟩ A2 := by
  have hmem := kGet_mem (bytes_key _) hp
  have hOg := h.own.2.2.2 _ hmem
  have hgA : ∃ o, A.blk g = some o := by
    obtain ⟨v, hc, _⟩ := h.cells _ hmem
    exact hc.dom
  have hne : ∀ k o, (A1.minus A).blk k = some o → k ≠ g := fun k o hk e => by
    subst e
    obtain ⟨o', ho'⟩ := hgA
    rw [minus_none _ ho'] at hk; cases hk
  have hBA : B.Sub A2 := fun k o hk => by
    rw [hother k fun e => by subst e; rw [h.off _ hOg] at hk; cases hk]
    exact s1 _ _ (h.sub k o hk)
  have hsub : (B.plus (A1.minus A)).Sub A2 := fun k o hk => by
    rcases plus_cases hk with hk | ⟨_, hk⟩
    · exact hBA k o hk
    · rw [hother k (hne k o hk)]; exact (minus_blk hk).2
  have hoff : ∀ k, O k → (B.plus (A1.minus A)).blk k = none := fun k hO => by
    rw [plus_blk, h.off k hO]
    obtain ⟨o, ho⟩ := h.live k hO
    exact minus_none _ ho
  have hR := h.mod (n' := f n) hp (A' := A2) (B' := B.plus (A1.minus A)) (fun k hO hk => by
    rw [hother k hk]
    obtain ⟨o, ho⟩ := h.live k hO
    rw [ho, s1 _ _ ho]) (by obtain ⟨v, h1, h2⟩ := hn; exact ⟨v, h1, h2.sub (plus_r (minus_apart h.sub))⟩) (plus_l _ _) hsub hoff
  have e : kMod p (fun _ => f n) T.nodes = kMod p f T.nodes := kMod_at (by rw [h.get, hp]; rfl)
  rw [e] at hR
  refine ⟨_, O, ⟨m, s, _, hR⟩, ⟨fun k o hk hO => ?_, fun k hk => ?_, fun k hk => .inl hk, plus_l _ _, fun k o hk => ?_⟩⟩
  · rw [hother k fun e => hO (e ▸ hOg)]; exact s1 _ _ hk
  · cases hA : A.blk k with
    | none => rfl
    | some o => have h1 := (hdom k).1 hk; rw [s1 _ _ hA] at h1; cases h1
  · rcases plus_cases hk with hk | ⟨_, hk⟩
    · exact .inl hk
    · exact .inr (minus_blk hk).1

/-- A node is laid, with what is new. -/
theorem step_put {A B A1 A2 A3 : Arena} {O : Nat → Prop} {t : Nat} {T : TreeD} {m s : Nat} {E : List (ByteArray × Nat × NodeD)} (h : TreeR A B O t T m s E) {p : ByteArray} {g : Nat} {n : NodeD} {c : Array Value} {ty : TypeId} {v : Value}
    (s1 : A.Sub A1) (hN : A1.New A2 g c ty) (hc : c.toList = v :: n.stat.cells) (hv : SlB (A1.minus A) v n.data)
    (hm : MapAt A3 m (putL (.string p) (ptrV g) (strL ptrV (kMap (·.1) E)))) (hother : ∀ k, k ≠ m → A3.blk k = A2.blk k) : StepTo A B O t ⟨kPut p n T.nodes, T.seats⟩ A3 := by
  have hgA : A.blk g = none := by
    cases hA : A.blk g with
    | none => rfl
    | some o => have := s1 _ _ hA; rw [hN.none_] at this; cases this
  have hm0 : ∃ o, A.blk m = some o := h.live m h.own.2.1
  have hmg : m ≠ g := fun e => by
    obtain ⟨o, ho⟩ := hm0
    rw [e, hgA] at ho; cases ho
  have keep : ∀ k o, A.blk k = some o → k ≠ m → A3.blk k = some o := fun k o hk hne => by
    rw [hother k hne]; exact hN.sub k o (s1 k o hk)
  have hg3 : A3.blk g = A2.blk g := hother g (Ne.symm hmg)
  have hnew : ∀ k o, (A1.minus A).blk k = some o → k ≠ m ∧ k ≠ g := fun k o hk => by
    obtain ⟨h1, h2⟩ := minus_blk hk
    refine ⟨fun e => ?_, fun e => ?_⟩
    · obtain ⟨o', ho'⟩ := hm0
      rw [e, ho'] at h1; cases h1
    · rw [e, hN.none_] at h2; cases h2
  have hBm : ∀ k o, B.blk k = some o → k ≠ m := fun k o hk e => by
    subst e; rw [h.off _ h.own.2.1] at hk; cases hk
  have hsub : (B.plus (A1.minus A)).Sub A3 := fun k o hk => by
    rcases plus_cases hk with hk | ⟨_, hk⟩
    · exact keep k o (h.sub k o hk) (hBm k o hk)
    · rw [hother k (hnew k o hk).1]; exact hN.sub k o (minus_blk hk).2
  have hoff : ∀ k, O k ∨ k = g → (B.plus (A1.minus A)).blk k = none := fun k hk => by
    cases hb : (B.plus (A1.minus A)).blk k with
    | none => rfl
    | some o =>
      rcases plus_cases hb with hb | ⟨_, hb⟩
      · rcases hk with hk | rfl
        · rw [h.off k hk] at hb; cases hb
        · have := h.sub k o hb; rw [hgA] at this; cases this
      · rcases hk with hk | rfl
        · obtain ⟨o', ho'⟩ := h.live k hk
          rw [minus_none _ ho'] at hb; cases hb
        · exact absurd rfl (hnew k o hb).2
  have hR := h.put (p := p) (g := g) (n := n) (A' := A3) (B' := B.plus (A1.minus A)) hgA (fun k hO hk => by
    obtain ⟨o, ho⟩ := h.live k hO
    rw [ho, keep k o ho hk]) hm ⟨v, ⟨c, ty, (0, 0), by rw [hg3]; exact hN.at_, .inl rfl, hc⟩, hv.sub (plus_r (minus_apart h.sub))⟩ (plus_l _ _) hsub hoff
  refine ⟨_, _, ⟨m, s, _, hR⟩, ⟨fun k o hk hO => keep k o hk fun e => hO (e ▸ h.own.2.1), fun k hk => ?_, fun k hk => ?_, plus_l _ _, fun k o hk => ?_⟩⟩
  · cases hA : A.blk k with
    | none => rfl
    | some o =>
      by_cases e : k = m
      · obtain ⟨es, cl, h1, _⟩ := hm
        rw [e, h1] at hk; cases hk
      · rw [keep k o hA e] at hk; cases hk
  · rcases hk with hk | rfl
    · exact .inl hk
    · exact .inr hgA
  · rcases plus_cases hk with hk | ⟨_, hk⟩
    · exact .inl hk
    · exact .inr (minus_blk hk).1

theorem StepTo.trans {A B A1 A2 B1 : Arena} {O O1 : Nat → Prop} {t : Nat} {T : TreeD} (h : Step A B O A1 B1 O1) (k : StepTo A1 B1 O1 t T A2) : StepTo A B O t T A2 := by
  obtain ⟨B2, O2, h1, h2⟩ := k
  exact ⟨B2, O2, h1, h.trans h2⟩

def alNode : TypeId → Bool := fun t => Nat.beq t 62

set_option maxRecDepth 100000 in
set_option maxHeartbeats 0 in
theorem change_ok : FOk Tryz.prog 23 changeS := by
  refine fok_a mixed alNode fun ⟨⟨T, B, O, t⟩, d, C, z, time⟩ vs A hp => ?_
  obtain ⟨cs, rfl, hT, hR, hC⟩ : ∃ cs, vs = [.pointer (some ⟨t, 0, none⟩), deedV cs, .int .i64 z, .int .i64 time] ∧ TreeAt A B O t T ∧ DeedR C d cs ∧ Aside A C O := hp
  have hCt : CTSound Tryz.prog (lookC [specE 47 markS, specE 30 cloneBytesS] noC) := lookC_sound (noC_sound _) (fun x hx => by
    simp only [List.mem_cons, List.not_mem_nil, or_false] at hx
    rcases hx with rfl | rfl
    · exact specE_ok mark_ok
    · exact specE_ok cloneBytes_ok)
  obtain ⟨⟨zxid, kind, ses, turn, xid, dtime, path, data, owner, ver, cver, tmo, err, cfg, mem⟩, parts⟩ := d
  rw [DeedR] at hR
  dsimp only [DeedH.cells] at hR
  obtain ⟨vd, vm, vp, rows, rfl, -, hd, ⟨⟨a14, k14, rfl, -⟩, -⟩, ⟨a15, k15, rfl, -⟩, -⟩ := hR
  obtain ⟨a7, k7, rfl⟩ := hd.1.form
  refine ⟨_, noL, 60, hCt, noL_sound _, fun blk os out tape D hD => ?_⟩
  obtain ⟨m, s, E, h⟩ := hT
  have htop : A.rd t 0 1 = some [.map (some m)] := h.top.rd (o := 0) (n := 1) (by show 0 + 1 ≤ 2; omega)
  conv => lhs; whnf
  refine split_dec (fun h3 => ?_) (fun h3 => ?_) <;> (conv => lhs; whnf)
  · subst h3
    refine go_rd htop ?_
    conv => lhs; whnf
    refine go_lk (h.look path) ?_
    cases hp : kGet path E with
    | none =>
      conv => lhs; whnf
      have hend : StepTo A B O t (treeChange T ⟨zxid, 3, ses, turn, xid, dtime, path, data, owner, ver, cver, tmo, err, cfg, mem⟩ z time) A := by
        refine ⟨B, O, ⟨m, s, E, ?_⟩, Step.refl _ _ _⟩
        rw [treeChange, if_pos rfl, kMod_none (by rw [h.get, hp]; rfl)]
        exact h
      exact (hD _).2 hend
    | some x =>
      obtain ⟨g, n⟩ := x
      have hmem := kGet_mem (bytes_key _) hp
      obtain ⟨w, hc, hs⟩ := h.cells _ hmem
      have hc : CellsAt A g (w :: n.stat.cells) := hc
      conv => lhs; whnf
      refine (hD _).2 ⟨data, ⟨_, rfl, hd.sub hC.1⟩, fun v A1 hq => ?_⟩
      obtain ⟨s1, b1⟩ : A.Sub A1 ∧ SlB (A1.minus A) v data := hq
      obtain ⟨ao, ko, rfl⟩ := b1.1.form
      have hc0 := hc.sub (s1 g)
      conv => lhs; whnf
      refine (hD _).2 ⟨hc0.room (o := 0) (n := 1) (by show 0 + 1 ≤ 11; omega), fun A2 hP2 => ?_⟩
      have hP2 : A1.Put A2 g 0 [.slice ao data.length ko] := hP2
      have hc2 : CellsAt A2 g (.slice ao data.length ko :: n.stat.cells) := hc0.put hP2 (by show 0 + 1 ≤ 11; omega)
      conv => lhs; whnf
      refine (hD _).2 ⟨hc2.room (o := 2) (n := 1) (by show 2 + 1 ≤ 11; omega), fun A3 hP3 => ?_⟩
      have hP3 : A2.Put A3 g 2 [.int .i64 z] := hP3
      have hc3 : CellsAt A3 g (.slice ao data.length ko :: ({ n.stat with mzxid := z } : StatD).cells) := hc2.put hP3 (by show 2 + 1 ≤ 11; omega)
      conv => lhs; whnf
      repeat (refine go_D hD rfl ?_; conv => lhs; whnf)
      refine (hD _).2 ⟨hc3.room (o := 5) (n := 1) (by show 5 + 1 ≤ 11; omega), fun A4 hP4 => ?_⟩
      have hP4 : A3.Put A4 g 5 [.int .i64 time] := hP4
      have hc4 : CellsAt A4 g (.slice ao data.length ko :: ({ n.stat with mzxid := z, mtime := time } : StatD).cells) := hc3.put hP4 (by show 5 + 1 ≤ 11; omega)
      conv => lhs; whnf
      repeat (refine go_D hD rfl ?_; conv => lhs; whnf)
      refine (hD _).2 ⟨hc4.room (o := 6) (n := 1) (by show 6 + 1 ≤ 11; omega), fun A5 hP5 => ?_⟩
      have hP5 : A4.Put A5 g 6 [.int .i64 ver] := hP5
      have hc5 : CellsAt A5 g (.slice ao data.length ko :: ({ n.stat with mzxid := z, mtime := time, ver := ver } : StatD).cells) := hc4.put hP5 (by show 6 + 1 ≤ 11; omega)
      conv => lhs; whnf
      have hother : ∀ k, k ≠ g → A5.blk k = A1.blk k := fun k hk => by rw [hP5.other k hk, hP4.other k hk, hP3.other k hk, hP2.other k hk]
      have hdom : ∀ k, A5.blk k = none ↔ A1.blk k = none := fun k => (hP5.dom k).trans ((hP4.dom k).trans ((hP3.dom k).trans (hP2.dom k)))
      have hR : StepTo A B O t ⟨kMod path (nodeSet ⟨zxid, 3, ses, turn, xid, dtime, path, data, owner, ver, cver, tmo, err, cfg, mem⟩ z time) T.nodes, T.seats⟩ A5 :=
        step_mod h hp s1 hother hdom ⟨_, hc5, b1⟩
      have hend : StepTo A B O t (treeChange T ⟨zxid, 3, ses, turn, xid, dtime, path, data, owner, ver, cver, tmo, err, cfg, mem⟩ z time) A5 := by
        rw [treeChange, if_pos rfl]
        exact hR
      exact (hD _).2 hend
  refine split_dec (fun h1 => ?_) (fun h1 => ?_) <;> (conv => lhs; whnf)
  · subst h1
    refine go_rd htop ?_
    conv => lhs; whnf
    refine (hD _).2 ⟨data, ⟨_, rfl, hd.sub hC.1⟩, fun v A1 hq => ?_⟩
    obtain ⟨s1, b1⟩ : A.Sub A1 ∧ SlB (A1.minus A) v data := hq
    obtain ⟨ao, ko, rfl⟩ := b1.1.form
    have htop1 := rd_sub s1 htop
    conv => lhs; whnf
    repeat (first | refine go_rd htop1 ?_ | refine go_D hD rfl ?_
            conv => lhs; whnf)
    refine (hD _).2 fun g A2 hN => ?_
    have htop2 : A2.rd t 0 1 = some [.map (some m)] := rd_sub hN.sub htop1
    conv => lhs; whnf
    repeat (first | refine go_rd htop2 ?_ | refine go_D hD rfl ?_
            conv => lhs; whnf)
    have hN : A1.New A2 g #[.slice ao data.length ko, .int .i64 z, .int .i64 z, .int .i64 z, .int .i64 time, .int .i64 time, .int .i64 0, .int .i64 0, .int .i64 owner, .int .i64 0, .int .i64 0] 62 := hN
    have hm2 := h.nmap.sub (A' := A2) fun o ho => hN.sub _ _ (s1 _ _ ho)
    refine (hD _).2 ⟨_, hm2, strL_alike ptrV path _, fun A3 hm3 ho3 => ?_⟩
    obtain ⟨B3, O3, hT3, hS3⟩ : StepTo A B O t ⟨kPut path (nodeNew ⟨zxid, 1, ses, turn, xid, dtime, path, data, owner, ver, cver, tmo, err, cfg, mem⟩ z time) T.nodes, T.seats⟩ A3 := step_put h s1 hN rfl b1 hm3 ho3
    conv => lhs; whnf
    refine (hD _).2 ⟨(⟨⟨kPut path (nodeNew ⟨zxid, 1, ses, turn, xid, dtime, path, data, owner, ver, cver, tmo, err, cfg, mem⟩ z time) T.nodes, T.seats⟩, B3, O3, t⟩, path, z, cver), ⟨rfl, hT3⟩, fun v A4 hq => ?_⟩
    have hq : StepTo A3 B3 O3 t (treeMark ⟨kPut path (nodeNew ⟨zxid, 1, ses, turn, xid, dtime, path, data, owner, ver, cver, tmo, err, cfg, mem⟩ z time) T.nodes, T.seats⟩ path z cver) A4 := hq
    have hend : StepTo A B O t (treeChange T ⟨zxid, 1, ses, turn, xid, dtime, path, data, owner, ver, cver, tmo, err, cfg, mem⟩ z time) A4 := hq.trans hS3
    conv => lhs; whnf
    exact (hD _).2 hend
  refine split_dec (fun h2 => ?_) (fun h2 => ?_) <;> (conv => lhs; whnf)
  · subst h2
    refine go_rd htop ?_
    conv => lhs; whnf
    refine (hD _).2 ⟨_, h.nmap, strL_alike ptrV path _, fun A1 hm1 ho1 => ?_⟩
    have hR := h.del (p := path) ho1 hm1
    have hS1 : Step A B O A1 B O := ⟨fun k o hk hO => by rw [ho1 k fun e => hO (e ▸ h.own.2.1)]; exact hk, fun k hk => (by
      by_cases e : k = m
      · obtain ⟨es, cl, h9, _⟩ := hm1
        rw [e, h9] at hk; cases hk
      · rw [ho1 k e] at hk; exact hk), fun k hk => .inl hk, Arena.Sub.refl _, fun k o hk => .inl hk⟩
    conv => lhs; whnf
    refine (hD _).2 ⟨(⟨⟨kDel path T.nodes, T.seats⟩, B, O, t⟩, path, z, cver), ⟨rfl, m, s, _, hR⟩, fun v A4 hq => ?_⟩
    have hq : StepTo A1 B O t (treeMark ⟨kDel path T.nodes, T.seats⟩ path z cver) A4 := hq
    have hend : StepTo A B O t (treeChange T ⟨zxid, 2, ses, turn, xid, dtime, path, data, owner, ver, cver, tmo, err, cfg, mem⟩ z time) A4 := hq.trans hS1
    conv => lhs; whnf
    exact (hD _).2 hend
  · refine (hD _).2 ⟨(⟨T, B, O, t⟩, path, z, cver), ⟨rfl, m, s, _, h⟩, fun v A4 hq => ?_⟩
    have hq : StepTo A B O t (treeMark T path z cver) A4 := hq
    have hend : StepTo A B O t (treeChange T ⟨zxid, kind, ses, turn, xid, dtime, path, data, owner, ver, cver, tmo, err, cfg, mem⟩ z time) A4 := by
      rw [treeChange, if_neg h3, if_neg h1, if_neg h2]
      exact hq
    conv => lhs; whnf
    exact (hD _).2 hend

end
end Go.Proofs.YtbebacffaljckaaGreatDoor
