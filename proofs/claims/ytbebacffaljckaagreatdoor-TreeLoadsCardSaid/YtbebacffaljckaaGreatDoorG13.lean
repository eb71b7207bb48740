/-
  Contracts: a tree does a deed.
-/
import Derived.Test.YtbebacffaljckaaGreatDoorG12
namespace Go.Proofs.YtbebacffaljckaaGreatDoor
open Go.Sx Go.RowKit
noncomputable section
open Classical

def treeParts (T : TreeD) (ps : List DeedD) (z time : Int) : TreeD := ps.foldl (fun T p => treeChange T p.h z time) T

/-- The sitting is touched. -/
def treeTouch (T : TreeD) (ses turn : Int) : TreeD := match kGet ses T.seats with
  | some s => ⟨T.nodes, kPut ses ⟨s.ses, s.tmo, max s.turn turn⟩ T.seats⟩
  | none => T

def treeDo (T : TreeD) (d : DeedD) : TreeD :=
  if d.h.kind = 1 ∨ d.h.kind = 2 ∨ d.h.kind = 3 then treeChange T d.h d.h.zxid d.h.time
  else if d.h.kind = 4 then ⟨T.nodes, kPut d.h.zxid ⟨d.h.zxid, d.h.tmo, d.h.turn⟩ T.seats⟩
  else if d.h.kind = 5 then treeParts ⟨T.nodes, kDel d.h.owner T.seats⟩ d.parts d.h.zxid d.h.time
  else if d.h.kind = 8 then treeParts T d.parts d.h.zxid d.h.time
  else T

def treeApply (T : TreeD) (d : DeedD) : TreeD := if RightD d then treeTouch (treeDo T d) d.h.ses d.h.turn else T

def applyS : FSpec := ⟨TG × DeedD × Arena, fun g vs A => ∃ cs, vs = [.pointer (some ⟨g.1.t, 0, none⟩), deedV cs] ∧ TreeAt A g.1.B g.1.O g.1.t g.1.T ∧ DeedR g.2.2 g.2.1 cs ∧ HasA g.2.2 ∧ Aside A g.2.2 g.1.O,
  fun g _ A _ A' => StepTo A g.1.B g.1.O g.1.t (treeApply g.1.T g.2.1) A'⟩

/-- A map of the tree's own is written. -/
theorem step_map {A B A' : Arena} {O : Nat → Prop} {m : Nat} {l : List (Value × Value)} (hO : O m) (ho : ∀ k, k ≠ m → A'.blk k = A.blk k) (hm : MapAt A' m l) : Step A B O A' B O :=
  ⟨fun k o hk hn => by rw [ho k fun e => hn (e ▸ hO)]; exact hk, fun k hk => (by
    by_cases e : k = m
    · obtain ⟨es, cl, h9, _⟩ := hm
      rw [e, h9] at hk; cases hk
    · rw [ho k e] at hk; exact hk), fun k hk => .inl hk, Arena.Sub.refl _, fun k o hk => .inl hk⟩

structure AG where
  k : Nat
  A : Arena
  B : Arena
  O : Nat → Prop
  T : TreeD

def applyInv (A B : Arena) (O : Nat → Prop) (t : Nat) (T0 : TreeD) (parts : List DeedD) (z time : Int) : LInv := { γ := AG, G := fun g => g.k ≤ parts.length ∧ TreeAt g.A g.B g.O t g.T ∧ Step A B O g.A g.B g.O ∧ g.T = treeParts T0 (parts.take g.k) z time, keepS := [0, 3, 55, 56], keepB := [0], sl := fun g => [(57, .v (.int .i64 g.k))], bl := fun _ => [], ar := fun g => g.A, mu := fun g => parts.length - g.k }

set_option maxRecDepth 100000 in
set_option maxHeartbeats 0 in
theorem apply_ok : FOk Tryz.prog 7 applyS := by
  refine fok_v mixed fun ⟨⟨T, B, O, t⟩, d, C⟩ vs A hp => ?_
  obtain ⟨cs, rfl, hT, hR, hH, hC⟩ : ∃ cs, vs = [.pointer (some ⟨t, 0, none⟩), deedV cs] ∧ TreeAt A B O t T ∧ DeedR C d cs ∧ HasA C ∧ Aside A C O := hp
  have hCt : CTSound Tryz.prog (lookC [specE 23 changeS, specE 22 rightS] noC) := lookC_sound (noC_sound _) (fun x hx => by
    simp only [List.mem_cons, List.not_mem_nil, or_false] at hx
    rcases hx with rfl | rfl
    · exact specE_ok change_ok
    · exact specE_ok right_ok)
  obtain ⟨⟨zxid, kind, ses, turn, xid, dtime, path, data, owner, ver, cver, tmo, err, cfg, mem⟩, parts⟩ := d
  have hR0 := hR
  rw [DeedR] at hR
  dsimp only [DeedH.cells] at hR
  obtain ⟨vd, vm, vp, rows, rfl, -, hd, hM, hS, hlen, hRows⟩ := hR
  obtain ⟨a7, k7, rfl⟩ := hd.1.form
  obtain ⟨a14, k14, rfl⟩ := hM.1.form
  obtain ⟨a15, k15, rfl⟩ := hS.form
  refine ⟨_, tabO Tryz.prog _ noL 60 [(7, 5)], 60, hCt, tabO_sound mixed hCt (noL_sound _) _ _, fun blk os out tape D hD => ?_⟩
  obtain ⟨m, s, E, h⟩ := hT
  have htop : A.rd t 0 1 = some [.map (some m)] := h.top.rd (o := 0) (n := 1) (by show 0 + 1 ≤ 2; omega)
  have htop1 : A.rd t 1 1 = some [.map (some s)] := h.top.rd (o := 1) (n := 1) (by show 1 + 1 ≤ 2; omega)
  conv => lhs; whnf
  refine go_rd htop ?_
  conv => lhs; whnf
  refine (hD _).2 ⟨_, ⟨_, rfl, DeedR.sub hC.1 _ _ hR0, hH.sub hC.1⟩, fun v A' hq => ?_⟩
  obtain ⟨rfl, rfl⟩ : A' = A ∧ v = .bool (decide (RightD (.mk ⟨zxid, kind, ses, turn, xid, dtime, path, data, owner, ver, cver, tmo, err, cfg, mem⟩ parts))) := hq
  conv => lhs; whnf
  refine split_nd (fun hr => ?_) (fun hr => ?_) <;> (conv => lhs; whnf)
  rotate_left
  · have hend : StepTo A' B O t (treeApply T (.mk ⟨zxid, kind, ses, turn, xid, dtime, path, data, owner, ver, cver, tmo, err, cfg, mem⟩ parts)) A' := by
      rw [treeApply, if_neg hr]
      exact ⟨B, O, ⟨m, s, E, h⟩, Step.refl _ _ _⟩
    exact (hD _).2 hend
  by_cases h123 : kind = 1 ∨ kind = 2 ∨ kind = 3
  · rcases h123 with rfl | rfl | rfl
    · conv => lhs; whnf
      refine (hD _).2 ⟨(⟨T, B, O, t⟩, .mk ⟨zxid, 1, ses, turn, xid, dtime, path, data, owner, ver, cver, tmo, err, cfg, mem⟩ parts, C, zxid, dtime), ⟨_, rfl, ⟨m, s, E, h⟩, hR0, hC⟩, fun v A1 hq => ?_⟩
      have hmid : StepTo A' B O t (treeChange T ⟨zxid, 1, ses, turn, xid, dtime, path, data, owner, ver, cver, tmo, err, cfg, mem⟩ zxid dtime) A1 := hq
      obtain ⟨T1, hTo⟩ : ∃ T1, T1 = treeDo T (.mk ⟨zxid, 1, ses, turn, xid, dtime, path, data, owner, ver, cver, tmo, err, cfg, mem⟩ parts) := ⟨_, rfl⟩
      have e : treeChange T ⟨zxid, 1, ses, turn, xid, dtime, path, data, owner, ver, cver, tmo, err, cfg, mem⟩ zxid dtime = T1 := by rw [hTo, treeDo, if_pos (by simp [DeedD.h])]; rfl
      rw [e] at hmid
      conv => lhs; whnf
      obtain ⟨B1, O1, ⟨m1, s1, E1, hT1⟩, hS1⟩ := hmid
      have htop9 : A1.rd t 1 1 = some [.map (some s1)] := hT1.top.rd (o := 1) (n := 1) (by show 1 + 1 ≤ 2; omega)
      refine go_rd htop9 ?_
      conv => lhs; whnf
      refine go_lk (look_int hT1.smap ses) ?_
      cases hk : kGet ses T1.seats with
      | none =>
        have hlk : A1.look s1 (.int .i64 ses) = some none := by rw [look_int hT1.smap, hk]; rfl
        conv => lhs; whnf
        have hend : StepTo A' B O t (treeApply T (.mk ⟨zxid, 1, ses, turn, xid, dtime, path, data, owner, ver, cver, tmo, err, cfg, mem⟩ parts)) A1 := by
          rw [treeApply, if_pos hr, ← hTo]
          show StepTo A' B O t (treeTouch T1 ses turn) A1
          rw [treeTouch, hk]
          exact ⟨B1, O1, ⟨m1, s1, E1, hT1⟩, hS1⟩
        repeat (first | refine go_rd htop9 ?_ | refine go_lk hlk ?_ | refine go_D hD rfl ?_
                conv => lhs; whnf)
        exact (hD _).2 hend
      | some st =>
        obtain ⟨sses, stmo, sturn⟩ := st
        have hlk : A1.look s1 (.int .i64 ses) = some (some (.agg #[.int .i64 sses, .int .i64 stmo, .int .i64 sturn])) := by rw [look_int hT1.smap, hk]; rfl
        conv => lhs; whnf
        repeat (first | refine go_rd htop9 ?_ | refine go_lk hlk ?_ | refine go_D hD rfl ?_
                conv => lhs; whnf)
        refine (hD _).2 ⟨_, hT1.smap, intL_alike sitV ses _, fun A2 hm2 ho2 => ?_⟩
        have hmx : (bif true then bif decide (sturn < turn) then turn else sturn else bif decide (turn < sturn) then turn else sturn) = max sturn turn := by
          by_cases h9 : sturn < turn
          · simp only [h9, decide_true, cond_true]; omega
          · simp only [h9, decide_false, cond_true, cond_false]; omega
        have hm3 : MapAt A2 s1 (putL (.int .i64 ses) (sitV ⟨sses, stmo, max sturn turn⟩) (intL sitV T1.seats)) := by
          rw [← hmx]; exact hm2
        rw [intL_put] at hm3
        have hR2 := hT1.sit ho2 hm3 (kPut_nodup hT1.skeys)
        have hS2 : Step A1 B1 O1 A2 B1 O1 := step_map (hT1.own.2.2.1) ho2 hm3
        have hend : StepTo A' B O t (treeApply T (.mk ⟨zxid, 1, ses, turn, xid, dtime, path, data, owner, ver, cver, tmo, err, cfg, mem⟩ parts)) A2 := by
          rw [treeApply, if_pos hr, ← hTo]
          show StepTo A' B O t (treeTouch T1 ses turn) A2
          rw [treeTouch, hk]
          exact ⟨B1, O1, ⟨m1, s1, E1, hR2⟩, hS1.trans hS2⟩
        conv => lhs; whnf
        exact (hD _).2 hend
    · conv => lhs; whnf
      refine (hD _).2 ⟨(⟨T, B, O, t⟩, .mk ⟨zxid, 2, ses, turn, xid, dtime, path, data, owner, ver, cver, tmo, err, cfg, mem⟩ parts, C, zxid, dtime), ⟨_, rfl, ⟨m, s, E, h⟩, hR0, hC⟩, fun v A1 hq => ?_⟩
      have hmid : StepTo A' B O t (treeChange T ⟨zxid, 2, ses, turn, xid, dtime, path, data, owner, ver, cver, tmo, err, cfg, mem⟩ zxid dtime) A1 := hq
      obtain ⟨T1, hTo⟩ : ∃ T1, T1 = treeDo T (.mk ⟨zxid, 2, ses, turn, xid, dtime, path, data, owner, ver, cver, tmo, err, cfg, mem⟩ parts) := ⟨_, rfl⟩
      have e : treeChange T ⟨zxid, 2, ses, turn, xid, dtime, path, data, owner, ver, cver, tmo, err, cfg, mem⟩ zxid dtime = T1 := by rw [hTo, treeDo, if_pos (by simp [DeedD.h])]; rfl
      rw [e] at hmid
      conv => lhs; whnf
      obtain ⟨B1, O1, ⟨m1, s1, E1, hT1⟩, hS1⟩ := hmid
      have htop9 : A1.rd t 1 1 = some [.map (some s1)] := hT1.top.rd (o := 1) (n := 1) (by show 1 + 1 ≤ 2; omega)
      refine go_rd htop9 ?_
      conv => lhs; whnf
      refine go_lk (look_int hT1.smap ses) ?_
      cases hk : kGet ses T1.seats with
      | none =>
        have hlk : A1.look s1 (.int .i64 ses) = some none := by rw [look_int hT1.smap, hk]; rfl
        conv => lhs; whnf
        have hend : StepTo A' B O t (treeApply T (.mk ⟨zxid, 2, ses, turn, xid, dtime, path, data, owner, ver, cver, tmo, err, cfg, mem⟩ parts)) A1 := by
          rw [treeApply, if_pos hr, ← hTo]
          show StepTo A' B O t (treeTouch T1 ses turn) A1
          rw [treeTouch, hk]
          exact ⟨B1, O1, ⟨m1, s1, E1, hT1⟩, hS1⟩
        repeat (first | refine go_rd htop9 ?_ | refine go_lk hlk ?_ | refine go_D hD rfl ?_
                conv => lhs; whnf)
        exact (hD _).2 hend
      | some st =>
        obtain ⟨sses, stmo, sturn⟩ := st
        have hlk : A1.look s1 (.int .i64 ses) = some (some (.agg #[.int .i64 sses, .int .i64 stmo, .int .i64 sturn])) := by rw [look_int hT1.smap, hk]; rfl
        conv => lhs; whnf
        repeat (first | refine go_rd htop9 ?_ | refine go_lk hlk ?_ | refine go_D hD rfl ?_
                conv => lhs; whnf)
        refine (hD _).2 ⟨_, hT1.smap, intL_alike sitV ses _, fun A2 hm2 ho2 => ?_⟩
        have hmx : (bif true then bif decide (sturn < turn) then turn else sturn else bif decide (turn < sturn) then turn else sturn) = max sturn turn := by
          by_cases h9 : sturn < turn
          · simp only [h9, decide_true, cond_true]; omega
          · simp only [h9, decide_false, cond_true, cond_false]; omega
        have hm3 : MapAt A2 s1 (putL (.int .i64 ses) (sitV ⟨sses, stmo, max sturn turn⟩) (intL sitV T1.seats)) := by
          rw [← hmx]; exact hm2
        rw [intL_put] at hm3
        have hR2 := hT1.sit ho2 hm3 (kPut_nodup hT1.skeys)
        have hS2 : Step A1 B1 O1 A2 B1 O1 := step_map (hT1.own.2.2.1) ho2 hm3
        have hend : StepTo A' B O t (treeApply T (.mk ⟨zxid, 2, ses, turn, xid, dtime, path, data, owner, ver, cver, tmo, err, cfg, mem⟩ parts)) A2 := by
          rw [treeApply, if_pos hr, ← hTo]
          show StepTo A' B O t (treeTouch T1 ses turn) A2
          rw [treeTouch, hk]
          exact ⟨B1, O1, ⟨m1, s1, E1, hR2⟩, hS1.trans hS2⟩
        conv => lhs; whnf
        exact (hD _).2 hend
    · conv => lhs; whnf
      refine (hD _).2 ⟨(⟨T, B, O, t⟩, .mk ⟨zxid, 3, ses, turn, xid, dtime, path, data, owner, ver, cver, tmo, err, cfg, mem⟩ parts, C, zxid, dtime), ⟨_, rfl, ⟨m, s, E, h⟩, hR0, hC⟩, fun v A1 hq => ?_⟩
      have hmid : StepTo A' B O t (treeChange T ⟨zxid, 3, ses, turn, xid, dtime, path, data, owner, ver, cver, tmo, err, cfg, mem⟩ zxid dtime) A1 := hq
      obtain ⟨T1, hTo⟩ : ∃ T1, T1 = treeDo T (.mk ⟨zxid, 3, ses, turn, xid, dtime, path, data, owner, ver, cver, tmo, err, cfg, mem⟩ parts) := ⟨_, rfl⟩
      have e : treeChange T ⟨zxid, 3, ses, turn, xid, dtime, path, data, owner, ver, cver, tmo, err, cfg, mem⟩ zxid dtime = T1 := by rw [hTo, treeDo, if_pos (by simp [DeedD.h])]; rfl
      rw [e] at hmid
      conv => lhs; whnf
      obtain ⟨B1, O1, ⟨m1, s1, E1, hT1⟩, hS1⟩ := hmid
      have htop9 : A1.rd t 1 1 = some [.map (some s1)] := hT1.top.rd (o := 1) (n := 1) (by show 1 + 1 ≤ 2; omega)
      refine go_rd htop9 ?_
      conv => lhs; whnf
      refine go_lk (look_int hT1.smap ses) ?_
      cases hk : kGet ses T1.seats with
      | none =>
        have hlk : A1.look s1 (.int .i64 ses) = some none := by rw [look_int hT1.smap, hk]; rfl
        conv => lhs; whnf
        have hend : StepTo A' B O t (treeApply T (.mk ⟨zxid, 3, ses, turn, xid, dtime, path, data, owner, ver, cver, tmo, err, cfg, mem⟩ parts)) A1 := by
          rw [treeApply, if_pos hr, ← hTo]
          show StepTo A' B O t (treeTouch T1 ses turn) A1
          rw [treeTouch, hk]
          exact ⟨B1, O1, ⟨m1, s1, E1, hT1⟩, hS1⟩
        repeat (first | refine go_rd htop9 ?_ | refine go_lk hlk ?_ | refine go_D hD rfl ?_
                conv => lhs; whnf)
        exact (hD _).2 hend
      | some st =>
        obtain ⟨sses, stmo, sturn⟩ := st
        have hlk : A1.look s1 (.int .i64 ses) = some (some (.agg #[.int .i64 sses, .int .i64 stmo, .int .i64 sturn])) := by rw [look_int hT1.smap, hk]; rfl
        conv => lhs; whnf
        repeat (first | refine go_rd htop9 ?_ | refine go_lk hlk ?_ | refine go_D hD rfl ?_
                conv => lhs; whnf)
        refine (hD _).2 ⟨_, hT1.smap, intL_alike sitV ses _, fun A2 hm2 ho2 => ?_⟩
        have hmx : (bif true then bif decide (sturn < turn) then turn else sturn else bif decide (turn < sturn) then turn else sturn) = max sturn turn := by
          by_cases h9 : sturn < turn
          · simp only [h9, decide_true, cond_true]; omega
          · simp only [h9, decide_false, cond_true, cond_false]; omega
        have hm3 : MapAt A2 s1 (putL (.int .i64 ses) (sitV ⟨sses, stmo, max sturn turn⟩) (intL sitV T1.seats)) := by
          rw [← hmx]; exact hm2
        rw [intL_put] at hm3
        have hR2 := hT1.sit ho2 hm3 (kPut_nodup hT1.skeys)
        have hS2 : Step A1 B1 O1 A2 B1 O1 := step_map (hT1.own.2.2.1) ho2 hm3
        have hend : StepTo A' B O t (treeApply T (.mk ⟨zxid, 3, ses, turn, xid, dtime, path, data, owner, ver, cver, tmo, err, cfg, mem⟩ parts)) A2 := by
          rw [treeApply, if_pos hr, ← hTo]
          show StepTo A' B O t (treeTouch T1 ses turn) A2
          rw [treeTouch, hk]
          exact ⟨B1, O1, ⟨m1, s1, E1, hR2⟩, hS1.trans hS2⟩
        conv => lhs; whnf
        exact (hD _).2 hend
  by_cases h4 : kind = 4
  · subst h4
    conv => lhs; whnf
    refine go_rd htop1 ?_
    conv => lhs; whnf
    refine (hD _).2 ⟨_, h.smap, intL_alike sitV zxid _, fun A1 hm1 ho1 => ?_⟩
    have hm1 : MapAt A1 s (putL (.int .i64 zxid) (sitV ⟨zxid, tmo, turn⟩) (intL sitV T.seats)) := hm1
    rw [intL_put] at hm1
    have hR1 := h.sit ho1 hm1 (kPut_nodup h.skeys)
    obtain ⟨T1, hTo⟩ : ∃ T1, T1 = treeDo T (.mk ⟨zxid, 4, ses, turn, xid, dtime, path, data, owner, ver, cver, tmo, err, cfg, mem⟩ parts) := ⟨_, rfl⟩
    have hmid : StepTo A' B O t T1 A1 := ⟨B, O, ⟨m, s, E, by rw [hTo]; exact hR1⟩, step_map h.own.2.2.1 ho1 hm1⟩
    conv => lhs; whnf
    obtain ⟨B1, O1, ⟨m1, s1, E1, hT1⟩, hS1⟩ := hmid
    have htop9 : A1.rd t 1 1 = some [.map (some s1)] := hT1.top.rd (o := 1) (n := 1) (by show 1 + 1 ≤ 2; omega)
    refine go_rd htop9 ?_
    conv => lhs; whnf
    refine go_lk (look_int hT1.smap ses) ?_
    cases hk : kGet ses T1.seats with
    | none =>
      have hlk : A1.look s1 (.int .i64 ses) = some none := by rw [look_int hT1.smap, hk]; rfl
      conv => lhs; whnf
      have hend : StepTo A' B O t (treeApply T (.mk ⟨zxid, 4, ses, turn, xid, dtime, path, data, owner, ver, cver, tmo, err, cfg, mem⟩ parts)) A1 := by
        rw [treeApply, if_pos hr, ← hTo]
        show StepTo A' B O t (treeTouch T1 ses turn) A1
        rw [treeTouch, hk]
        exact ⟨B1, O1, ⟨m1, s1, E1, hT1⟩, hS1⟩
      repeat (first | refine go_rd htop9 ?_ | refine go_lk hlk ?_ | refine go_D hD rfl ?_
              conv => lhs; whnf)
      exact (hD _).2 hend
    | some st =>
      obtain ⟨sses, stmo, sturn⟩ := st
      have hlk : A1.look s1 (.int .i64 ses) = some (some (.agg #[.int .i64 sses, .int .i64 stmo, .int .i64 sturn])) := by rw [look_int hT1.smap, hk]; rfl
      conv => lhs; whnf
      repeat (first | refine go_rd htop9 ?_ | refine go_lk hlk ?_ | refine go_D hD rfl ?_
              conv => lhs; whnf)
      refine (hD _).2 ⟨_, hT1.smap, intL_alike sitV ses _, fun A2 hm2 ho2 => ?_⟩
      have hmx : (bif true then bif decide (sturn < turn) then turn else sturn else bif decide (turn < sturn) then turn else sturn) = max sturn turn := by
        by_cases h9 : sturn < turn
        · simp only [h9, decide_true, cond_true]; omega
        · simp only [h9, decide_false, cond_true, cond_false]; omega
      have hm3 : MapAt A2 s1 (putL (.int .i64 ses) (sitV ⟨sses, stmo, max sturn turn⟩) (intL sitV T1.seats)) := by
        rw [← hmx]; exact hm2
      rw [intL_put] at hm3
      have hR2 := hT1.sit ho2 hm3 (kPut_nodup hT1.skeys)
      have hS2 : Step A1 B1 O1 A2 B1 O1 := step_map (hT1.own.2.2.1) ho2 hm3
      have hend : StepTo A' B O t (treeApply T (.mk ⟨zxid, 4, ses, turn, xid, dtime, path, data, owner, ver, cver, tmo, err, cfg, mem⟩ parts)) A2 := by
        rw [treeApply, if_pos hr, ← hTo]
        show StepTo A' B O t (treeTouch T1 ses turn) A2
        rw [treeTouch, hk]
        exact ⟨B1, O1, ⟨m1, s1, E1, hR2⟩, hS1.trans hS2⟩
      conv => lhs; whnf
      exact (hD _).2 hend
  by_cases h5 : kind = 5
  · subst h5
    conv => lhs; whnf
    refine go_rd htop1 ?_
    conv => lhs; whnf
    refine (hD _).2 ⟨_, h.smap, intL_alike sitV owner _, fun A1 hm1 ho1 => ?_⟩
    rw [intL_del] at hm1
    have hR1 := h.sit ho1 hm1 (h.skeys.sublist ((kDel_sub owner _).map _))
    have hSt : Step A' B O A1 B O := step_map h.own.2.2.1 ho1 hm1
    obtain ⟨T0, hT00⟩ : ∃ T0 : TreeD, T0 = ⟨T.nodes, kDel owner T.seats⟩ := ⟨_, rfl⟩
    have hst : TreeAt A1 B O t T0 := ⟨m, s, E, by rw [hT00]; exact hR1⟩
    have hT0 : treeDo T (.mk ⟨zxid, 5, ses, turn, xid, dtime, path, data, owner, ver, cver, tmo, err, cfg, mem⟩ parts) = treeParts T0 parts zxid dtime := by rw [hT00]; rfl
    conv => lhs; whnf
    refine (hD _).2 ⟨applyInv A' B O t T0 parts zxid dtime, ⟨(⟨0, A1, B, O, T0⟩ : AG), ⟨Nat.zero_le _, hst, hSt, by rw [List.take_zero]; rfl⟩, ⟨rfl, trivial⟩, trivial, rfl⟩, fun (sg : AG) hG => ⟨⟨trivial, trivial⟩, trivial, ?_⟩⟩
    obtain ⟨k, Ak, Bk, Ok, Tk⟩ := sg
    obtain ⟨hk, hTk, hSk, hTke⟩ : k ≤ parts.length ∧ TreeAt Ak Bk Ok t Tk ∧ Step A' B O Ak Bk Ok ∧ Tk = treeParts T0 (parts.take k) zxid dtime := hG
    have hCk := hC.step hSk
    conv => lhs; whnf
    refine split_dec (fun hlt => ?_) (fun hlt => ?_)
    · have hlt : (k : Int) < parts.length := hlt
      have hkn : k < parts.length := by omega
      obtain ⟨ao15, c15, he15, hc15, hl15, hb1, hb2, hb3⟩ := hS
      injection he15 with he1 he2 he3
      subst he1 he3
      obtain ⟨pg, po, rfl, hra⟩ := Sl.at_ hc15 hb1 hb2 hb3 (by omega)
      obtain ⟨pcs, hpcs, hpd⟩ := deed_at hra hRows k hkn rfl
      conv => lhs; whnf
      refine go_in ⟨by omega, hlt⟩ ?_
      conv => lhs; whnf
      have hnext : treeParts T0 (parts.take (k + 1)) zxid dtime = treeChange Tk parts[k].h zxid dtime := by
        rw [List.take_succ_eq_append_getElem hkn, treeParts, List.foldl_append, hTke]; rfl
      generalize parts[k] = p at hpd hnext
      obtain ⟨pa7, pl7, pk7, pa14, pl14, pk14, pa15, pl15, pk15, rfl⟩ := hpd.form
      refine go_rd (rd_sub hCk.1 hpcs) ?_
      conv => lhs; whnf
      refine (hD _).2 ⟨(⟨Tk, Bk, Ok, t⟩, p, C, zxid, dtime), ⟨_, rfl, hTk, hpd, hCk⟩, fun v A9 hq => ?_⟩
      obtain ⟨B9, O9, hT9, hS9⟩ : StepTo Ak Bk Ok t (treeChange Tk p.h zxid dtime) A9 := hq
      conv => lhs; whnf
      exact (hD _).2 ⟨(⟨k + 1, A9, B9, O9, _⟩ : AG), ⟨⟨by show k + 1 ≤ parts.length; omega, hT9, hSk.trans hS9, hnext.symm⟩, ⟨inc_slot (k := k) (by omega), trivial⟩, trivial, rfl⟩, by show parts.length - (k + 1) < parts.length - k; omega, ⟨rfl, rfl, rfl, rfl, trivial⟩, ⟨rfl, trivial⟩⟩
    · have hlt : ¬ (k : Int) < parts.length := hlt
      have hkn : k = parts.length := by omega
      rw [hkn, List.take_length] at hTke
      obtain ⟨T1, hTo⟩ : ∃ T1, T1 = treeDo T (.mk ⟨zxid, 5, ses, turn, xid, dtime, path, data, owner, ver, cver, tmo, err, cfg, mem⟩ parts) := ⟨_, rfl⟩
      have hmid : StepTo A' B O t T1 Ak := ⟨Bk, Ok, by rw [hTo, hT0, ← hTke]; exact hTk, hSk⟩
      clear hTk hSk hTke
      generalize Ak = A1 at *
      conv => lhs; whnf
      obtain ⟨B1, O1, ⟨m1, s1, E1, hT1⟩, hS1⟩ := hmid
      have htop9 : A1.rd t 1 1 = some [.map (some s1)] := hT1.top.rd (o := 1) (n := 1) (by show 1 + 1 ≤ 2; omega)
      refine go_rd htop9 ?_
      conv => lhs; whnf
      refine go_lk (look_int hT1.smap ses) ?_
      cases hk : kGet ses T1.seats with
      | none =>
        have hlk : A1.look s1 (.int .i64 ses) = some none := by rw [look_int hT1.smap, hk]; rfl
        conv => lhs; whnf
        have hend : StepTo A' B O t (treeApply T (.mk ⟨zxid, 5, ses, turn, xid, dtime, path, data, owner, ver, cver, tmo, err, cfg, mem⟩ parts)) A1 := by
          rw [treeApply, if_pos hr, ← hTo]
          show StepTo A' B O t (treeTouch T1 ses turn) A1
          rw [treeTouch, hk]
          exact ⟨B1, O1, ⟨m1, s1, E1, hT1⟩, hS1⟩
        repeat (first | refine go_rd htop9 ?_ | refine go_lk hlk ?_ | refine go_D hD rfl ?_
                conv => lhs; whnf)
        exact (hD _).2 hend
      | some st =>
        obtain ⟨sses, stmo, sturn⟩ := st
        have hlk : A1.look s1 (.int .i64 ses) = some (some (.agg #[.int .i64 sses, .int .i64 stmo, .int .i64 sturn])) := by rw [look_int hT1.smap, hk]; rfl
        conv => lhs; whnf
        repeat (first | refine go_rd htop9 ?_ | refine go_lk hlk ?_ | refine go_D hD rfl ?_
                conv => lhs; whnf)
        refine (hD _).2 ⟨_, hT1.smap, intL_alike sitV ses _, fun A2 hm2 ho2 => ?_⟩
        have hmx : (bif true then bif decide (sturn < turn) then turn else sturn else bif decide (turn < sturn) then turn else sturn) = max sturn turn := by
          by_cases h9 : sturn < turn
          · simp only [h9, decide_true, cond_true]; omega
          · simp only [h9, decide_false, cond_true, cond_false]; omega
        have hm3 : MapAt A2 s1 (putL (.int .i64 ses) (sitV ⟨sses, stmo, max sturn turn⟩) (intL sitV T1.seats)) := by
          rw [← hmx]; exact hm2
        rw [intL_put] at hm3
        have hR2 := hT1.sit ho2 hm3 (kPut_nodup hT1.skeys)
        have hS2 : Step A1 B1 O1 A2 B1 O1 := step_map (hT1.own.2.2.1) ho2 hm3
        have hend : StepTo A' B O t (treeApply T (.mk ⟨zxid, 5, ses, turn, xid, dtime, path, data, owner, ver, cver, tmo, err, cfg, mem⟩ parts)) A2 := by
          rw [treeApply, if_pos hr, ← hTo]
          show StepTo A' B O t (treeTouch T1 ses turn) A2
          rw [treeTouch, hk]
          exact ⟨B1, O1, ⟨m1, s1, E1, hR2⟩, hS1.trans hS2⟩
        conv => lhs; whnf
        exact (hD _).2 hend
  by_cases h8 : kind = 8
  · subst h8
    have hSt : Step A' B O A' B O := Step.refl _ _ _
    have hst : TreeAt A' B O t T := ⟨m, s, E, h⟩
    have hT0 : treeDo T (.mk ⟨zxid, 8, ses, turn, xid, dtime, path, data, owner, ver, cver, tmo, err, cfg, mem⟩ parts) = treeParts T parts zxid dtime := rfl
    conv => lhs; whnf
    refine (hD _).2 ⟨applyInv A' B O t T parts zxid dtime, ⟨(⟨0, A', B, O, T⟩ : AG), ⟨Nat.zero_le _, hst, hSt, by rw [List.take_zero]; rfl⟩, ⟨rfl, trivial⟩, trivial, rfl⟩, fun (sg : AG) hG => ⟨⟨trivial, trivial⟩, trivial, ?_⟩⟩
    obtain ⟨k, Ak, Bk, Ok, Tk⟩ := sg
    obtain ⟨hk, hTk, hSk, hTke⟩ : k ≤ parts.length ∧ TreeAt Ak Bk Ok t Tk ∧ Step A' B O Ak Bk Ok ∧ Tk = treeParts T (parts.take k) zxid dtime := hG
    have hCk := hC.step hSk
    conv => lhs; whnf
    refine split_dec (fun hlt => ?_) (fun hlt => ?_)
    · have hlt : (k : Int) < parts.length := hlt
      have hkn : k < parts.length := by omega
      obtain ⟨ao15, c15, he15, hc15, hl15, hb1, hb2, hb3⟩ := hS
      injection he15 with he1 he2 he3
      subst he1 he3
      obtain ⟨pg, po, rfl, hra⟩ := Sl.at_ hc15 hb1 hb2 hb3 (by omega)
      obtain ⟨pcs, hpcs, hpd⟩ := deed_at hra hRows k hkn rfl
      conv => lhs; whnf
      refine go_in ⟨by omega, hlt⟩ ?_
      conv => lhs; whnf
      have hnext : treeParts T (parts.take (k + 1)) zxid dtime = treeChange Tk parts[k].h zxid dtime := by
        rw [List.take_succ_eq_append_getElem hkn, treeParts, List.foldl_append, hTke]; rfl
      generalize parts[k] = p at hpd hnext
      obtain ⟨pa7, pl7, pk7, pa14, pl14, pk14, pa15, pl15, pk15, rfl⟩ := hpd.form
      refine go_rd (rd_sub hCk.1 hpcs) ?_
      conv => lhs; whnf
      refine (hD _).2 ⟨(⟨Tk, Bk, Ok, t⟩, p, C, zxid, dtime), ⟨_, rfl, hTk, hpd, hCk⟩, fun v A9 hq => ?_⟩
      obtain ⟨B9, O9, hT9, hS9⟩ : StepTo Ak Bk Ok t (treeChange Tk p.h zxid dtime) A9 := hq
      conv => lhs; whnf
      exact (hD _).2 ⟨(⟨k + 1, A9, B9, O9, _⟩ : AG), ⟨⟨by show k + 1 ≤ parts.length; omega, hT9, hSk.trans hS9, hnext.symm⟩, ⟨inc_slot (k := k) (by omega), trivial⟩, trivial, rfl⟩, by show parts.length - (k + 1) < parts.length - k; omega, ⟨rfl, rfl, rfl, rfl, trivial⟩, ⟨rfl, trivial⟩⟩
    · have hlt : ¬ (k : Int) < parts.length := hlt
      have hkn : k = parts.length := by omega
      rw [hkn, List.take_length] at hTke
      obtain ⟨T1, hTo⟩ : ∃ T1, T1 = treeDo T (.mk ⟨zxid, 8, ses, turn, xid, dtime, path, data, owner, ver, cver, tmo, err, cfg, mem⟩ parts) := ⟨_, rfl⟩
      have hmid : StepTo A' B O t T1 Ak := ⟨Bk, Ok, by rw [hTo, hT0, ← hTke]; exact hTk, hSk⟩
      clear hTk hSk hTke
      generalize Ak = A1 at *
      conv => lhs; whnf
      obtain ⟨B1, O1, ⟨m1, s1, E1, hT1⟩, hS1⟩ := hmid
      have htop9 : A1.rd t 1 1 = some [.map (some s1)] := hT1.top.rd (o := 1) (n := 1) (by show 1 + 1 ≤ 2; omega)
      refine go_rd htop9 ?_
      conv => lhs; whnf
      refine go_lk (look_int hT1.smap ses) ?_
      cases hk : kGet ses T1.seats with
      | none =>
        have hlk : A1.look s1 (.int .i64 ses) = some none := by rw [look_int hT1.smap, hk]; rfl
        conv => lhs; whnf
        have hend : StepTo A' B O t (treeApply T (.mk ⟨zxid, 8, ses, turn, xid, dtime, path, data, owner, ver, cver, tmo, err, cfg, mem⟩ parts)) A1 := by
          rw [treeApply, if_pos hr, ← hTo]
          show StepTo A' B O t (treeTouch T1 ses turn) A1
          rw [treeTouch, hk]
          exact ⟨B1, O1, ⟨m1, s1, E1, hT1⟩, hS1⟩
        repeat (first | refine go_rd htop9 ?_ | refine go_lk hlk ?_ | refine go_D hD rfl ?_
                conv => lhs; whnf)
        exact (hD _).2 hend
      | some st =>
        obtain ⟨sses, stmo, sturn⟩ := st
        have hlk : A1.look s1 (.int .i64 ses) = some (some (.agg #[.int .i64 sses, .int .i64 stmo, .int .i64 sturn])) := by rw [look_int hT1.smap, hk]; rfl
        conv => lhs; whnf
        repeat (first | refine go_rd htop9 ?_ | refine go_lk hlk ?_ | refine go_D hD rfl ?_
                conv => lhs; whnf)
        refine (hD _).2 ⟨_, hT1.smap, intL_alike sitV ses _, fun A2 hm2 ho2 => ?_⟩
        have hmx : (bif true then bif decide (sturn < turn) then turn else sturn else bif decide (turn < sturn) then turn else sturn) = max sturn turn := by
          by_cases h9 : sturn < turn
          · simp only [h9, decide_true, cond_true]; omega
          · simp only [h9, decide_false, cond_true, cond_false]; omega
        have hm3 : MapAt A2 s1 (putL (.int .i64 ses) (sitV ⟨sses, stmo, max sturn turn⟩) (intL sitV T1.seats)) := by
          rw [← hmx]; exact hm2
        rw [intL_put] at hm3
        have hR2 := hT1.sit ho2 hm3 (kPut_nodup hT1.skeys)
        have hS2 : Step A1 B1 O1 A2 B1 O1 := step_map (hT1.own.2.2.1) ho2 hm3
        have hend : StepTo A' B O t (treeApply T (.mk ⟨zxid, 8, ses, turn, xid, dtime, path, data, owner, ver, cver, tmo, err, cfg, mem⟩ parts)) A2 := by
          rw [treeApply, if_pos hr, ← hTo]
          show StepTo A' B O t (treeTouch T1 ses turn) A2
          rw [treeTouch, hk]
          exact ⟨B1, O1, ⟨m1, s1, E1, hR2⟩, hS1.trans hS2⟩
        conv => lhs; whnf
        exact (hD _).2 hend
  · obtain ⟨T1, hTo⟩ : ∃ T1, T1 = treeDo T (.mk ⟨zxid, kind, ses, turn, xid, dtime, path, data, owner, ver, cver, tmo, err, cfg, mem⟩ parts) := ⟨_, rfl⟩
    have e : T1 = T := by
      rw [hTo, treeDo]
      split
      · rename_i h9; exact absurd h9 h123
      · split
        · rename_i h9; exact absurd h9 h4
        · split
          · rename_i h9; exact absurd h9 h5
          · split
            · rename_i h9; exact absurd h9 h8
            · rfl
    have hmid : StepTo A' B O t T1 A' := by rw [e]; exact ⟨B, O, ⟨m, s, E, h⟩, Step.refl _ _ _⟩
    repeat (refine no_dec (fun h9 => ?_) ?_
            · first | exact h4 h9 | exact h5 h9 | exact h8 h9 | exact h123 (by omega)
            conv => lhs; whnf)
    obtain ⟨B1, O1, ⟨m1, s1, E1, hT1⟩, hS1⟩ := hmid
    have htop9 : A'.rd t 1 1 = some [.map (some s1)] := hT1.top.rd (o := 1) (n := 1) (by show 1 + 1 ≤ 2; omega)
    refine go_rd htop9 ?_
    conv => lhs; whnf
    refine go_lk (look_int hT1.smap ses) ?_
    cases hk : kGet ses T1.seats with
    | none =>
      have hlk : A'.look s1 (.int .i64 ses) = some none := by rw [look_int hT1.smap, hk]; rfl
      conv => lhs; whnf
      have hend : StepTo A' B O t (treeApply T (.mk ⟨zxid, kind, ses, turn, xid, dtime, path, data, owner, ver, cver, tmo, err, cfg, mem⟩ parts)) A' := by
        rw [treeApply, if_pos hr, ← hTo]
        show StepTo A' B O t (treeTouch T1 ses turn) A'
        rw [treeTouch, hk]
        exact ⟨B1, O1, ⟨m1, s1, E1, hT1⟩, hS1⟩
      repeat (first | refine go_rd htop9 ?_ | refine go_lk hlk ?_ | refine go_D hD rfl ?_
              conv => lhs; whnf)
      exact (hD _).2 hend
    | some st =>
      obtain ⟨sses, stmo, sturn⟩ := st
      have hlk : A'.look s1 (.int .i64 ses) = some (some (.agg #[.int .i64 sses, .int .i64 stmo, .int .i64 sturn])) := by rw [look_int hT1.smap, hk]; rfl
      conv => lhs; whnf
      repeat (first | refine go_rd htop9 ?_ | refine go_lk hlk ?_ | refine go_D hD rfl ?_
              conv => lhs; whnf)
      refine (hD _).2 ⟨_, hT1.smap, intL_alike sitV ses _, fun A2 hm2 ho2 => ?_⟩
      have hmx : (bif true then bif decide (sturn < turn) then turn else sturn else bif decide (turn < sturn) then turn else sturn) = max sturn turn := by
        by_cases h9 : sturn < turn
        · simp only [h9, decide_true, cond_true]; omega
        · simp only [h9, decide_false, cond_true, cond_false]; omega
      have hm3 : MapAt A2 s1 (putL (.int .i64 ses) (sitV ⟨sses, stmo, max sturn turn⟩) (intL sitV T1.seats)) := by
        rw [← hmx]; exact hm2
      rw [intL_put] at hm3
      have hR2 := hT1.sit ho2 hm3 (kPut_nodup hT1.skeys)
      have hS2 : Step A' B1 O1 A2 B1 O1 := step_map (hT1.own.2.2.1) ho2 hm3
      have hend : StepTo A' B O t (treeApply T (.mk ⟨zxid, kind, ses, turn, xid, dtime, path, data, owner, ver, cver, tmo, err, cfg, mem⟩ parts)) A2 := by
        rw [treeApply, if_pos hr, ← hTo]
        show StepTo A' B O t (treeTouch T1 ses turn) A2
        rw [treeTouch, hk]
        exact ⟨B1, O1, ⟨m1, s1, E1, hR2⟩, hS1.trans hS2⟩
      conv => lhs; whnf
      exact (hD _).2 hend

end
end Go.Proofs.YtbebacffaljckaaGreatDoor
