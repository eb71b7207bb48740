/-
  Contracts: the deeds that fit, and the trees between them.
  Contracts: the law's is: rows of rings that are the same are told so.
  Contracts: the chapter's first example.
  Contracts: beadlekit.Pick.
  BellAgain: the law's text over plain data.
  Lifting: what a row's arguments are in memory, as plain data of an arena that holds all that lay.
  Members and deeds as plain data, out of what a row's arguments are.
-/
import Derived.Test.YtfpfjobknefedaaGreatDoorG14
import Derived.Test.YtfpfjobknefedaaGreatDoorG13
import Derived.Test.YtfpfjobknefedaaGreatDoorG07
import Derived.Test.YtfpfjobknefedaaGreatDoorG11
import Derived.Test.YtfpfjobknefedaaGreatDoorG06
import Derived.ChangeArms
import Derived.DataReads
import Derived.SizedLaws
namespace Go.Proofs.YtfpfjobknefedaaGreatDoor
open Go.Sx Go.RowKit
noncomputable section
open Classical

structure FtG where
  k : Nat
  A : Arena
  B : Arena
  C : Arena
  O : Nat → Prop
  T : TreeD
  dv : Value
  tv : Value
  ds : List DeedD
  rows : List (List Value)
  ts : List Nat
  N : Nat → ByteArray → Option NodeD

structure FtI (A0 : Arena) (n t : Nat) (s : FtG) : Prop where
  le : s.k ≤ n
  mem : FtM A0 s.A s.B s.C s.O t s.T s.dv s.tv s.ds.length s.ts.length s.rows.flatten (s.ts.map ptrV)
  are : DeedsR A0 s.ds s.rows
  cop : CopiesR s.C s.ts s.N
  pl : FtP s.T s.ds s.ts.length s.N

def ftInv (A0 : Arena) (n t : Nat) : LInv := { γ := FtG, G := FtI A0 n t, keepS := [0, 4], keepB := [], sl := fun s => [(7, .v (.int .i64 s.k)), (6, .v s.dv), (5, .v s.tv)], bl := fun _ => [], ar := fun s => s.A, mu := fun s => n - s.k }

def fittingS : FSpec := ⟨List DeedD, fun g vs A => ∃ v, vs = [v] ∧ DeedsS A v g ∧ HasA A,
  fun _ _ A v A' => A.Sub A' ∧ ∃ dv tv ds rows ts N, v = .tuple #[dv, tv] ∧ GrowR A A' 16 53 ds.length dv (List.flatten rows) ∧ DeedsR A ds rows ∧ GrowR A A' 1 37 ts.length tv (ts.map ptrV) ∧ CopiesR A' ts N ∧ ts.length = ds.length + 1 ∧ ds.length ≤ 40 ∧ HistD ds N⟩

set_option maxRecDepth 100000 in
set_option maxHeartbeats 0 in
theorem fitting_ok : FOk Tryz.prog 5 fittingS := by
  refine fok_v mixed fun (ds0 : List DeedD) vs A hp => ?_
  obtain ⟨v, rfl, ⟨rows0, hS, hlen, hR⟩, hHas⟩ : ∃ v, vs = [v] ∧ DeedsS A v ds0 ∧ HasA A := hp
  obtain ⟨ao, c, rfl, hc, hl, ha1, ha2, ha3⟩ := hS
  have hC : CTSound Tryz.prog (lookC [specE 17 newS, specE 18 copyS, specE 20 applyS, specE 21 sameS, specE 19 fit19S] noC) := lookC_sound (noC_sound _) (fun x hx => by
    simp only [List.mem_cons, List.not_mem_nil, or_false] at hx
    rcases hx with rfl | rfl | rfl | rfl | rfl
    · exact specE_ok new_ok
    · exact specE_ok copy_ok
    · exact specE_ok apply_ok
    · exact specE_ok same_ok
    · exact specE_ok fit19_ok)
  refine ⟨_, tabO Tryz.prog _ noL 60 [(5, 0)], 60, hC, tabO_sound mixed hC (noL_sound _) _ _, fun blk os' out tape D hD => ?_⟩
  conv => lhs; whnf
  refine (hD _).2 ⟨(), rfl, fun v A1 hq => ?_⟩
  obtain ⟨t, O1, hv, hT1, s1, hO1⟩ : ∃ t O, v = .pointer (some ⟨t, 0, none⟩) ∧ TreeAt A1 Arena.void O t treeNew ∧ A.Sub A1 ∧ ∀ k, O k → A.blk k = none := hq
  subst hv
  conv => lhs; whnf
  refine (hD _).2 ⟨(⟨treeNew, Arena.void, O1, t⟩ : TG), ⟨rfl, hT1, tok_new.seatsOk, Nat.zero_le _⟩, fun v A2 hq => ?_⟩
  obtain ⟨s2, t0, B0, O0, E0, sk0, hv, hT0, hO0, hB0, hE0, hsk0⟩ : A1.Sub A2 ∧ ∃ (t' : Nat) (B' : Arena) (O' : Nat → Prop) (E sk : List (ByteArray × Nat × NodeD)), v = .pointer (some ⟨t', 0, none⟩) ∧ TreeAt A2 B' O' t' ⟨copyNodes sk, seatsOf (treeSits treeNew)⟩ ∧ (∀ k, O' k → A1.blk k = none) ∧ (∀ k o, B'.blk k = some o → A1.blk k = none) ∧ treeNew.nodes = kMap (·.2) E ∧ sk.Perm E := hq
  subst hv
  conv => lhs; whnf
  refine (hD _).2 fun gb A3 hN3 => ?_
  have hN3 : A2.New A3 gb #[ptrV t0] 37 := hN3
  have s3 := hN3.sub
  have dn : ∀ {X Y : Arena} {k : Nat}, X.Sub Y → Y.blk k = none → X.blk k = none := fun {X Y k} hs hk => by
    cases h : X.blk k with
    | none => rfl
    | some o => rw [hs k o h] at hk; cases hk
  obtain ⟨C0, hM0, hcop0⟩ : ∃ C0, FtM A A3 Arena.void C0 O1 t treeNew (.slice none 0 0) (.slice (some ⟨gb, 0, none⟩) 1 1) 0 1 [] [ptrV t0] ∧ CopiesR C0 [t0] (fun _ q => kGet q treeNew.nodes) := by
    have hR1 := hT1
    obtain ⟨m1, sx1, E1, hR1⟩ := hR1
    have hgb : ∀ {k}, RvB (.slice (some ⟨gb, 0, none⟩) 1 1) k → k = gb := fun {k} ⟨_, _, _, h⟩ => by
      injection h with h _ _
      injection h with h
      injection h with h _ _
      exact h.symm
    have hgO : ¬ O1 gb := fun h => by
      obtain ⟨o, ho⟩ := hR1.live gb h
      have := hN3.none_
      rw [s2 gb o ho] at this
      cases this
    have hold : ∀ k o, A.blk k = some o → (restA A3 fun k => O1 k ∨ k = gb).blk k = some o := fun k o ho => by
      rw [rest_at]
      · exact s3 k o (s2 k o (s1 k o ho))
      · rintro (h | h)
        · rw [hO1 k h] at ho; cases ho
        · have := hN3.none_
          rw [← h, s2 k o (s1 k o ho)] at this; cases this
    have hnew : ∀ k o, A2.blk k = some o → A1.blk k = none → (restA A3 fun k => O1 k ∨ k = gb).blk k = some o := fun k o ho h1 => by
      rw [rest_at]
      · exact s3 k o ho
      · rintro (h | h)
        · obtain ⟨o', ho'⟩ := hR1.live k h
          rw [h1] at ho'; cases ho'
        · have := hN3.none_
          rw [← h, ho] at this; cases this
    have hE := copy_eq tok_new hE0 hsk0
    have hcl := copy_len (T := treeNew) hE0 hsk0 (n := 1) (m := 0) (Nat.le_refl _) (Nat.le_refl _)
    refine ⟨restA A3 fun k => O1 k ∨ k = gb, ⟨hold, TreeAt_sub hT1 (s2.trans s3), ⟨rest_sub _ _, fun k o hk h => ?_⟩, GrowR.nil _ _ _ _, ⟨rfl, .inr ⟨gb, 1, #[ptrV t0], rfl, Nat.le_refl _, by omega, dn s1 (dn s2 hN3.none_), hN3.at_, rfl, rfl⟩⟩, fun k hk => absurd hk rv_nil, fun k hk => ?_⟩, fun i hi => ?_⟩
    · rw [rest_no (.inl h)] at hk; cases hk
    · have := hgb hk
      subst this
      exact ⟨hgO, rest_no (.inr rfl), rfl⟩
    · have : i = 0 := by
        have hi : i < 1 := hi
        omega
      subst this
      refine ⟨B0, O0, _, ?_, by show (copyNodes sk0).length ≤ 1000000; omega, fun q => (hE.1 q).symm⟩
      have hR0 := hT0
      obtain ⟨m0, sx0, E9, hR0⟩ := hR0
      show TreeAt _ B0 O0 t0 _
      refine hT0.frame (fun k hk => ?_) fun k o hb => hnew k o (hR0.sub k o hb) (hB0 k o hb)
      obtain ⟨o, ho⟩ := hR0.live k hk
      rw [ho]
      exact hnew k o ho (hO0 k hk)
  conv => lhs; whnf
  refine (hD _).2 ⟨ftInv A ds0.length t, ⟨(⟨0, A3, Arena.void, C0, O1, treeNew, .slice none 0 0, .slice (some ⟨gb, 0, none⟩) 1 1, [], [], [t0], fun _ q => kGet q treeNew.nodes⟩ : FtG), ⟨Nat.zero_le _, hM0, rfl, hcop0, ftp_new⟩, ⟨rfl, rfl, rfl, trivial⟩, trivial, rfl⟩, fun (s : FtG) hG => ⟨⟨trivial, trivial, trivial, trivial⟩, trivial, ?_⟩⟩
  clear hM0 hcop0 hT1 hT0
  obtain ⟨k, Ak, B, C, O, T, dv, tv, ds, rs, ts, N⟩ := s
  obtain ⟨hk, hM, hare, hcop, hP⟩ : FtI A ds0.length t ⟨k, Ak, B, C, O, T, dv, tv, ds, rs, ts, N⟩ := hG
  dsimp only at hk hM hare hcop hP
  have hend : fittingS.post ds0 [.slice ao ds0.length c] A (.tuple #[dv, tv]) Ak := ⟨hM.a0, dv, tv, ds, rs, ts, N, rfl, hM.drow, hare, hM.trow, hcop.sub hM.aside.1, hP.tlen, hP.d40, hP.hist⟩
  obtain ⟨bd, cd, hdv, hbd, -⟩ := hM.drow.formN
  subst hdv
  obtain ⟨bt, ct, htv, hbt, hGt, -⟩ := hM.trow.formN
  subst htv
  conv => lhs; whnf
  refine split_dec (fun hlt => ?_) (fun hlt => ?_) <;> (conv => lhs; whnf)
  rotate_left
  · exact (hD _).2 hend
  refine split_dec (fun hl40 => ?_) (fun hl40 => ?_) <;> (conv => lhs; whnf)
  rotate_left
  · exact (hD _).2 hend
  have hkl : k < ds0.length := by
    have hlt : (k : Int) < (ds0.length : Int) := hlt
    omega
  have hn40 : ds.length < 40 := by
    have hl40 : (ds.length : Int) < 40 := hl40
    omega
  clear hend
  obtain ⟨g0, o, rfl, hra⟩ := Sl.at_ hc ha1 ha2 ha3 (by omega)
  obtain ⟨cs, r1, hR1⟩ := deed_at hra hR k hkl rfl
  generalize ds0[k] = d at hR1
  obtain ⟨⟨zxid, kind, ses, turn, xid, dtime, path, data, owner, ver, cver, tmo, err, cfg, mem⟩, parts⟩ := d
  rw [DeedR] at hR1
  dsimp only [DeedH.cells] at hR1
  obtain ⟨vd, vm, vp, rws, rfl, hpl, hd1, hMm, hSp, hlen2, hRows⟩ := hR1
  obtain ⟨a7, k7, rfl⟩ := hd1.1.form
  obtain ⟨a14, k14, rfl⟩ := hMm.1.form
  obtain ⟨a15, k15, rfl⟩ := hSp.form
  have i0 : (0 : Int) ≤ (k : Int) ∧ (k : Int) < (ds0.length : Int) := by omega
  have r2 := rd_sub hM.a0 r1
  repeat (first | refine go_in i0 ?_ | refine go_rd r2 ?_
          conv => lhs; whnf)
  obtain ⟨z, hz⟩ : ∃ z : Int, z = IntKind.i64.wrap (5 + IntKind.i64.wrap (2 * (ds.length : Int))) := ⟨_, rfl⟩
  have hzn : z = 5 + 2 * (ds.length : Int) := by
    have h1 : IntKind.i64.wrap (2 * (ds.length : Int)) = 2 * (ds.length : Int) := Sx.wrap_i64 (by omega) (by omega)
    rw [hz, h1, Sx.wrap_i64 (by omega) (by omega)]
  obtain ⟨dd, hdd⟩ : ∃ dd : DeedD, dd = .mk ⟨z, kind, ses, turn, xid, dtime, path, data, owner, ver, cver, tmo, err, cfg, mem⟩ parts := ⟨_, rfl⟩
  have hdh : dd.h = ⟨z, kind, ses, turn, xid, dtime, path, data, owner, ver, cver, tmo, err, cfg, mem⟩ := by rw [hdd]; rfl
  have hRd : DeedR A dd [.int .i64 z, .int .u8 kind, .int .i64 ses, .int .i64 turn, .int .i64 xid, .int .i64 dtime, .string path, .slice a7 data.length k7, .int .i64 owner, .int .i64 ver, .int .i64 cver, .int .i64 tmo, .int .i64 err, .int .i64 cfg, .slice a14 mem.length k14, .slice a15 parts.length k15] := by
    rw [hdd, DeedR]
    exact ⟨_, _, _, rws, rfl, hpl, hd1, hMm, hSp, hlen2, hRows⟩
  rw [← hz]
  refine split_dec (fun h100 => ?_) (fun h100 => ?_) <;> (conv => lhs; whnf)
  · exact (hD _).2 ⟨(⟨k + 1, Ak, B, C, O, T, .slice (addrA bd) ds.length cd, .slice (addrA bt) ts.length ct, ds, rs, ts, N⟩ : FtG), ⟨⟨by show k + 1 ≤ ds0.length; omega, hM, hare, hcop, hP⟩, ⟨inc_slot (k := k) (by omega), rfl, rfl, trivial⟩, trivial, rfl⟩, by show ds0.length - (k + 1) < ds0.length - k; omega, ⟨same1 rfl rfl, same1 rfl rfl, trivial⟩, trivial⟩
  have hnl : T.nodes.length ≤ 1000000 := by
    have := hP.nlen
    omega
  have hsl : T.seats.length ≤ 1000000 := by
    have := hP.slen
    omega
  refine (hD _).2 ⟨((⟨T, B, O, t⟩ : TG), (⟨z, kind, ses, turn, xid, dtime, path, data, owner, ver, cver, tmo, err, cfg, mem⟩ : DeedH)), ⟨a7, _, k7, a14, _, k14, a15, _, k15, rfl, hM.tree, hnl⟩, fun v A4 hq => ?_⟩
  obtain ⟨s4, b, hv, hfit⟩ : Ak.Sub A4 ∧ ∃ b, v = .bool b ∧ (b = true → FitT ⟨z, kind, ses, turn, xid, dtime, path, data, owner, ver, cver, tmo, err, cfg, mem⟩ T) := hq
  rw [← hdh] at hfit
  have hM4 := hM.more s4
  cases b with
  | false =>
    subst hv
    conv => lhs; whnf
    exact (hD _).2 ⟨(⟨k + 1, A4, B, C, O, T, .slice (addrA bd) ds.length cd, .slice (addrA bt) ts.length ct, ds, rs, ts, N⟩ : FtG), ⟨⟨by show k + 1 ≤ ds0.length; omega, hM4, hare, hcop, hP⟩, ⟨inc_slot (k := k) (by omega), rfl, rfl, trivial⟩, trivial, rfl⟩, by show ds0.length - (k + 1) < ds0.length - k; omega, ⟨same1 rfl rfl, same1 rfl rfl, trivial⟩, trivial⟩
  | true =>
    subst hv
    have hfit := hfit rfl
    conv => lhs; whnf
    refine (hD _).2 ⟨(⟨T, B, O, t⟩ : TG), ⟨rfl, hM4.tree, hP.ok.seatsOk, hsl⟩, fun v A5 hq => ?_⟩
    obtain ⟨s5, tw, Bw, Ow, Ew, skw, hv, hTw, hOw, hBw, hEw, hskw⟩ : A4.Sub A5 ∧ ∃ (t' : Nat) (B' : Arena) (O' : Nat → Prop) (E sk : List (ByteArray × Nat × NodeD)), v = .pointer (some ⟨t', 0, none⟩) ∧ TreeAt A5 B' O' t' ⟨copyNodes sk, seatsOf (treeSits T)⟩ ∧ (∀ k, O' k → A4.blk k = none) ∧ (∀ k o, B'.blk k = some o → A4.blk k = none) ∧ T.nodes = kMap (·.2) E ∧ sk.Perm E := hq
    subst hv
    have hM5 := hM4.more s5
    have heW := copy_eq hP.ok hEw hskw
    have hlW := copy_len hEw hskw (n := 42) (m := 80) (by have := hP.nlen; omega) (by have := hP.slen; omega)
    obtain ⟨W, hW⟩ : ∃ W : TreeD, W = ⟨copyNodes skw, seatsOf (treeSits T)⟩ := ⟨_, rfl⟩
    rw [← hW] at hTw heW
    have hWn : W.nodes.length ≤ 1000000 ∧ W.seats.length ≤ 1000000 := by
      rw [hW]
      exact ⟨by show (copyNodes skw).length ≤ _; omega, by show (seatsOf (treeSits T)).length ≤ _; omega⟩
    clear hlW
    have hWnd := TreeAt.nd hTw
    have hWfit : TFits W := ⟨seatsOk_of heW hP.ok hWnd, hWn.1, hWn.2⟩
    have hRC : DeedR C dd [.int .i64 z, .int .u8 kind, .int .i64 ses, .int .i64 turn, .int .i64 xid, .int .i64 dtime, .string path, .slice a7 data.length k7, .int .i64 owner, .int .i64 ver, .int .i64 cver, .int .i64 tmo, .int .i64 err, .int .i64 cfg, .slice a14 mem.length k14, .slice a15 parts.length k15] := DeedR.sub hM.sub _ _ hRd
    conv => lhs; whnf
    refine (hD _).2 ⟨((⟨T, B, O, t⟩ : TG), dd, C), ⟨_, rfl, hM5.tree, hRC, hHas.sub hM.sub, hM5.aside⟩, fun v A6 hq => ?_⟩
    obtain ⟨B6, O6, hT6, hS6⟩ : StepTo A5 B O t (treeApply T dd) A6 := hq
    have hM6 := hM5.step hT6 hS6
    have hTw6 := was_step hM4.tree hTw hOw hBw hS6
    have hok6 := hP.ok.apply dd
    have hl6 : (treeApply T dd).nodes.length ≤ 1000000 ∧ (treeApply T dd).seats.length ≤ 1000000 := by
      have h1 := apply_len T dd
      have h2 := apply_slen T dd
      have h3 := hP.nlen
      have h4 := hP.slen
      by_cases hr : RightD dd
      · have h5 := right_parts hr hfit.n.kind
        have h6 : ([] : List DeedD).length = 0 := rfl
        rw [h5] at h1
        exact ⟨by omega, by omega⟩
      · have e : treeApply T dd = T := by unfold treeApply; rw [if_neg hr]
        rw [e]
        exact ⟨hnl, hsl⟩
    conv => lhs; whnf
    refine (hD _).2 ⟨((⟨W, Bw, Ow, tw⟩ : TG), (⟨treeApply T dd, B6, O6, t⟩ : TG)), ⟨rfl, hTw6, hT6, hWfit, hok6.seatsOk, hl6.1, hl6.2⟩, fun v A7 hq => ?_⟩
    obtain ⟨s7, hv⟩ : A6.Sub A7 ∧ v = .bool (decide (TSame W (treeApply T dd))) := hq
    have hM7 := hM6.more s7
    by_cases hr : RightD dd
    rotate_left
    · have hns := unseen heW hP.ok.nd hWnd hr
      rw [decide_eq_true hns] at hv
      subst hv
      have e : treeApply T dd = T := by unfold treeApply; rw [if_neg hr]
      rw [e] at hM7
      conv => lhs; whnf
      exact (hD _).2 ⟨(⟨k + 1, A7, B6, C, O6, T, .slice (addrA bd) ds.length cd, .slice (addrA bt) ts.length ct, ds, rs, ts, N⟩ : FtG), ⟨⟨by show k + 1 ≤ ds0.length; omega, hM7, hare, hcop, hP⟩, ⟨inc_slot (k := k) (by omega), rfl, rfl, trivial⟩, trivial, rfl⟩, by show ds0.length - (k + 1) < ds0.length - k; omega, ⟨same1 rfl rfl, same1 rfl rfl, trivial⟩, trivial⟩
    have hzd : dd.h.zxid = 5 + 2 * (ds.length : Int) := by rw [hdh]; exact hzn
    have hns : ¬ TSame W (treeApply T dd) := change_seen (L := lastZ ds.length) heW hP.ok.nd hr (fun q => by rw [hP.now]; exact hP.hist.le _ (Nat.le_refl _) q) (by rw [hzd]; unfold lastZ; split <;> omega) hfit.n fun h2 => by
      rcases hfit with ⟨h3, _⟩ | ⟨_, h3⟩
      · omega
      · exact h3
    rw [decide_eq_false hns] at hv
    subst hv
    have hP7 := hP.next hzd hr hfit hn40
    generalize hT7e : treeApply T dd = T7 at hM7 hok6 hl6 hP7
    clear hM6 hTw6 hT6 hM5 hM4 hTw heW hns hM
    conv => lhs; whnf
    refine (hD _).2 fun ge A8 hN8 => ?_
    have hN8 : A7.New A8 ge (List.toArray [.int .i64 z, .int .u8 kind, .int .i64 ses, .int .i64 turn, .int .i64 xid, .int .i64 dtime, .string path, .slice a7 data.length k7, .int .i64 owner, .int .i64 ver, .int .i64 cver, .int .i64 tmo, .int .i64 err, .int .i64 cfg, .slice a14 mem.length k14, .slice a15 parts.length k15]) 53 := hN8
    obtain ⟨row, hrw⟩ : ∃ row : List Value, row = [.int .i64 z, .int .u8 kind, .int .i64 ses, .int .i64 turn, .int .i64 xid, .int .i64 dtime, .string path, .slice a7 data.length k7, .int .i64 owner, .int .i64 ver, .int .i64 cver, .int .i64 tmo, .int .i64 err, .int .i64 cfg, .slice a14 mem.length k14, .slice a15 parts.length k15] := ⟨_, rfl⟩
    have hone : ∀ v ∈ row, v.oneCell' = true := fun v hv => by
      rw [hrw] at hv
      simp only [List.mem_cons, List.not_mem_nil, or_false] at hv
      rcases hv with rfl | rfl | rfl | rfl | rfl | rfl | rfl | rfl | rfl | rfl | rfl | rfl | rfl | rfl | rfl | rfl <;> rfl
    have hrl : row.length = 16 := by rw [hrw]; rfl
    rw [← hrw] at hN8 hRd
    have hM8 := hM7.more hN8.sub
    have hPd := hM8.drow.formB.1 1 184 (by omega) (by omega)
    have hrow9 : A8.rd ge 0 (1 * 16) = some row := by
      have := hN8.rd (o := 0) (n := 1 * 16) (by rw [List.size_toArray, hrl]; omega)
      rw [this, List.drop_zero, List.take_of_length_le (by show row.length ≤ 1 * 16; omega)]
    have hbt2 : ∃ gt, bt = some (gt, 0) := by
      rcases hbt with rfl | ⟨gt, rfl⟩
      · have := (hM8.trow.formB.1 1 8 (by omega) (by rw [hP.tlen]; omega)).none_ rfl
        rw [hP.tlen] at this
        omega
      · exact ⟨gt, rfl⟩
    obtain ⟨gt, rfl⟩ := hbt2
    have hl7 : T7.seats.length ≤ 1000000 := hl6.2
    rcases hbd with rfl | ⟨gx, rfl⟩ <;> (conv => lhs; whnf)
    all_goals
      refine (hD _).2 ⟨rs.flatten, row, hPd.rd, ?_, hrl, hone, ?_, hPd.cap, rfl, hPd.none_, fun g' o' he' hle' _ => hPd.room row.length hrl g' o' he' hle', fun v9 A9 hAp => ?_⟩
      · show (if 1 * 16 = 0 then some [] else A8.rd ge 0 (1 * 16)) = _
        rw [if_neg (by omega)]; exact hrow9
      · show ds.length + 1 ≤ 9223372036854775807
        omega
      · have hM9 := hM8.pushD hrl hAp
        conv => lhs; whnf
        refine (hD _).2 ⟨(⟨T7, B6, O6, t⟩ : TG), ⟨rfl, hM9.tree, hok6.seatsOk, hl7⟩, fun v AA hq => ?_⟩
        obtain ⟨sA, tc, Bc, Oc, Ec, skc, hv, hTc, hOc, hBc, hEc, hskc⟩ : A9.Sub AA ∧ ∃ (t' : Nat) (B' : Arena) (O' : Nat → Prop) (E sk : List (ByteArray × Nat × NodeD)), v = .pointer (some ⟨t', 0, none⟩) ∧ TreeAt AA B' O' t' ⟨copyNodes sk, seatsOf (treeSits T7)⟩ ∧ (∀ k, O' k → A9.blk k = none) ∧ (∀ k o, B'.blk k = some o → A9.blk k = none) ∧ T7.nodes = kMap (·.2) E ∧ sk.Perm E := hq
        subst hv
        have hec := copy_eq hok6 hEc hskc
        have hlc := (copy_len hEc hskc (n := 42) (m := 100) (by have := hP7.nlen; rw [List.length_append, List.length_singleton] at this; omega) (by have := hP7.slen; rw [List.length_append, List.length_singleton] at this; omega)).1
        conv => lhs; whnf
        refine (hD _).2 fun gf AB hNB => ?_
        have hNB : AA.New AB gf #[ptrV tc] 37 := hNB
        have hMB := hM9.more (sA.trans hNB.sub)
        have hPt := hMB.trow.formB.1 1 8 (by omega) (by rw [hP.tlen]; omega)
        have hrowt : AB.rd gf 0 (1 * 1) = some [ptrV tc] := hNB.rd (o := 0) (n := 1 * 1) (by show 0 + 1 * 1 ≤ 1; omega)
        conv => lhs; whnf
        refine (hD _).2 ⟨ts.map ptrV, [ptrV tc], hPt.rd, hrowt, rfl, fun v hv => by
          rw [List.mem_singleton] at hv
          rw [hv]
          rfl, ?_, hPt.cap, rfl, hPt.none_, fun g' o' he' hle' _ => hPt.room 1 rfl g' o' he' hle', fun vC AC hAp2 => ?_⟩
        · show ts.length + 1 ≤ 9223372036854775807
          rw [hP.tlen]
          omega
        · obtain ⟨CC, hMC, hcopC⟩ := hMB.pushT (N' := fun i q => if i ≤ ds.length then N i q else kGet q T7.nodes) hcop (TreeAt_sub hTc hNB.sub) (fun j hj => by
            obtain ⟨n1, _, _, n4, n5⟩ := hM9.live (hOc j hj)
            exact ⟨n1, n5, n4⟩) (fun j o hj => by
            obtain ⟨n1, _, _, n4, n5⟩ := hM9.live (hBc j o hj)
            exact ⟨n1, n5, n4⟩) (fun i hi q => if_pos (by rw [hP.tlen] at hi; omega)) (fun q => by
            show _ = if ts.length ≤ ds.length then _ else _
            rw [if_neg (by rw [hP.tlen]; omega)]
            exact (hec.1 q).symm) (by show (copyNodes skc).length ≤ _; omega) hAp2
          conv => lhs; whnf
          exact (hD _).2 ⟨(⟨k + 1, AC, B6, CC, O6, T7, v9, vC, ds ++ [dd], rs ++ [row], ts ++ [tc], fun i q => if i ≤ ds.length then N i q else kGet q T7.nodes⟩ : FtG), ⟨⟨by show k + 1 ≤ ds0.length; omega, by
            show FtM _ _ _ _ _ _ _ _ _ (ds ++ [dd]).length (ts ++ [tc]).length (rs ++ [row]).flatten _
            rw [List.length_append, List.length_append, List.flatten_append]
            simpa using hMC, DeedsR.snoc hare hRd, hcopC, by
            show FtP T7 (ds ++ [dd]) (ts ++ [tc]).length _
            rw [List.length_append]
            exact hP7⟩, ⟨inc_slot (k := k) (by omega), rfl, rfl, trivial⟩, trivial, rfl⟩, by show ds0.length - (k + 1) < ds0.length - k; omega, ⟨same1 rfl rfl, same1 rfl rfl, trivial⟩, trivial⟩

end
end Go.Proofs.YtfpfjobknefedaaGreatDoor

namespace Go.Proofs.YtfpfjobknefedaaGreatDoor
open Go.Sx Go.RowKit
noncomputable section
open Classical

theorem ring_at {A : Arena} {g o n : Nat} {l : List RingD} (h : A.rd g o (n * 5) = some (l.flatMap RingD.cells)) (k : Nat) (hk : k < l.length) (hn : n = l.length) : A.rd g (o + k * 5) 5 = some l[k].cells := by
  have h' : A.rd g o (n * 5) = some (l.map RingD.cells).flatten := by rw [h, List.flatMap_def]
  have := rows_at h' (fun r hr => by obtain ⟨w, _, rfl⟩ := List.mem_map.1 hr; rfl) k (by simpa using hk) (by simpa using hn)
  rw [this]
  simp

def isEqS : FSpec := ⟨List RingD, fun l vs A => ∃ x y, vs = [x, y] ∧ Sl A 5 l.length x (l.flatMap RingD.cells) ∧ Sl A 5 l.length y (l.flatMap RingD.cells) ∧ l.length ≤ 1000000000, fun _ _ A v A' => A' = A ∧ v = .bool true⟩

set_option maxRecDepth 100000 in
set_option maxHeartbeats 0 in
theorem isEq_ok : FOk Tryz.prog 15 isEqS := by
  refine fok_v mixed fun (l : List RingD) vs A hp => ?_
  obtain ⟨x, y, rfl, ⟨ao, c, rfl, hc, _, ha1, ha2, ha3⟩, ⟨bo, d, rfl, hd, _, hb1, hb2, hb3⟩, hl⟩ : ∃ x y, vs = [x, y] ∧ Sl A 5 l.length x (l.flatMap RingD.cells) ∧ Sl A 5 l.length y (l.flatMap RingD.cells) ∧ l.length ≤ 1000000000 := hp
  refine ⟨noC, tabO Tryz.prog noC noL 60 [(15, 0)], 60, noC_sound _, tabO_sound mixed (noC_sound _) (noL_sound _) _ _, fun blk os out tape D hD => ?_⟩
  have hend : isEqS.post l [] A (.bool true) A := ⟨rfl, rfl⟩
  conv => lhs; whnf
  refine split_nd (fun _ => ?_) (fun h => absurd rfl h)
  conv => lhs; whnf
  refine (hD _).2 ⟨cnt A 5 [0, 1] [] l.length fun _ => True, ⟨(0 : Nat), ⟨Nat.zero_le _, trivial⟩, ⟨rfl, trivial⟩, trivial, rfl⟩, fun (k : Nat) hk => ⟨⟨trivial, trivial⟩, trivial, ?_⟩⟩
  simp only [cnt] at hk
  conv => lhs; whnf
  refine split_dec (fun hlt => ?_) (fun hlt => ?_)
  rotate_left
  · conv => lhs; whnf
    exact (hD _).2 hend
  have hlt : (k : Int) < (l.length : Int) := hlt
  have hkl : k < l.length := by omega
  have i0 : (0 : Int) ≤ (k : Int) ∧ (k : Int) < (l.length : Int) := by omega
  obtain ⟨g, o, rfl, hra⟩ := Sl.at_ hc ha1 ha2 ha3 (by omega)
  obtain ⟨g', o', rfl, hrb⟩ := Sl.at_ hd hb1 hb2 hb3 (by omega)
  have h1 := ring_at hra k hkl rfl
  have h2 := ring_at hrb k hkl rfl
  obtain ⟨w, hw⟩ : ∃ w, w = l[k] := ⟨_, rfl⟩
  rw [← hw] at h1 h2
  obtain ⟨cn, kd, so, p, z⟩ := w
  have hbb : beqL p.data.toList p.data.toList = true := beqL_iff.2 rfl
  conv => lhs; whnf
  repeat (first | refine go_in i0 ?_ | refine go_rd h1 ?_ | refine go_rd h2 ?_ | refine go_D hD rfl ?_ | refine go_D hD (by kernel_rfl) ?_
          conv => lhs; whnf)
  refine split_b (fun hb => ?_) (fun hb => ?_)
  · rw [hbb] at hb
    simp at hb
  conv => lhs; whnf
  exact (hD _).2 ⟨(k + 1 : Nat), ⟨⟨hkl, trivial⟩, ⟨inc_slot (by omega), trivial⟩, trivial, rfl⟩, by show l.length - (k + 1) < l.length - k; omega, ⟨same1 rfl rfl, same1 rfl rfl, trivial⟩, trivial⟩

end
end Go.Proofs.YtfpfjobknefedaaGreatDoor

namespace Go.Proofs.YtfpfjobknefedaaGreatDoor
open Go.Sx Go.RowKit
noncomputable section
open Classical

def pRoot : ByteArray := ⟨#[47]⟩
def pA : ByteArray := ⟨#[47, 97]⟩

theorem may_a2 : mayD 2 pA = true := by kernel_rfl
theorem may_a1 : mayD 1 pA = true := by kernel_rfl
theorem may_r3 : mayD 3 pRoot = true := by kernel_rfl
theorem parent_a : parentP pA = pRoot := by kernel_rfl
theorem ok_a : pathOk pA.data.toList = true := by kernel_rfl
theorem ne_ra : ¬ pRoot = pA := by
  intro h
  have := congrArg (fun b : ByteArray => b.data.toList.length) h
  revert this
  decide

def w1 : WatchD := ⟨1, 2, pA⟩
def w2 : WatchD := ⟨2, 3, pRoot⟩
def w3 : WatchD := ⟨1, 3, pRoot⟩

theorem put1 : wPut w1 [] = [w1] := by unfold wPut; rw [if_neg (by simp)]; rfl
theorem put2 : wPut w2 [w1] = [w1, w2] := by
  unfold wPut
  rw [if_neg]
  · rfl
  · intro h
    rw [List.mem_singleton] at h
    injection h with h
    exact absurd h (by decide)
theorem put3 : wPut w3 [w1, w2] = [w1, w2, w3] := by
  unfold wPut
  rw [if_neg]
  · rfl
  · intro h
    simp only [List.mem_cons, List.not_mem_nil, or_false] at h
    rcases h with h | h
    · injection h with _ h
      exact absurd h (by decide)
    · injection h with h
      exact absurd h (by decide)
theorem put4 : wPut w3 [w1, w2, w3] = [w1, w2, w3] := by unfold wPut; rw [if_pos (by simp)]

def dA : DeedD := .mk ⟨5, 1, 0, 0, 0, 0, pA, [], 0, 0, 1, 0, 0, 0, []⟩ []

theorem right_a : RightD dA := by
  refine ⟨by decide, by decide, by decide, by decide, by decide, by decide, ?_, fun h => absurd h (by decide), fun h => absurd h (by decide), fun h => absurd h (by decide)⟩
  have hk : ∀ (i : Nat) {q : Prop}, hasK 1 i → hasK dA.h.kind i ∨ q := fun _ _ h => .inl h
  refine ⟨by decide, hk 0 (by unfold hasK; decide), .inr rfl, .inr rfl, .inr rfl, hk 4 (by unfold hasK; decide), .inr rfl, .inr rfl, .inr rfl, .inr ⟨rfl, rfl⟩, fun _ => ok_a, by decide, by decide, by decide, by decide, fun _ => by decide, fun h => absurd h (by decide), fun h => absurd h (by decide), fun h => absurd h (by decide)⟩

def rA : List RingD := [⟨1, 1, 2, pA, 5⟩, ⟨1, 4, 3, pRoot, 5⟩, ⟨2, 4, 3, pRoot, 5⟩]

theorem rungK1 : rungK 1 pA w1 = 1 := by
  unfold rungK w1
  simp
theorem rungK2 : rungK 1 pA w2 = 4 := by
  unfold rungK w2
  simp [parent_a]
theorem rungK3 : rungK 1 pA w3 = 4 := by
  unfold rungK w3
  simp [parent_a]

theorem rings_a : ringsW dA [w1, w2, w3] = (rA, []) := by
  unfold ringsW
  rw [if_pos right_a]
  show (([] : List RingD) ++ chRings 1 pA 5 [w1, w2, w3], unrung 1 pA [w1, w2, w3]) = (rA, [])
  have h1 : rung 1 pA [w1, w2, w3] = [w1, w2, w3] := List.filter_eq_self.2 fun w hw => by
    simp only [List.mem_cons, List.not_mem_nil, or_false] at hw
    rcases hw with rfl | rfl | rfl
    · rw [rungK1]; rfl
    · rw [rungK2]; rfl
    · rw [rungK3]; rfl
  have h2 : unrung 1 pA [w1, w2, w3] = [] := List.filter_eq_nil_iff.2 fun w hw => by
    simp only [List.mem_cons, List.not_mem_nil, or_false] at hw
    rcases hw with rfl | rfl | rfl
    · rw [rungK1]; simp
    · rw [rungK2]; simp
    · rw [rungK3]; simp
  have h3 : sortW [w1, w2, w3] = [w1, w3, w2] := by
    rw [sortW_of_perm (vs := [w1, w3, w2]) ((List.Perm.swap w3 w2 []).cons w1), sortW_id]
    simp [wLt, w1, w2, w3]
  unfold chRings
  rw [h1, h2, h3]
  simp only [List.map_cons, List.map_nil, List.nil_append, rungK1, rungK2, rungK3]
  rfl

def awS : FSpec := ⟨Unit, fun _ vs A => vs = [] ∧ HasA A, fun _ _ A v A' => A.Sub A' ∧ v = .bool true⟩

theorem TwTo.then {A A' A'' : Arena} {t m : Nat} {ws ws' ws'' : List WatchD} (h : TwTo A ⟨t, m, ws⟩ ws' A') (k : TwTo A' ⟨t, m, ws'⟩ ws'' A'') : TwTo A ⟨t, m, ws⟩ ws'' A'' :=
  ⟨k.tower, fun b o hb ho => k.keep b o hb (h.keep b o hb ho), fun b hb => h.dom b (k.dom b hb)⟩

theorem TwTo.from {A A1 A' : Arena} {t m : Nat} {ws ws' : List WatchD} (h : TwTo A1 ⟨t, m, ws⟩ ws' A') (s : A.Sub A1) (hm : A.blk m = none) : A.Sub A' := fun k o hk => h.keep k o (fun e => by
  have e : k = m := e
  rw [e, hm] at hk; cases hk) (s k o hk)

set_option maxRecDepth 100000 in
set_option maxHeartbeats 0 in
theorem aw_ok : FOk Tryz.prog 4 awS := by
  refine fok_v mixed fun _ vs A hp => ?_
  obtain ⟨rfl, hHas⟩ : vs = [] ∧ HasA A := hp
  have hC : CTSound Tryz.prog (lookC [specE 9 bellNewS, specE 10 bellAddS, specE 13 bellCountS, specE 11 bellRingS, specE 12 bellAgainS, specE 15 isEqS] noC) := lookC_sound (noC_sound _) (fun x hx => by
    simp only [List.mem_cons, List.not_mem_nil, or_false] at hx
    rcases hx with rfl | rfl | rfl | rfl | rfl | rfl
    · exact specE_ok bellNew_ok
    · exact specE_ok bellAdd_ok
    · exact specE_ok bellCount_ok
    · exact specE_ok bellRing_ok
    · exact specE_ok bellAgain_ok
    · exact specE_ok isEq_ok)
  refine ⟨_, noL, 60, hC, noL_sound _, fun blk os out tape D hD => ?_⟩
  conv => lhs; whnf
  refine (hD _).2 ⟨(), rfl, fun v A1 hq => ?_⟩
  obtain ⟨s1, t, m, hv, hT1, htn, hmn⟩ : A.Sub A1 ∧ ∃ t m, v = .pointer (some ⟨t, 0, none⟩) ∧ TowerAt A1 t m [] ∧ A.blk t = none ∧ A.blk m = none := hq
  subst hv
  conv => lhs; whnf
  refine (hD _).2 ⟨(⟨t, m, []⟩, w1), ⟨rfl, hT1⟩, fun v A2 hq => ?_⟩
  have hq : TwTo A1 ⟨t, m, []⟩ (if mayD 2 pA = true then wPut w1 [] else []) A2 := hq
  rw [if_pos may_a2, put1] at hq
  have hT2 := hq
  conv => lhs; whnf
  refine (hD _).2 ⟨(⟨t, m, [w1]⟩, w2), ⟨rfl, hT2.tower⟩, fun v A3 hq => ?_⟩
  have hq : TwTo A2 ⟨t, m, [w1]⟩ (if mayD 3 pRoot = true then wPut w2 [w1] else [w1]) A3 := hq
  rw [if_pos may_r3, put2] at hq
  have hT3 := hT2.then hq
  conv => lhs; whnf
  refine (hD _).2 ⟨(⟨t, m, [w1, w2]⟩, w3), ⟨rfl, hT3.tower⟩, fun v A4 hq => ?_⟩
  have hq : TwTo A3 ⟨t, m, [w1, w2]⟩ (if mayD 3 pRoot = true then wPut w3 [w1, w2] else [w1, w2]) A4 := hq
  rw [if_pos may_r3, put3] at hq
  have hT4 := hT3.then hq
  conv => lhs; whnf
  refine (hD _).2 ⟨(⟨t, m, [w1, w2, w3]⟩, w3), ⟨rfl, hT4.tower⟩, fun v A5 hq => ?_⟩
  have hq : TwTo A4 ⟨t, m, [w1, w2, w3]⟩ (if mayD 3 pRoot = true then wPut w3 [w1, w2, w3] else [w1, w2, w3]) A5 := hq
  rw [if_pos may_r3, put4] at hq
  have hT5 := hT4.then hq
  conv => lhs; whnf
  refine (hD _).2 ⟨⟨t, m, [w1, w2, w3]⟩, ⟨rfl, hT5.tower⟩, fun v A6 hq => ?_⟩
  obtain ⟨h9, hv⟩ : A6 = A5 ∧ v = .int .i64 ((3 : Nat) : Int) := hq
  subst h9; subst hv
  have hHas5 := hHas.sub (hT5.from s1 hmn)
  obtain ⟨em, cm, hom, _⟩ := hT5.tower.map
  have hdv : DeedR Arena.void dA [.int .i64 5, .int .u8 1, .int .i64 0, .int .i64 0, .int .i64 0, .int .i64 0, .string pA, .slice none 0 0, .int .i64 0, .int .i64 0, .int .i64 1, .int .i64 0, .int .i64 0, .int .i64 0, .slice none 0 0, .slice none 0 0] := by
    unfold dA
    rw [DeedR]
    exact ⟨_, _, _, [], rfl, by decide, ⟨Sl.nil _ _, by simp⟩, ⟨Sl.nil _ _, by simp⟩, Sl.nil _ _, by simp, by rw [DeedsR]⟩
  have hok3 : WOk [w1, w2, w3] := fun w hw => by
    simp only [List.mem_cons, List.not_mem_nil, or_false] at hw
    rcases hw with rfl | rfl | rfl
    · unfold w1; decide
    · unfold w2; decide
    · unfold w3; decide
  conv => lhs; whnf
  refine (hD _).2 ⟨(⟨t, m, [w1, w2, w3]⟩, dA, Arena.void), ⟨_, rfl, hT5.tower, hok3, by show (3 : Nat) ≤ 1000000; omega, hdv, fun _ _ h => (by cases h), rfl, hHas5⟩, fun v A7 hq => ?_⟩
  obtain ⟨hT7, hG7⟩ : TwTo A6 ⟨t, m, [w1, w2, w3]⟩ (ringsW dA [w1, w2, w3]).2 A7 ∧ GrowR A6 A7 5 55 (ringsW dA [w1, w2, w3]).1.length v ((ringsW dA [w1, w2, w3]).1.flatMap RingD.cells) := hq
  rw [rings_a] at hT7 hG7
  dsimp only at hT7 hG7
  obtain ⟨q7, cp7, hv7, hq7, -⟩ := hG7.formN
  subst hv7
  conv => lhs; whnf
  refine (hD _).2 ⟨((⟨t, m, []⟩ : TwG), (⟨1, 1, pA⟩ : WatchD), 7, (⟨⟨#[]⟩, 0, 9, 0, 0, 0, 0, 0, 0, 0, 0⟩ : NdD), true), ⟨_, _, _, rfl, hT7.tower⟩, fun v A8 hq => ?_⟩
  have hag : againW ⟨1, 1, pA⟩ 7 ⟨⟨#[]⟩, 0, 9, 0, 0, 0, 0, 0, 0, 0, 0⟩ true [] = (⟨3, 1, pA, 9⟩, true, []) := by
    unfold againW
    have hk : toldK 1 7 ⟨⟨#[]⟩, 0, 9, 0, 0, 0, 0, 0, 0, 0, 0⟩ true = (3, 9) := by
      unfold toldK
      rw [if_neg (by simp), if_neg (by omega), if_neg (by omega), if_pos ⟨by omega, by show (7 : Int) < 9; omega⟩]
    dsimp only
    rw [if_pos may_a1, hk, if_neg (by decide)]
    rfl
  obtain ⟨hv, hT8⟩ : v = .tuple #[.agg (againW ⟨1, 1, pA⟩ 7 ⟨⟨#[]⟩, 0, 9, 0, 0, 0, 0, 0, 0, 0, 0⟩ true []).1.cells.toArray, .bool (againW ⟨1, 1, pA⟩ 7 ⟨⟨#[]⟩, 0, 9, 0, 0, 0, 0, 0, 0, 0, 0⟩ true []).2.1] ∧ TwTo A7 ⟨t, m, []⟩ (againW ⟨1, 1, pA⟩ 7 ⟨⟨#[]⟩, 0, 9, 0, 0, 0, 0, 0, 0, 0, 0⟩ true []).2.2 A8 := hq
  rw [hag] at hv hT8
  subst hv
  have hG8 := grow_stay hG7 fun b o h1 h2 => hT8.keep b o (fun e => by
    have e : b = m := e
    rw [e, hom] at h1; cases h1) h2
  have hAs : A.Sub A8 := fun b o hb => hT8.keep b o (fun e => by
    have e : b = m := e
    rw [e, hmn] at hb; cases hb) (hT7.keep b o (fun e => by
    have e : b = m := e
    rw [e, hmn] at hb; cases hb) (hT5.from s1 hmn b o hb))
  conv => lhs; whnf
  repeat (first | refine go_D hD rfl ?_ | refine go_dec rfl ?_
          conv => lhs; whnf)
  refine (hD _).2 fun gb A9 hN => ?_
  have hN : A8.New A9 gb #[.int .i64 1, .int .u8 1, .int .u8 2, .string pA, .int .i64 5, .int .i64 1, .int .u8 4, .int .u8 3, .string pRoot, .int .i64 5, .int .i64 2, .int .u8 4, .int .u8 3, .string pRoot, .int .i64 5] 55 := hN
  have hG9 := (hG8.sub hN.sub).sl
  have hw9 : Sl A9 5 3 (.slice (some ⟨gb, 0, none⟩) 3 3) (rA.flatMap RingD.cells) := Sl.row (Nat.le_refl _) (hN.rd (o := 0) (n := 3 * 5) (by show 0 + 3 * 5 ≤ 15; omega))
  have hT9 : TowerAt A9 t m [] := ⟨hT8.tower.top.sub fun o ho => hN.sub _ _ ho, hT8.tower.map.sub fun o ho => hN.sub _ _ ho, hT8.tower.nd, hT8.tower.ne⟩
  conv => lhs; whnf
  repeat (first | refine go_D hD rfl ?_ | refine go_dec rfl ?_
          conv => lhs; whnf)
  refine (hD _).2 ⟨rA, ⟨_, _, rfl, hG9, hw9, by show (3 : Nat) ≤ 1000000000; omega⟩, fun v AX hq => ?_⟩
  obtain ⟨hX, hv⟩ : AX = A9 ∧ v = .bool true := hq
  subst hX; subst hv
  conv => lhs; whnf
  repeat (first | refine go_D hD rfl ?_ | refine go_dec rfl ?_
          conv => lhs; whnf)
  refine (hD _).2 ⟨⟨t, m, []⟩, ⟨rfl, hT9⟩, fun v AY hq => ?_⟩
  obtain ⟨hY, hv⟩ : AY = AX ∧ v = .int .i64 ((0 : Nat) : Int) := hq
  subst hY; subst hv
  have hend : awS.post () [] A (.bool true) AY := ⟨hAs.trans hN.sub, rfl⟩
  conv => lhs; whnf
  repeat (first | refine go_D hD rfl ?_ | refine go_D hD (by kernel_rfl) ?_ | refine go_dec rfl ?_
          conv => lhs; whnf)
  exact (hD _).2 hend

end
end Go.Proofs.YtfpfjobknefedaaGreatDoor

namespace Go.Proofs.YtfpfjobknefedaaGreatDoor
open Go.Sx Go.RowKit
noncomputable section
open Classical

/-- Pick: a number below n. -/
def pickS : FSpec := ⟨Int × Nat, fun g vs _ => vs = [.int .i64 g.1, .int .i64 g.2] ∧ 1 ≤ g.2 ∧ g.2 ≤ 1000000, fun g _ A v A' => A' = A ∧ ∃ k : Nat, k < g.2 ∧ v = .int .i64 k⟩

set_option maxRecDepth 100000 in
set_option maxHeartbeats 0 in
theorem pick_ok : FOk Tryz.prog 6 pickS := by
  refine fok_v mixed fun ⟨x, n⟩ vs A hp => ?_
  obtain ⟨rfl, h1, h2⟩ : vs = [.int .i64 x, .int .i64 n] ∧ 1 ≤ n ∧ n ≤ 1000000 := hp
  refine ⟨noC, noL, 60, noC_sound _, noL_sound _, fun blk os out tape D hD => ?_⟩
  conv => lhs; whnf
  refine split_dec (fun h => ?_) (fun h => ?_) <;> (conv => lhs; whnf)
  · omega
  have hn0 : ¬ (n : Int) = 0 := by omega
  have hlo : -(n : Int) < Int.tmod x n := by
    have := Int.lt_tmod_of_pos x (b := (n : Int)) (by omega)
    omega
  have hhi : Int.tmod x n < n := Int.tmod_lt_of_pos x (by omega)
  have hend : ∀ z : Int, 0 ≤ z → z < n → pickS.post (x, n) [.int .i64 x, .int .i64 n] A (.int .i64 z) A := fun z h0 h1 => ⟨rfl, z.toNat, by show z.toNat < n; omega, by rw [Int.toNat_of_nonneg h0]⟩
  refine split_b (fun _ => ?_) (fun hb => absurd hb (by rw [decide_eq_false hn0]; decide)) <;> (conv => lhs; whnf)
  refine split_dec (fun h0 => ?_) (fun h0 => ?_) <;> (conv => lhs; whnf)
  · have hend1 := hend (IntKind.i64.wrap (Int.tmod x n + n)) (by rw [Sx.wrap_i64 (by omega) (by omega)]; omega) (by rw [Sx.wrap_i64 (by omega) (by omega)]; omega)
    exact (hD _).2 hend1
  · exact (hD _).2 (hend (Int.tmod x n) (by omega) hhi)

end
end Go.Proofs.YtfpfjobknefedaaGreatDoor

namespace Go.Proofs.YtfpfjobknefedaaGreatDoor
open Go.Sx Go.RowKit
noncomputable section
open Classical

structure BaG where
  i : Nat
  A : Arena
  ws : List WatchD
  rung : Nat
  F : EvD

structure BaI (A2 : Arena) (t m : Nat) (N : Nat → ByteArray → Option NodeD) (p : ByteArray) (so : Int) (fr to_ : Nat) (s : BaG) : Prop where
  lo : fr ≤ s.i
  hi : s.i ≤ to_
  sub : A2.Sub s.A
  tower : TowerAt s.A t m s.ws
  stand : StandB so p (N s.i p) fr s.ws s.rung s.F.z
  old : s.rung = 1 → s.F.z < 5 + 2 * (s.i : Int)

def baInv (A2 : Arena) (t m : Nat) (N : Nat → ByteArray → Option NodeD) (p : ByteArray) (so : Int) (fr to_ : Nat) : LInv := { γ := BaG, G := BaI A2 t m N p so fr to_, keepS := [2, 3, 11, 12, 16, 18], keepB := [], sl := fun s => [(4, .v (.int .i64 to_)), (13, .v (.int .u8 so)), (17, .v (.int .i64 s.rung)), (19, .v (.int .i64 s.i))], bl := fun s => [(1, .cells [.v (.int .u8 s.F.kind), .v (.int .u8 s.F.sort), .v (.string s.F.path), .v (.int .i64 s.F.z)] 0 (44 + 1))], ar := fun s => s.A, mu := fun s => to_ - s.i }

def bellAgS : FSpec := ⟨List DeedD × Int × ByteArray × Int × Int, fun g vs A => ∃ v, vs = [v, .int .i64 g.2.1, .string g.2.2.1, .int .i64 g.2.2.2.1, .int .i64 g.2.2.2.2] ∧ DeedsS A v g.1 ∧ HasA A, fun _ _ A v A' => A.Sub A' ∧ v = .bool true⟩

theorem ptr_at {A : Arena} {g o n : Nat} {ls : List Nat} (h : A.rd g o (n * 1) = some (ls.map ptrV)) (k : Nat) (hk : k < ls.length) (hn : n = ls.length) : A.rd g (o + k * 1) 1 = some [ptrV ls[k]] := by
  have := rd_at h (i := k * 1) (m := 1) (by omega)
  rw [this, Nat.mul_one, ← List.map_drop, ← List.map_take, List.drop_eq_getElem_cons hk]
  rfl

theorem pass_nb {b A B : Bool} (h : b = true) (hB : B = true) : (bif !b then A else B) = true := by
  rw [h]
  exact hB

set_option maxRecDepth 100000 in
set_option maxHeartbeats 0 in
theorem bellAg_ok : FOk Tryz.prog 3 bellAgS := by
  refine fok_v mixed fun ⟨ds0, sort, p, from_, to0⟩ vs A hp => ?_
  obtain ⟨v, rfl, hDs, hHas⟩ : ∃ v, vs = [v, .int .i64 sort, .string p, .int .i64 from_, .int .i64 to0] ∧ DeedsS A v ds0 ∧ HasA A := hp
  have hDs' := hDs
  obtain ⟨rows0, ⟨ao, c, rfl, -⟩, -⟩ := hDs
  have hC : CTSound Tryz.prog (lookC [specE 4 awS, specE 5 fittingS, specE 9 bellNewS, specE 6 pickS, specE 10 bellAddS, specE 11 bellRingS, specE 12 bellAgainS, specE 13 bellCountS, specE 8 getS, specE 7 checkS] noC) := lookC_sound (noC_sound _) (fun x hx => by
    simp only [List.mem_cons, List.not_mem_nil, or_false] at hx
    rcases hx with rfl | rfl | rfl | rfl | rfl | rfl | rfl | rfl | rfl | rfl
    · exact specE_ok aw_ok
    · exact specE_ok fitting_ok
    · exact specE_ok bellNew_ok
    · exact specE_ok pick_ok
    · exact specE_ok bellAdd_ok
    · exact specE_ok bellRing_ok
    · exact specE_ok bellAgain_ok
    · exact specE_ok bellCount_ok
    · exact specE_ok get_ok
    · exact specE_ok check_ok)
  refine ⟨_, tabO Tryz.prog _ noL 60 [(3, 0)], 60, hC, tabO_sound mixed hC (noL_sound _) _ _, fun blk os' out tape D hD => ?_⟩
  have hend : ∀ A', A.Sub A' → bellAgS.post (ds0, sort, p, from_, to0) [] A (.bool true) A' := fun A' h => ⟨h, rfl⟩
  conv => lhs; whnf
  refine (hD _).2 ⟨(), ⟨rfl, hHas⟩, fun v A1 hq => ?_⟩
  obtain ⟨s1, hv⟩ : A.Sub A1 ∧ v = .bool true := hq
  subst hv
  conv => lhs; whnf
  have hDs1 : DeedsS A1 (.slice ao ds0.length c) ds0 := DeedsS.sub s1 hDs'
  refine (hD _).2 ⟨ds0, ⟨_, rfl, hDs1, hHas.sub s1⟩, fun v A2 hq => ?_⟩
  obtain ⟨s2, dv, tv, ds, rows, ts, N, hv, hGd, hare, hGt, hcop, htl, h40, hist⟩ : A1.Sub A2 ∧ ∃ (dv tv : Value) (ds : List DeedD) (rows : List (List Value)) (ts : List Nat) (N : Nat → ByteArray → Option NodeD), v = .tuple #[dv, tv] ∧ GrowR A1 A2 16 53 ds.length dv (List.flatten rows) ∧ DeedsR A1 ds rows ∧ GrowR A1 A2 1 37 ts.length tv (ts.map ptrV) ∧ CopiesR A2 ts N ∧ ts.length = ds.length + 1 ∧ ds.length ≤ 40 ∧ HistD ds N := hq
  have hSd := hGd.sl
  have hSt := hGt.sl
  obtain ⟨ad, cd, hdv, hcd, -, hd1, hd2, hd3⟩ := hSd
  obtain ⟨at_, ct, htv, hct, -, ht1, ht2, ht3⟩ := hSt
  subst hdv; subst htv; subst hv
  obtain ⟨gt, ot, rfl, hrt⟩ := Sl.at_ hct ht1 ht2 ht3 (by rw [htl]; omega)
  clear hGd hGt
  conv => lhs; whnf
  refine (hD _).2 ⟨(from_, ts.length), ⟨rfl, by show 1 ≤ ts.length; omega, by show ts.length ≤ 1000000; omega⟩, fun v A3 hq => ?_⟩
  obtain ⟨h9, fr, hfr, hv⟩ : A3 = A2 ∧ ∃ k : Nat, k < ts.length ∧ v = .int .i64 k := hq
  have h9 := h9.symm
  subst h9; subst hv
  have hwk : IntKind.i64.wrap ((ts.length : Int) - (fr : Int)) = ((ts.length - fr : Nat) : Int) := by
    rw [Sx.wrap_i64 (by omega) (by omega)]; omega
  conv => lhs; whnf
  refine (hD _).2 ⟨(to0, ts.length - fr), ⟨congrArg (fun x => [Value.int .i64 to0, Value.int .i64 x]) hwk, by show 1 ≤ ts.length - fr; omega, by show ts.length - fr ≤ 1000000; omega⟩, fun v A4 hq => ?_⟩
  obtain ⟨h9, j, hj, hv⟩ : A4 = A2 ∧ ∃ k : Nat, k < ts.length - fr ∧ v = .int .i64 k := hq
  have h9 := h9.symm
  subst h9; subst hv
  have hwt : IntKind.i64.wrap ((fr : Int) + (j : Int)) = ((fr + j : Nat) : Int) := by
    rw [Sx.wrap_i64 (by omega) (by omega)]; omega
  conv => lhs; whnf
  refine (hD _).2 ⟨(sort, 3), ⟨rfl, by show (1 : Nat) ≤ 3; omega, by show (3 : Nat) ≤ 1000000; omega⟩, fun v A5 hq => ?_⟩
  obtain ⟨h9, s, hs3, hv⟩ : A5 = A2 ∧ ∃ k : Nat, k < 3 ∧ v = .int .i64 k := hq
  have h9 := h9.symm
  subst h9; subst hv
  obtain ⟨so, hso, hso1, hso3⟩ : ∃ so : Int, IntKind.u8.wrap (IntKind.i64.wrap (1 + (s : Int))) = so ∧ 1 ≤ so ∧ so ≤ 3 := by
    refine ⟨_, rfl, ?_⟩
    have h3 : s = 0 ∨ s = 1 ∨ s = 2 := by omega
    rcases h3 with rfl | rfl | rfl <;> decide
  conv => lhs; whnf
  refine (hD _).2 ⟨p, rfl, fun v A6 hq => ?_⟩
  obtain ⟨h9, hv⟩ : A6 = A2 ∧ v = .bool (pathOk p.data.toList) := hq
  have h9 := h9.symm
  subst h9
  by_cases hpk : pathOk p.data.toList = true
  rotate_left
  · rw [Bool.not_eq_true] at hpk
    rw [hpk] at hv
    subst hv
    conv => lhs; whnf
    exact (hD _).2 (hend A2 (s1.trans s2))
  rw [hpk] at hv
  subst hv
  have hmay : mayD so p = true := by
    unfold mayD
    rw [decide_eq_true hso1, decide_eq_true hso3, hpk]
    rfl
  have rf := ptr_at hrt fr hfr rfl
  have if0 : (0 : Int) ≤ (fr : Int) ∧ (fr : Int) < (ts.length : Int) := by omega
  obtain ⟨Bf, Of, Tf, hTf, hlf, hNf⟩ := hcop fr hfr
  obtain ⟨tf, htf⟩ : ∃ tf, tf = ts[fr] := ⟨_, rfl⟩
  rw [← htf] at rf hTf
  conv => lhs; whnf
  repeat (first | refine go_in if0 ?_ | refine go_rd rf ?_ | refine go_D hD rfl ?_
          conv => lhs; whnf)
  refine (hD _).2 ⟨((⟨Tf, Bf, Of, tf⟩ : TG), p), ⟨rfl, hTf, hlf⟩, fun v A3 hq => ?_⟩
  obtain ⟨s3, hg⟩ : A2.Sub A3 ∧ GotV A2 A3 Tf p v := hq
  obtain ⟨⟨q1, q2, q3, q4, q5, q6, q7, q8, q9, q10, q11⟩, a9, l9, c9, hv, -⟩ := got_form hg
  rw [hNf] at hv
  obtain ⟨was, hwas⟩ : ∃ b, (N fr p).isSome = b := ⟨_, rfl⟩
  rw [hwas] at hv
  subst hv
  conv => lhs; whnf
  refine split_dec (fun hws => ?_) (fun hws => ?_) <;> (conv => lhs; whnf)
  · exact (hD _).2 (hend A3 ((s1.trans s2).trans s3))
  have hws : ¬ (was = decide (IntKind.u8.wrap (IntKind.i64.wrap (1 + (s : Int))) = 2)) := hws
  rw [hso] at hws
  have hunr : UnrN so (N fr p) (lastZ fr) := by
    refine ⟨fun h2 => ?_, fun h2 hn => ?_, fun x hx => ?_⟩
    · rw [decide_eq_true h2, ← hwas] at hws
      exact Option.not_isSome_iff_eq_none.1 hws
    · rw [decide_eq_false h2, ← hwas, hn] at hws
      exact hws rfl
    · have := hist.le fr (by omega) p x hx
      exact ⟨fun _ => this.2.1, fun _ => ⟨this.1, this.2.2⟩⟩
  have hput : wPut (⟨4, so, p⟩ : WatchD) [] = [⟨4, so, p⟩] := by unfold wPut; rw [if_neg (by simp)]; rfl
  refine (hD _).2 ⟨(), rfl, fun v A4 hq => ?_⟩
  obtain ⟨s4, t, m, hv, hT4, htn, hmn⟩ : A3.Sub A4 ∧ ∃ t m, v = .pointer (some ⟨t, 0, none⟩) ∧ TowerAt A4 t m [] ∧ A3.blk t = none ∧ A3.blk m = none := hq
  subst hv
  conv => lhs; whnf
  refine (hD _).2 ⟨((⟨t, m, []⟩ : TwG), (⟨4, IntKind.u8.wrap (IntKind.i64.wrap (1 + (s : Int))), p⟩ : WatchD)), ⟨rfl, hT4⟩, fun v A5 hq => ?_⟩
  have hq : TwTo A4 ⟨t, m, []⟩ (if mayD (IntKind.u8.wrap (IntKind.i64.wrap (1 + (s : Int)))) p = true then wPut (⟨4, IntKind.u8.wrap (IntKind.i64.wrap (1 + (s : Int))), p⟩ : WatchD) [] else []) A5 := hq
  rw [hso, if_pos hmay, hput] at hq
  have s5 := hq.from s4 hmn
  have hT5 := hq.tower
  clear hq hT4
  conv => lhs; whnf
  repeat (first | refine go_D hD rfl ?_
          conv => lhs; whnf)
  refine (hD _).2 ⟨baInv A3 t m N p so fr (fr + j), ⟨(⟨fr, A5, [⟨4, so, p⟩], 0, noEv⟩ : BaG), ⟨Nat.le_refl _, Nat.le_add_right _ _, s5, hT5, .inl ⟨rfl, rfl, hunr⟩, fun h => by cases h⟩, ⟨congrArg (fun x => some (SV.v (.int .i64 x))) hwt, congrArg (fun x => some (SV.v (.int .u8 x))) hso, rfl, rfl, trivial⟩, ⟨rfl, trivial⟩, rfl⟩, fun (s : BaG) hG => ⟨⟨trivial, trivial, trivial, trivial, trivial⟩, ⟨Nat.lt_succ_self 1, ⟨trivial, trivial, trivial, trivial, trivial⟩, trivial⟩, ?_⟩⟩
  clear hT5 s5
  obtain ⟨i, Ai, ws, rung, ⟨f1, f2, f3, f4⟩⟩ := s
  obtain ⟨hlo, hhi, hsub, hT, hst, hold⟩ : BaI A3 t m N p so fr (fr + j) ⟨i, Ai, ws, rung, ⟨f1, f2, f3, f4⟩⟩ := hG
  dsimp only at hlo hhi hsub hT hst hold
  have s23 := s2.trans s3
  have hwok : WOk ws ∧ ws.length ≤ 1 := by
    rcases hst with ⟨rfl, _⟩ | ⟨rfl, _⟩
    · exact ⟨fun w hw => by
        rw [List.mem_singleton] at hw
        subst hw
        exact ⟨hso1, hso3⟩, Nat.le_refl _⟩
    · exact ⟨fun w hw => (by cases hw), Nat.zero_le _⟩
  conv => lhs; whnf
  refine split_dec (fun hlt => ?_) (fun hlt => ?_)
  · have hlt : (i : Int) < ((fr + j : Nat) : Int) := hlt
    have hil : i < ds.length := by omega
    have i0 : (0 : Int) ≤ (i : Int) ∧ (i : Int) < (ds.length : Int) := by omega
    obtain ⟨gd, od, rfl, hrd⟩ := Sl.at_ hcd hd1 hd2 hd3 (by omega)
    obtain ⟨ck, hck, hdk⟩ := deed_at hrd (DeedsR.sub s2 _ _ hare) i hil rfl
    have hfi := (hist.fit i hil).1
    have hss := stand_step hist hil hlo ⟨hso1, hso3⟩ (fun h => by have := hold h; omega) hst
    obtain ⟨dd, hdd⟩ : ∃ dd, dd = ds[i]'hil := ⟨_, rfl⟩
    rw [← hdd] at hdk hfi hss
    clear hdd
    obtain ⟨a7, l7, k7, a14, l14, k14, a15, l15, k15, hcf⟩ := hdk.form
    subst hcf
    have r2 := rd_sub (s3.trans hsub) hck
    conv => lhs; whnf
    repeat (first | refine go_in i0 ?_ | refine go_rd r2 ?_ | refine go_D hD rfl ?_
            conv => lhs; whnf)
    refine (hD _).2 ⟨((⟨t, m, ws⟩ : TwG), dd, A3), ⟨_, rfl, hT, hwok.1, by show ws.length ≤ 1000000; omega, DeedR.sub s3 _ _ hdk, hsub, hmn, (hHas.sub (s1.trans s23)).sub hsub⟩, fun v A7 hq => ?_⟩
    obtain ⟨hT7, hG7⟩ : TwTo Ai ⟨t, m, ws⟩ (ringsW dd ws).2 A7 ∧ GrowR Ai A7 5 55 (ringsW dd ws).1.length v ((ringsW dd ws).1.flatMap RingD.cells) := hq
    have hsub7 := hT7.from hsub hmn
    have r7 := rd_sub (s3.trans hsub7) hck
    rcases hss with ⟨e1, e2, hst'⟩ | ⟨hr0, kk, e1, e2, hst'⟩
    · rw [e2] at hT7
      rw [e1] at hG7
      obtain ⟨q7, cp7, hv7, -, -⟩ := hG7.formN
      subst hv7
      clear e1 e2 hst
      conv => lhs; whnf
      repeat (first | refine go_D hD rfl ?_
              conv => lhs; whnf)
      exact (hD _).2 ⟨(⟨i + 1, A7, ws, rung, ⟨f1, f2, f3, f4⟩⟩ : BaG), ⟨⟨by show fr ≤ i + 1; omega, by show i + 1 ≤ fr + j; omega, hsub7, hT7.tower, hst', fun h => by
        have := hold h
        show f4 < 5 + 2 * ((i + 1 : Nat) : Int)
        omega⟩, ⟨rfl, rfl, rfl, inc_slot (k := i) (by omega), trivial⟩, ⟨rfl, trivial⟩, rfl⟩, by show fr + j - (i + 1) < fr + j - i; omega, ⟨same1 rfl rfl, same1 rfl rfl, same1 rfl rfl, same1 rfl rfl, same1 rfl rfl, same1 rfl rfl, trivial⟩, trivial⟩
    · subst hr0
      rw [e2] at hT7
      rw [e1] at hG7
      obtain ⟨q7, cp7, hv7, hq7, hPg, -⟩ := hG7.formN
      subst hv7
      clear e1 e2 hst
      obtain ⟨g7, rfl, rr⟩ : ∃ g7, q7 = some (g7, 0) ∧ A7.rd g7 0 (1 * 5) = some [.int .i64 4, .int .u8 kk, .int .u8 so, .string p, .int .i64 (5 + 2 * (i : Int))] := by
        have hp9 := hPg 1 24 (by omega) (by show 1 + 1 ≤ 1000000000; omega)
        rcases hq7 with rfl | ⟨g7, rfl⟩
        · have := (hp9.none_ rfl).1
          cases this
        · exact ⟨g7, rfl, hp9.rd⟩
      have r7c : A7.rd gd (od + i * 16) 1 = some [.int .i64 dd.h.zxid] := rd_at r7 (i := 0) (m := 1) (by omega)
      have rc : A7.rd g7 0 1 = some [.int .i64 4] := rd_at rr (i := 0) (m := 1) (by omega)
      have rz : A7.rd g7 4 1 = some [.int .i64 (5 + 2 * (i : Int))] := rd_at rr (i := 4) (m := 1) (by omega)
      have re : A7.rd g7 1 4 = some [.int .u8 kk, .int .u8 so, .string p, .int .i64 (5 + 2 * (i : Int))] := rd_at rr (i := 1) (m := 4) (by omega)
      conv => lhs; whnf
      repeat (first | refine go_in i0 ?_ | refine go_rd rc ?_ | refine go_rd rz ?_ | refine go_rd re ?_ | refine go_rd r7c ?_ | refine go_D hD rfl ?_
              conv => lhs; whnf)
      refine split_nd (fun _ => ?_) (fun h => absurd hfi.symm h)
      conv => lhs; whnf
      repeat (first | refine go_in i0 ?_ | refine go_rd rc ?_ | refine go_rd rz ?_ | refine go_rd re ?_ | refine go_rd r7c ?_ | refine go_D hD rfl ?_
              conv => lhs; whnf)
      exact (hD _).2 ⟨(⟨i + 1, A7, [], 1, ⟨kk, so, p, 5 + 2 * (i : Int)⟩⟩ : BaG), ⟨⟨by show fr ≤ i + 1; omega, by show i + 1 ≤ fr + j; omega, hsub7, hT7.tower, hst', fun _ => by
        show 5 + 2 * (i : Int) < 5 + 2 * ((i + 1 : Nat) : Int)
        omega⟩, ⟨rfl, rfl, inc_slot (k := 0) (by omega), inc_slot (k := i) (by omega), trivial⟩, ⟨rfl, trivial⟩, rfl⟩, by show fr + j - (i + 1) < fr + j - i; omega, ⟨same1 rfl rfl, same1 rfl rfl, same1 rfl rfl, same1 rfl rfl, same1 rfl rfl, same1 rfl rfl, trivial⟩, trivial⟩
  have hie : i = fr + j := by
    have hlt : ¬ ((i : Int) < ((fr + j : Nat) : Int)) := hlt
    omega
  subst hie
  have hto : fr + j < ts.length := by omega
  have rt := ptr_at hrt (fr + j) hto rfl
  have it0 : (0 : Int) ≤ ((fr + j : Nat) : Int) ∧ ((fr + j : Nat) : Int) < (ts.length : Int) := by omega
  obtain ⟨Bt, Ot, Tt, hTt, hlt2, hNt⟩ := hcop (fr + j) hto
  obtain ⟨tt, htt⟩ : ∃ tt, tt = ts[fr + j] := ⟨_, rfl⟩
  rw [← htt] at rt hTt
  have hs2i := s3.trans hsub
  have rt := rd_sub hs2i rt
  have hTt := TreeAt_sub hTt hs2i
  clear hlt hwok
  conv => lhs; whnf
  repeat (first | refine go_in it0 ?_ | refine go_rd rt ?_ | refine go_D hD rfl ?_
          conv => lhs; whnf)
  refine (hD _).2 ⟨((⟨Tt, Bt, Ot, tt⟩ : TG), p), ⟨rfl, hTt, hlt2⟩, fun v A8 hq => ?_⟩
  obtain ⟨s8, hg8⟩ : Ai.Sub A8 ∧ GotV Ai A8 Tt p v := hq
  obtain ⟨⟨n1, n2, n3, n4, n5, n6, n7, n8, n9, n10, n11⟩, a10, l10, c10, hv, hnn⟩ := got_form hg8
  rw [hNt] at hv hnn
  have htold := told_end ⟨hso1, hso3⟩ hst ⟨n1, n2, n3, n4, n5, n6, n7, n8, n9, n10, n11⟩ hnn
  obtain ⟨there, hth⟩ : ∃ b, (N (fr + j) p).isSome = b := ⟨_, rfl⟩
  rw [hth] at hv htold
  subst hv
  have hT8 : TowerAt A8 t m ws := ⟨hT.top.sub fun _ ho => s8 _ _ ho, hT.map.sub fun _ ho => s8 _ _ ho, hT.nd, hT.ne⟩
  conv => lhs; whnf
  repeat (first | refine go_D hD rfl ?_
          conv => lhs; whnf)
  have hsA : ∀ A', A8.Sub A' → A.Sub A' := fun A' h => (s1.trans s2).trans ((hs2i.trans s8).trans h)
  refine split_dec (fun h0 => ?_) (fun h0 => ?_)
  rotate_left
  have hla : (0 : Int) = lastZ fr := by
    have h0 : ¬ ((0 : Int) < (fr : Int)) := h0
    unfold lastZ
    rw [if_pos (by omega)]
  conv => lhs; whnf
  rotate_left
  have h0 : (0 : Int) < (fr : Int) := h0
  obtain ⟨gd, od, rfl, hrd⟩ := Sl.at_ hcd hd1 hd2 hd3 (by omega)
  obtain ⟨ck, hck, hdk⟩ := deed_at hrd (DeedsR.sub s2 _ _ hare) (fr - 1) (by omega) rfl
  have hfi := (hist.fit (fr - 1) (by omega)).1
  obtain ⟨dd, hdd⟩ : ∃ dd, dd = ds[fr - 1]'(by omega) := ⟨_, rfl⟩
  rw [← hdd] at hdk hfi
  clear hdd
  obtain ⟨a7, l7, k7, a14, l14, k14, a15, l15, k15, hcf⟩ := hdk.form
  subst hcf
  have hla : dd.h.zxid = lastZ fr := by
    unfold lastZ
    rw [if_neg (by omega), hfi]
    omega
  have hw1 : IntKind.i64.wrap ((fr : Int) - 1) = ((fr - 1 : Nat) : Int) := by
    rw [Sx.wrap_i64 (by omega) (by omega)]
    omega
  have iw : 0 ≤ IntKind.i64.wrap ((fr : Int) - 1) ∧ IntKind.i64.wrap ((fr : Int) - 1) < (ds.length : Int) := by
    rw [hw1]
    omega
  have r8 : A8.rd gd (od + (IntKind.i64.wrap ((fr : Int) - 1)).toNat * 16) 1 = some [.int .i64 dd.h.zxid] := by
    rw [hw1, Int.toNat_natCast]
    exact rd_at (rd_sub (hs2i.trans s8) hck) (i := 0) (m := 1) (by omega)
  conv => lhs; whnf
  repeat (first | refine go_in iw ?_ | refine go_rd r8 ?_ | refine go_D hD rfl ?_
          conv => lhs; whnf)
  all_goals
    refine (hD _).2 ⟨(), rfl, fun v A9 hq => ?_⟩
    obtain ⟨s9, tu, mu, hv, hTu, htun, hmun⟩ : A8.Sub A9 ∧ ∃ t m, v = .pointer (some ⟨t, 0, none⟩) ∧ TowerAt A9 t m [] ∧ A8.blk t = none ∧ A8.blk m = none := hq
    subst hv
    conv => lhs; whnf
    repeat (first | refine go_D hD rfl ?_
            conv => lhs; whnf)
    refine (hD _).2 ⟨((⟨tu, mu, []⟩ : TwG), (⟨4, so, p⟩ : WatchD), _, (⟨n1, n2, n3, n4, n5, n6, n7, n8, n9, n10, n11⟩ : NdD), there), ⟨a10, l10, c10, rfl, hTu⟩, fun v AA hq => ?_⟩
    have hq : v = .tuple #[.agg (againW (⟨4, so, p⟩ : WatchD) _ (⟨n1, n2, n3, n4, n5, n6, n7, n8, n9, n10, n11⟩ : NdD) there []).1.cells.toArray, .bool (againW (⟨4, so, p⟩ : WatchD) _ (⟨n1, n2, n3, n4, n5, n6, n7, n8, n9, n10, n11⟩ : NdD) there []).2.1] ∧ TwTo A9 ⟨tu, mu, []⟩ (againW (⟨4, so, p⟩ : WatchD) _ (⟨n1, n2, n3, n4, n5, n6, n7, n8, n9, n10, n11⟩ : NdD) there []).2.2 AA := hq
    have e := congrArg (fun z => againW (⟨4, so, p⟩ : WatchD) z (⟨n1, n2, n3, n4, n5, n6, n7, n8, n9, n10, n11⟩ : NdD) there []) hla
    obtain ⟨K, hK⟩ : ∃ K, K = toldK so (lastZ fr) ⟨n1, n2, n3, n4, n5, n6, n7, n8, n9, n10, n11⟩ there := ⟨_, rfl⟩
    have hag : againW (⟨4, so, p⟩ : WatchD) (lastZ fr) (⟨n1, n2, n3, n4, n5, n6, n7, n8, n9, n10, n11⟩ : NdD) there [] = if K.1 = 0 then (noEv, false, [⟨4, so, p⟩]) else (⟨K.1, so, p, K.2⟩, true, []) := by
      unfold againW
      rw [if_pos hmay, ← hK, hput]
      rfl
    rw [e, hag] at hq
    rw [← hK] at htold
    clear e hag hK
    obtain ⟨K1, K2⟩ := K
    have hTA : ∀ {l}, TwTo A9 ⟨tu, mu, []⟩ l AA → TowerAt AA t m ws ∧ A8.Sub AA := fun {l} h => by
      have hk : ∀ k o, A8.blk k = some o → AA.blk k = some o := fun k o ho => h.keep k o (fun e => (by
        have e : k = mu := e
        rw [e, hmun] at ho; cases ho)) (s9 k o ho)
      exact ⟨⟨hT8.top.sub fun o ho => hk _ _ ho, hT8.map.sub fun o ho => hk _ _ ho, hT8.nd, hT8.ne⟩, hk⟩
    rcases htold with ⟨hr, hwl, hk⟩ | ⟨hr, hwl, ⟨hk, hz⟩ | ⟨hk, h2, hth0⟩⟩
    · rw [if_pos hk] at hq
      obtain ⟨hv, hT9⟩ := hq
      obtain ⟨hTw, hs9⟩ := hTA hT9
      subst hv; subst hr
      conv => lhs; whnf
      repeat (first | refine go_D hD rfl ?_
              conv => lhs; whnf)
      refine (hD _).2 ⟨(⟨t, m, ws⟩ : TwG), ⟨rfl, hTw⟩, fun v AB hq => ?_⟩
      obtain ⟨hB, hv⟩ : AB = AA ∧ v = .int .i64 ((ws : List WatchD).length : Nat) := hq
      rw [hwl] at hv
      subst hB; subst hv
      conv => lhs; whnf
      repeat (first | refine go_D hD rfl ?_
              conv => lhs; whnf)
      refine (hD _).2 ⟨(⟨tu, mu, [⟨4, so, p⟩]⟩ : TwG), ⟨rfl, hT9.tower⟩, fun v AC hq => ?_⟩
      obtain ⟨hC9, hv⟩ : AC = AB ∧ v = .int .i64 1 := hq
      subst hC9; subst hv
      conv => lhs; whnf
      repeat (first | refine go_D hD rfl ?_
              conv => lhs; whnf)
      exact (hD _).2 (hend AC (hsA AC hs9))
    · rw [if_neg hk] at hq
      obtain ⟨hv, hT9⟩ := hq
      obtain ⟨hTw, hs9⟩ := hTA hT9
      subst hv; subst hr
      conv => lhs; whnf
      repeat (first | refine go_D hD rfl ?_
              conv => lhs; whnf)
      refine (hD _).2 ⟨(⟨t, m, ws⟩ : TwG), ⟨rfl, hTw⟩, fun v AB hq => ?_⟩
      obtain ⟨hB, hv⟩ : AB = AA ∧ v = .int .i64 ((ws : List WatchD).length : Nat) := hq
      rw [hwl] at hv
      subst hB; subst hv
      conv => lhs; whnf
      repeat (first | refine go_D hD rfl ?_
              conv => lhs; whnf)
      refine split_nd (fun _ => ?_) (fun h => absurd rfl h)
      conv => lhs; whnf
      repeat (first | refine go_D hD rfl ?_
              conv => lhs; whnf)
      refine pass_nb (beqL_iff.2 rfl) ?_
      conv => lhs; whnf
      repeat (first | refine go_D hD rfl ?_
              conv => lhs; whnf)
      refine split_nd (fun hz0 => ?_) (fun hz1 => ?_)
      rotate_left
      conv => lhs; whnf
      repeat (first | refine go_D hD rfl ?_
              conv => lhs; whnf)
      refine split_dec (fun hlt => ?_) (fun hlt => ?_)
      · exfalso
        have hz1 : ¬ (K2 = 0) := hz1
        have hlt : K2 < f4 := hlt
        have hz : K2 = 0 ∨ f4 ≤ K2 := hz
        omega
      all_goals
        conv => lhs; whnf
        repeat (first | refine go_D hD rfl ?_
                conv => lhs; whnf)
        refine (hD _).2 ⟨(⟨tu, mu, []⟩ : TwG), ⟨rfl, hT9.tower⟩, fun v AC hq => ?_⟩
        obtain ⟨hC9, hv⟩ : AC = AB ∧ v = .int .i64 0 := hq
        subst hC9; subst hv
        conv => lhs; whnf
        repeat (first | refine go_D hD rfl ?_
                conv => lhs; whnf)
        exact (hD _).2 (hend AC (hsA AC hs9))
    · rw [if_pos hk] at hq
      obtain ⟨hv, hT9⟩ := hq
      obtain ⟨hTw, hs9⟩ := hTA hT9
      subst hv; subst hr; subst h2; subst hth0
      conv => lhs; whnf
      repeat (first | refine go_D hD rfl ?_
              conv => lhs; whnf)
      refine (hD _).2 ⟨(⟨t, m, ws⟩ : TwG), ⟨rfl, hTw⟩, fun v AB hq => ?_⟩
      obtain ⟨hB, hv⟩ : AB = AA ∧ v = .int .i64 ((ws : List WatchD).length : Nat) := hq
      rw [hwl] at hv
      subst hB; subst hv
      conv => lhs; whnf
      repeat (first | refine go_D hD rfl ?_
              conv => lhs; whnf)
      refine (hD _).2 ⟨(⟨tu, mu, [⟨4, 2, p⟩]⟩ : TwG), ⟨rfl, hT9.tower⟩, fun v AC hq => ?_⟩
      obtain ⟨hC9, hv⟩ : AC = AB ∧ v = .int .i64 1 := hq
      subst hC9; subst hv
      conv => lhs; whnf
      repeat (first | refine go_D hD rfl ?_
              conv => lhs; whnf)
      exact (hD _).2 (hend AC (hsA AC hs9))

end
end Go.Proofs.YtfpfjobknefedaaGreatDoor

namespace Go.Sx
noncomputable section
open Go.RowKit Go.ChangeShapes Go.WideShapes

theorem list1 {α : Type} {l : List α} (h : l.length = 1) : ∃ v0, l = [v0] := by
  match l, h with
  | [v0], _ => exact ⟨v0, rfl⟩

theorem list2 {α : Type} {l : List α} (h : l.length = 2) : ∃ v0 v1, l = [v0, v1] := by
  match l, h with
  | [v0, v1], _ => exact ⟨v0, v1, rfl⟩

theorem list3 {α : Type} {l : List α} (h : l.length = 3) : ∃ v0 v1 v2, l = [v0, v1, v2] := by
  match l, h with
  | [v0, v1, v2], _ => exact ⟨v0, v1, v2, rfl⟩

theorem list4 {α : Type} {l : List α} (h : l.length = 4) : ∃ v0 v1 v2 v3, l = [v0, v1, v2, v3] := by
  match l, h with
  | [v0, v1, v2, v3], _ => exact ⟨v0, v1, v2, v3, rfl⟩

theorem list5 {α : Type} {l : List α} (h : l.length = 5) : ∃ v0 v1 v2 v3 v4, l = [v0, v1, v2, v3, v4] := by
  match l, h with
  | [v0, v1, v2, v3, v4], _ => exact ⟨v0, v1, v2, v3, v4, rfl⟩

theorem list6 {α : Type} {l : List α} (h : l.length = 6) : ∃ v0 v1 v2 v3 v4 v5, l = [v0, v1, v2, v3, v4, v5] := by
  match l, h with
  | [v0, v1, v2, v3, v4, v5], _ => exact ⟨v0, v1, v2, v3, v4, v5, rfl⟩

theorem list7 {α : Type} {l : List α} (h : l.length = 7) : ∃ v0 v1 v2 v3 v4 v5 v6, l = [v0, v1, v2, v3, v4, v5, v6] := by
  match l, h with
  | [v0, v1, v2, v3, v4, v5, v6], _ => exact ⟨v0, v1, v2, v3, v4, v5, v6, rfl⟩

theorem list8 {α : Type} {l : List α} (h : l.length = 8) : ∃ v0 v1 v2 v3 v4 v5 v6 v7, l = [v0, v1, v2, v3, v4, v5, v6, v7] := by
  match l, h with
  | [v0, v1, v2, v3, v4, v5, v6, v7], _ => exact ⟨v0, v1, v2, v3, v4, v5, v6, v7, rfl⟩

theorem list15 {α : Type} {l : List α} (h : l.length = 15) : ∃ v0 v1 v2 v3 v4 v5 v6 v7 v8 v9 v10 v11 v12 v13 v14, l = [v0, v1, v2, v3, v4, v5, v6, v7, v8, v9, v10, v11, v12, v13, v14] := by
  match l, h with
  | [v0, v1, v2, v3, v4, v5, v6, v7, v8, v9, v10, v11, v12, v13, v14], _ => exact ⟨v0, v1, v2, v3, v4, v5, v6, v7, v8, v9, v10, v11, v12, v13, v14, rfl⟩

theorem list16 {α : Type} {l : List α} (h : l.length = 16) : ∃ v0 v1 v2 v3 v4 v5 v6 v7 v8 v9 v10 v11 v12 v13 v14 v15, l = [v0, v1, v2, v3, v4, v5, v6, v7, v8, v9, v10, v11, v12, v13, v14, v15] := by
  match l, h with
  | [v0, v1, v2, v3, v4, v5, v6, v7, v8, v9, v10, v11, v12, v13, v14, v15], _ => exact ⟨v0, v1, v2, v3, v4, v5, v6, v7, v8, v9, v10, v11, v12, v13, v14, v15, rfl⟩

theorem list18 {α : Type} {l : List α} (h : l.length = 18) : ∃ v0 v1 v2 v3 v4 v5 v6 v7 v8 v9 v10 v11 v12 v13 v14 v15 v16 v17, l = [v0, v1, v2, v3, v4, v5, v6, v7, v8, v9, v10, v11, v12, v13, v14, v15, v16, v17] := by
  match l, h with
  | [v0, v1, v2, v3, v4, v5, v6, v7, v8, v9, v10, v11, v12, v13, v14, v15, v16, v17], _ => exact ⟨v0, v1, v2, v3, v4, v5, v6, v7, v8, v9, v10, v11, v12, v13, v14, v15, v16, v17, rfl⟩

/-- All memory that lay, as an arena. -/
def allOf (W : World) : Arena := Arena.of fun k => W.heap[k]?

theorem cells_spot {W : World} {a : Addr} {n : Nat} {cs : List Value} (h : W.cells? 0 a n = some cs) (hn : 0 < n) : a.spot = none := by
  unfold World.cells? at h
  rw [if_pos (Nat.zero_le _)] at h
  have h1 := mapM_some_get h 0 0 (by simp [hn])
  have hl := mapM_some_length h
  rw [List.length_range] at hl
  have h2 : cs[0]? = some cs[0] := List.getElem?_eq_getElem (by omega)
  rw [h2] at h1
  unfold World.cell? Addr.add at h1
  simp only [if_true] at h1
  split at h1
  · split at h1
    · cases h1
    · rename_i h3
      cases hs : a.spot with
      | none => rfl
      | some s => rw [hs] at h3; simp at h3
  · cases h1

theorem cells_rd {W : World} {g o : Nat} {n : Nat} {cs : List Value} (h : W.cells? 0 ⟨g, o, none⟩ n = some cs) (hn : 0 < n) : (allOf W).rd g o n = some cs := by
  unfold World.cells? at h
  rw [if_pos (Nat.zero_le _)] at h
  have hl := mapM_some_length h
  rw [List.length_range] at hl
  have key : ∀ i, i < n → ∃ c t fz, W.heap[g]? = some (.cells c t fz) ∧ c[o + i]? = cs[i]? := fun i hi => by
    have h1 := mapM_some_get h i i (by simp [hi])
    have h2 : cs[i]? = some cs[i] := List.getElem?_eq_getElem (by omega)
    rw [h2] at h1
    unfold World.cell? at h1
    rw [add_none] at h1
    simp only at h1
    split at h1
    · rename_i c t fz hb
      simp only [Option.isSome_none, Bool.false_eq_true, if_false] at h1
      exact ⟨c, t, fz, hb, by rw [h1, h2]⟩
    · cases h1
  obtain ⟨c, t, fz, hb, _⟩ := key 0 hn
  have hle : o + n ≤ c.size := by
    obtain ⟨c', t', fz', hb', h3⟩ := key (n - 1) (by omega)
    rw [hb] at hb'
    injection hb' with hb'
    injection hb' with e1 e2 e3
    subst e1
    have h4 : cs[n - 1]? = some cs[n - 1] := List.getElem?_eq_getElem (by omega)
    rw [h4] at h3
    have := (Array.getElem?_eq_some_iff.1 h3).1
    omega
  rw [rd_mk (A := allOf W) (c := c) (t := t) (fz := fz) hb hle]
  congr 1
  refine List.ext_getElem? fun i => ?_
  by_cases hi : i < n
  · obtain ⟨c', t', fz', hb', h3⟩ := key i hi
    rw [hb] at hb'
    injection hb' with hb'
    injection hb' with e1 e2 e3
    subst e1
    rw [List.getElem?_take_of_lt hi, List.getElem?_drop, Array.getElem?_toList, h3]
  · rw [List.getElem?_eq_none (by simp; omega), List.getElem?_eq_none (by omega)]

theorem rd_join {A : Arena} {g o n m : Nat} {xs ys : List Value} (h1 : A.rd g o n = some xs) (h2 : A.rd g (o + n) m = some ys) : A.rd g o (n + m) = some (xs ++ ys) := by
  obtain ⟨c, t, fz, hb, hle, rfl⟩ := rd_some h1
  obtain ⟨c', t', fz', hb', hle', rfl⟩ := rd_some h2
  rw [hb] at hb'
  injection hb' with hb'
  injection hb' with e1 e2 e3
  subst e1
  rw [rd_mk hb (by omega), List.take_add, List.drop_drop]

section
variable {H : Type} {enc : TypeId × Value → H} {P : Program} {W : World}

/-- How cells are read here. -/
abbrev trodA (enc : TypeId × Value → H) (P : Program) (W : World) (n : Nat) (t : TypeId) (cs : List Value) : Option (DataW H × List MemPlace) := DataW.trod enc P W 0 (fun _ => true) true n t cs

/-- No row in it is longer than what can be reached. -/
def RFits (P : Program) (t : TypeId) (d : DataW H) : Prop := ∀ z ∈ d.weights P t, z ≤ 140737488351232

theorem weightsAll_mem {e : TypeId} : ∀ {l : List (DataW H)} {d : DataW H}, d ∈ l → ∀ z ∈ d.weights P e, z ∈ DataW.weightsAll P e l
  | [], d, h => by cases h
  | x :: l, d, h => fun z hz => by
    simp only [DataW.weightsAll, List.mem_append]
    rcases List.mem_cons.1 h with rfl | h
    · exact .inl hz
    · exact .inr (weightsAll_mem h z hz)

theorem weightsEach_mem : ∀ {ts : List TypeId} {l : List (DataW H)} {i : Nat} {t : TypeId} {d : DataW H}, ts[i]? = some t → l[i]? = some d → ∀ z ∈ d.weights P t, z ∈ DataW.weightsEach P ts l
  | [], _, _, _, _, h1, _ => by simp at h1
  | _ :: _, [], _, _, _, _, h2 => by simp at h2
  | t' :: ts, d' :: l, 0, t, d, h1, h2 => fun z hz => by
    simp only [List.getElem?_cons_zero, Option.some.injEq] at h1 h2
    subst h1; subst h2
    simp only [DataW.weightsEach, List.mem_append]
    exact .inl hz
  | t' :: ts, d' :: l, i + 1, t, d, h1, h2 => fun z hz => by
    simp only [List.getElem?_cons_succ] at h1 h2
    simp only [DataW.weightsEach, List.mem_append]
    exact .inr (weightsEach_mem h1 h2 z hz)

theorem rfits_at {ts : List TypeId} {l : List (DataW H)} (h : (DataW.weightsEach P ts l).all (· ≤ reachBytes) = true) (i : Nat) {t : TypeId} {d : DataW H} (h1 : ts[i]? = some t) (h2 : l[i]? = some d) : RFits P t d := fun z hz => by
  have h3 := List.all_eq_true.1 h z (weightsEach_mem h1 h2 z hz)
  have h4 : z ≤ reachBytes := by simpa using h3
  exact h4

/-- A slice's cell. -/
theorem slice_cell {t e : TypeId} (ht : P.underlying t = some (.slice e)) {r : Reach} {b : Nat} {v : Value} (h : Value.okWide P W r b t v) : v.cells.toList = [v] := by
  unfold Value.okWide at h
  rw [ht] at h
  simp only [Cell.okWide, Cell.ok, ht] at h
  cases v with
  | slice a l c => rfl
  | _ => exact h.elim

/-- A slice: its row, and each of its elements. -/
theorem slice_up {t e : TypeId} {es B : Nat} (ht : P.underlying t = some (.slice e)) (hes : P.cellsOf e = es) (hes0 : 0 < es) (hB : P.bytesOf e = B) {n : Nat} {x : DataW H × List MemPlace} {v : Value} (h : trodA enc P W n t [v] = some x) (hw : RFits P t x.1) :
    ∃ rows : List (List Value), Sl (allOf W) es rows.length v rows.flatten ∧ rows.length * B ≤ 140737488351232 ∧ ∀ r ∈ rows, r.length = es ∧ ∃ m y, m < n ∧ trodA enc P W m e r = some y ∧ RFits P e y.1 := by
  rcases DataW.trod_slice ht h with ⟨hn, _⟩ | ⟨a, len, cap, elems, rest, m, hm, hn, hx, _, hle, _, hel, hrd, hsp, _⟩
  · obtain rfl : v = .slice none 0 0 := by simpa using hn
    exact ⟨[], Sl.nil _ _, by simp, by simp⟩
  · obtain rfl : v = .slice (some a) len cap := by simpa using hn
    obtain ⟨hr1, hr2⟩ := hsp rfl
    subst hes
    have hone : ∀ i, i < len → ∃ cs y, W.cells? 0 (a.add (i * P.cellsOf e)) (P.cellsOf e) = some cs ∧ trodA enc P W m e cs = some y ∧ elems[i]? = some y := fun i hi => by
      have h1 := hrd i hi
      have h2 : elems[i]? = some elems[i] := List.getElem?_eq_getElem (by omega)
      rw [h2, Option.bind_eq_some_iff] at h1
      obtain ⟨cs, h3, h4⟩ := h1
      exact ⟨cs, _, h3, h4, h2⟩
    have hspot : 0 < cap → a.spot = none := fun hc => by
      by_cases h0 : 0 < len
      · obtain ⟨cs, y, h1, _⟩ := hone 0 h0
        rw [Nat.zero_mul] at h1
        exact cells_spot (a := a) (by simpa [Addr.add] using h1) hes0
      · have h1 := hr2 0 (by omega)
        have h2 : rest[0]? = some rest[0] := List.getElem?_eq_getElem (by omega)
        rw [h2, Option.bind_eq_some_iff] at h1
        obtain ⟨cs, h3, _⟩ := h1
        have h0 : len = 0 := by omega
        subst h0
        exact cells_spot (a := a) (by simpa [Addr.add] using h3) hes0
    have hfit : ∀ y ∈ elems, RFits P e y.1 := fun y hy z hz => by
      refine hw z ?_
      rw [hx]
      simp only [DataW.weights, ht, List.mem_cons, List.mem_append]
      exact .inr (.inl (weightsAll_mem (List.mem_map.2 ⟨y, hy, rfl⟩) z hz))
    have hrows : ∀ k, k ≤ len → ∃ rows : List (List Value), rows.length = k ∧ (0 < k → (allOf W).rd a.block a.off (k * P.cellsOf e) = some rows.flatten) ∧ ∀ r ∈ rows, r.length = P.cellsOf e ∧ ∃ m y, m < n ∧ trodA enc P W m e r = some y ∧ RFits P e y.1 := fun k => by
      induction k with
      | zero => exact fun _ => ⟨[], rfl, fun h => (by omega), by simp⟩
      | succ k ih =>
        intro hk
        obtain ⟨rows, r1, r2, r3⟩ := ih (by omega)
        obtain ⟨cs, y, h1, h2, h3⟩ := hone k (by omega)
        obtain ⟨g, o, s⟩ := a
        have hs := hspot (by omega)
        simp only at hs
        subst hs
        rw [add_none] at h1
        have h4 := cells_rd h1 hes0
        refine ⟨rows ++ [cs], by simp [r1], fun _ => ?_, fun r hr => ?_⟩
        · rw [List.flatten_append, Nat.succ_mul]
          simp only [List.flatten_cons, List.flatten_nil, List.append_nil]
          by_cases h0 : 0 < k
          · exact rd_join (r2 h0) h4
          · have h0 : k = 0 := by omega
            subst h0
            have : rows = [] := List.length_eq_zero_iff.1 r1
            subst this
            simpa using h4
        · rcases List.mem_append.1 hr with hr | hr
          · exact r3 r hr
          · rw [List.mem_singleton] at hr
            subst hr
            exact ⟨rd_len h4, m, y, by omega, h2, hfit y (List.mem_of_getElem? h3)⟩
    obtain ⟨rows, r1, r2, r3⟩ := hrows len (Nat.le_refl _)
    refine ⟨rows, ⟨some a, cap, by rw [r1], by omega, ?_, fun h => (by cases h), fun b hb hc => (by injection hb with hb; subst hb; exact hspot hc), fun h0 b hb => (by injection hb with hb; subst hb; rw [r1]; exact r2 (by omega))⟩, ?_, r3⟩
    · clear r1 r2
      induction rows with
      | nil => simp
      | cons r rows ih =>
        rw [List.flatten_cons, List.length_append, ih (fun x hx => r3 x (List.mem_cons_of_mem _ hx)), (r3 r (by simp)).1, List.length_cons, Nat.succ_mul]; omega
    · have h1 : (elems.length + rest.length) * P.bytesOf e ≤ 140737488351232 := by
        refine hw _ ?_
        rw [hx]
        simp [DataW.weights, ht]
      rw [hB] at h1
      refine Nat.le_trans (Nat.mul_le_mul_right B ?_) h1
      omega

/-- A struct: each of its fields. -/
theorem fields_up {t : TypeId} {fs : Array Field} (ht : P.underlying t = some (.struct fs)) {n : Nat} {x : DataW H × List MemPlace} {cs : List Value} (h : trodA enc P W n t cs = some x) (hw : RFits P t x.1) :
    cs.length = P.cellsOf t ∧ ∃ m, m < n ∧ ∀ (i : Nat) (f : Field), fs[i]? = some f → ∃ y, trodA enc P W m f.type ((cs.drop f.offset).take (P.cellsOf f.type)) = some y ∧ RFits P f.type y.1 := by
  obtain ⟨xs, m, hm, hx, hl, hlen, hf⟩ := DataW.trod_struct ht h
  refine ⟨hl, m, by omega, fun i f hi => ?_⟩
  have hi' : i < fs.size := (Array.getElem?_eq_some_iff.1 hi).1
  have h2 : xs[i]? = some xs[i] := List.getElem?_eq_getElem (by omega)
  refine ⟨xs[i], (hf i f hi).trans h2, fun z hz => hw z ?_⟩
  rw [hx]
  simp only [DataW.weights, ht]
  exact weightsEach_mem (i := i) (t := f.type) (d := xs[i].1) (by simp [hi]) (by simp [h2]) z hz

variable {n : Nat} {t : TypeId} {v : Value} {l : List Value}

/-- A field of one cell. -/
theorem up_one (hc : P.cellsOf t = 1) (h : ∃ y, trodA enc P W n t ((v :: l).take (P.cellsOf t)) = some y ∧ RFits P t y.1) : ∃ y, trodA enc P W n t [v] = some y ∧ RFits P t y.1 := by
  rw [hc] at h
  exact h

theorem up_int {k : IntKind} (ht : P.underlying t = some (.int k)) (hc : P.cellsOf t = 1) (h : ∃ y, trodA enc P W n t ((v :: l).take (P.cellsOf t)) = some y ∧ RFits P t y.1) : ∃ x, v = .int k x ∧ (Lit.int k x).wf = true := by
  obtain ⟨y, h, _⟩ := up_one hc h
  obtain ⟨x, hx, _, hw⟩ := DataW.trod_int ht h
  exact ⟨x, by simpa using hx, hw⟩

theorem up_bool (ht : P.underlying t = some .bool) (hc : P.cellsOf t = 1) (h : ∃ y, trodA enc P W n t ((v :: l).take (P.cellsOf t)) = some y ∧ RFits P t y.1) : ∃ x, v = .bool x := by
  obtain ⟨y, h, _⟩ := up_one hc h
  obtain ⟨x, hx, _⟩ := DataW.trod_bool ht h
  exact ⟨x, by simpa using hx⟩

theorem up_string (ht : P.underlying t = some .string) (hc : P.cellsOf t = 1) (h : ∃ y, trodA enc P W n t ((v :: l).take (P.cellsOf t)) = some y ∧ RFits P t y.1) : ∃ x : ByteArray, v = .string x ∧ x.data.toList.length ≤ 140737488351232 := by
  obtain ⟨y, h, hf⟩ := up_one hc h
  obtain ⟨x, hx, hy, _⟩ := DataW.trod_string ht h
  refine ⟨x, by simpa using hx, hf _ ?_⟩
  rw [hy]
  simp [DataW.weights]

theorem up_bytes {e : TypeId} (ht : P.underlying t = some (.slice e)) (he : P.underlying e = some (.int .u8)) (hc : P.cellsOf e = 1) (hb : P.bytesOf e = 1) (ht1 : P.cellsOf t = 1) (h : ∃ y, trodA enc P W n t ((v :: l).take (P.cellsOf t)) = some y ∧ RFits P t y.1) : ∃ bs, SlB (allOf W) v bs := by
  obtain ⟨y, h, hf⟩ := up_one ht1 h
  obtain ⟨rows, h1, h2, h3⟩ := slice_up ht hc (by omega) hb h hf
  have key : ∀ rows : List (List Value), (∀ r ∈ rows, r.length = 1 ∧ ∃ m y, m < n ∧ trodA enc P W m e r = some y ∧ RFits P e y.1) → ∃ bs : List UInt8, rows.flatten = bs.map bv ∧ bs.length = rows.length := by
    intro rows
    induction rows with
    | nil => exact fun _ => ⟨[], rfl, rfl⟩
    | cons r rows ih =>
      intro h
      obtain ⟨bs, k1, k2⟩ := ih fun x hx => h x (List.mem_cons_of_mem _ hx)
      obtain ⟨_, m, y, _, h5, _⟩ := h r (by simp)
      obtain ⟨x, hx, _, hwf⟩ := DataW.trod_int he h5
      have hr : 0 ≤ x ∧ x < 256 := by
        simp only [Lit.wf, Bool.and_eq_true, decide_eq_true_eq] at hwf
        have h8 : IntKind.u8.min = 0 := rfl
        have h9 : IntKind.u8.max = 255 := rfl
        omega
      refine ⟨UInt8.ofNat x.toNat :: bs, ?_, by simp [k2]⟩
      rw [List.flatten_cons, k1, hx, List.map_cons]
      simp only [bv, List.cons_append, List.nil_append, List.cons.injEq, and_true]
      congr 1
      simp only [UInt8.toNat_ofNat']
      omega
  obtain ⟨bs, k1, k2⟩ := key rows h3
  refine ⟨bs, ?_, by omega⟩
  rw [k2, ← k1]
  exact h1

end

/-- A contract whose arena is all that lay: what lay lies as it lay. -/
theorem below_of_moves {A' : Arena} {w w' : World} (hs : (allOf w).Sub A') (hm : Moves (allOf w) A' w w') : Below w.heap.size w w' := by
  have hb : ∀ k, k < w.heap.size → w'.heap[k]? = w.heap[k]? := fun k hk => by
    have h0 : w.heap[k]? = some w.heap[k] := Array.getElem?_eq_getElem hk
    rw [hm.sub k _ (hs k _ h0)]
    exact h0.symm
  refine ⟨hm.os, hm.tape, hm.out, ?_, hb⟩
  rcases Nat.eq_zero_or_pos w.heap.size with h0 | h0
  · omega
  · have h1 := hb (w.heap.size - 1) (by omega)
    have h2 : (w.heap[w.heap.size - 1]?) = some w.heap[w.heap.size - 1] := Array.getElem?_eq_getElem (by omega)
    rw [h2] at h1
    have := (Array.getElem?_eq_some_iff.1 h1).1
    omega

/-- A contract, as what a call shows. -/
theorem calls_of_fok {P : Program} {f : FuncId} {S : FSpec} (h : FOk P f S) {fn : Func} (hf : P.funcs[f]? = some fn) (hn : (fn.name == "runtime.NumGoroutine") = false) (hb : fn.body.isSome = true) (g : S.γ) (vs : List Value) (w : World) (hp : S.pre g vs (allOf w))
    (hs : ∀ v A', S.post g vs (allOf w) v A' → (allOf w).Sub A') : Calls P f vs.toArray w fun e w' => ∃ v, e = .returned v ∧ (∃ A', S.post g vs (allOf w) v A') ∧ Below w.heap.size w w' :=
  (calls_of_goes (h g vs (allOf w) w (fun _ _ h => h) hp) hf hn hb).mono fun _ _ ⟨v, he, A', h1, h2⟩ => ⟨v, he, ⟨A', h1⟩, below_of_moves (hs v A' h1) h2⟩

end
end Go.Sx

namespace Go.Proofs.YtfpfjobknefedaaGreatDoor
open Go.Sx Go.RowKit Go.ChangeShapes Go.WideShapes
noncomputable section

section
variable {H : Type} {enc : TypeId × Value → H} {W : World}

theorem member_up {n : Nat} {cs : List Value} (h : ∃ y, trodA enc Tryz.prog W n 132 cs = some y ∧ RFits Tryz.prog 132 y.1) : ∃ m : MemD, cs = m.cells := by
  obtain ⟨y, h, hf⟩ := h
  obtain ⟨hl, m, _, hx⟩ := fields_up (P := Tryz.prog) Tryz.underlying132 h hf
  have hl : cs.length = 4 := hl.trans (by kernel_rfl)
  obtain ⟨v0, v1, v2, v3, rfl⟩ := list4 hl
  obtain ⟨c0, rfl, _⟩ := up_int (v := v0) (l := [v1, v2, v3]) Tryz.underlying3 (by kernel_rfl) (hx 0 _ rfl)
  obtain ⟨c1, rfl, _⟩ := up_int (v := v1) (l := [v2, v3]) Tryz.underlying130 (by kernel_rfl) (hx 1 _ rfl)
  obtain ⟨c2, rfl, _⟩ := up_int (v := v2) (l := [v3]) Tryz.underlying3 (by kernel_rfl) (hx 2 _ rfl)
  obtain ⟨c3, rfl, _⟩ := up_int (v := v3) (l := []) Tryz.underlying3 (by kernel_rfl) (hx 3 _ rfl)
  exact ⟨⟨c0, c1, c2, c3⟩, rfl⟩

theorem members_up {n : Nat} {v : Value} {l : List Value} (h : ∃ y, trodA enc Tryz.prog W n 49 ((v :: l).take (Tryz.prog.cellsOf 49)) = some y ∧ RFits Tryz.prog 49 y.1) : ∃ ms, MemR (allOf W) v ms := by
  obtain ⟨y, h, hf⟩ := up_one (by kernel_rfl) h
  obtain ⟨rows, h1, h2, h3⟩ := slice_up (es := 4) (B := 32) Tryz.underlying49 (by kernel_rfl) (by decide) (by kernel_rfl) h hf
  have key : ∀ rows : List (List Value), (∀ r ∈ rows, r.length = 4 ∧ ∃ m y, m < n ∧ trodA enc Tryz.prog W m 132 r = some y ∧ RFits Tryz.prog 132 y.1) → ∃ ms : List MemD, rows = ms.map MemD.cells := by
    intro rows
    induction rows with
    | nil => exact fun _ => ⟨[], rfl⟩
    | cons r rows ih =>
      intro h
      obtain ⟨ms, rfl⟩ := ih fun x hx => h x (List.mem_cons_of_mem _ hx)
      obtain ⟨_, m, y, _, h5, h6⟩ := h r (by simp)
      obtain ⟨d, rfl⟩ := member_up ⟨y, h5, h6⟩
      exact ⟨d :: ms, rfl⟩
  obtain ⟨ms, rfl⟩ := key rows h3
  rw [List.length_map] at h1 h2
  exact ⟨ms, h1, h2⟩

theorem deeds_rows {n : Nat} (ih : ∀ m, m < n → ∀ cs, (∃ y, trodA enc Tryz.prog W m 53 cs = some y ∧ RFits Tryz.prog 53 y.1) → ∃ d, DeedR (allOf W) d cs) :
    ∀ rows : List (List Value), (∀ r ∈ rows, r.length = 16 ∧ ∃ m y, m < n ∧ trodA enc Tryz.prog W m 53 r = some y ∧ RFits Tryz.prog 53 y.1) → ∃ ds, DeedsR (allOf W) ds rows
  | [], _ => ⟨[], rfl⟩
  | r :: rows, h => by
    obtain ⟨ds, hd⟩ := deeds_rows ih rows fun x hx => h x (List.mem_cons_of_mem _ hx)
    obtain ⟨_, m, y, h4, h5, h6⟩ := h r (by simp)
    obtain ⟨d, hr⟩ := ih m h4 r ⟨y, h5, h6⟩
    exact ⟨d :: ds, r, rows, rfl, hr, hd⟩

theorem deed_up (n : Nat) : ∀ cs, (∃ y, trodA enc Tryz.prog W n 53 cs = some y ∧ RFits Tryz.prog 53 y.1) → ∃ d, DeedR (allOf W) d cs := by
  induction n using Nat.strongRecOn with
  | _ n ih =>
    intro cs ⟨y, h, hf⟩
    obtain ⟨hl, m, hm, hx⟩ := fields_up (P := Tryz.prog) Tryz.underlying53 h hf
    have hl : cs.length = 16 := hl.trans (by kernel_rfl)
    obtain ⟨v0, v1, v2, v3, v4, v5, v6, v7, v8, v9, v10, v11, v12, v13, v14, v15, rfl⟩ := list16 hl
    obtain ⟨c0, rfl, _⟩ := up_int (v := v0) (l := [v1, v2, v3, v4, v5, v6, v7, v8, v9, v10, v11, v12, v13, v14, v15]) Tryz.underlying31 (by kernel_rfl) (hx 0 _ rfl)
    obtain ⟨c1, rfl, _⟩ := up_int (v := v1) (l := [v2, v3, v4, v5, v6, v7, v8, v9, v10, v11, v12, v13, v14, v15]) Tryz.underlying47 (by kernel_rfl) (hx 1 _ rfl)
    obtain ⟨c2, rfl, _⟩ := up_int (v := v2) (l := [v3, v4, v5, v6, v7, v8, v9, v10, v11, v12, v13, v14, v15]) Tryz.underlying2 (by kernel_rfl) (hx 2 _ rfl)
    obtain ⟨c3, rfl, _⟩ := up_int (v := v3) (l := [v4, v5, v6, v7, v8, v9, v10, v11, v12, v13, v14, v15]) Tryz.underlying3 (by kernel_rfl) (hx 3 _ rfl)
    obtain ⟨c4, rfl, _⟩ := up_int (v := v4) (l := [v5, v6, v7, v8, v9, v10, v11, v12, v13, v14, v15]) Tryz.underlying3 (by kernel_rfl) (hx 4 _ rfl)
    obtain ⟨c5, rfl, _⟩ := up_int (v := v5) (l := [v6, v7, v8, v9, v10, v11, v12, v13, v14, v15]) Tryz.underlying2 (by kernel_rfl) (hx 5 _ rfl)
    obtain ⟨c6, rfl, hc6⟩ := up_string (v := v6) (l := [v7, v8, v9, v10, v11, v12, v13, v14, v15]) Tryz.underlying9 (by kernel_rfl) (hx 6 _ rfl)
    obtain ⟨bs, hbs⟩ := up_bytes (v := v7) (l := [v8, v9, v10, v11, v12, v13, v14, v15]) Tryz.underlying30 Tryz.underlying5 (by kernel_rfl) (by kernel_rfl) (by kernel_rfl) (hx 7 _ rfl)
    obtain ⟨c8, rfl, _⟩ := up_int (v := v8) (l := [v9, v10, v11, v12, v13, v14, v15]) Tryz.underlying2 (by kernel_rfl) (hx 8 _ rfl)
    obtain ⟨c9, rfl, _⟩ := up_int (v := v9) (l := [v10, v11, v12, v13, v14, v15]) Tryz.underlying3 (by kernel_rfl) (hx 9 _ rfl)
    obtain ⟨c10, rfl, _⟩ := up_int (v := v10) (l := [v11, v12, v13, v14, v15]) Tryz.underlying3 (by kernel_rfl) (hx 10 _ rfl)
    obtain ⟨c11, rfl, _⟩ := up_int (v := v11) (l := [v12, v13, v14, v15]) Tryz.underlying3 (by kernel_rfl) (hx 11 _ rfl)
    obtain ⟨c12, rfl, _⟩ := up_int (v := v12) (l := [v13, v14, v15]) Tryz.underlying48 (by kernel_rfl) (hx 12 _ rfl)
    have he : ∃ y, trodA enc Tryz.prog W m 51 ([v13, v14, v15].take (Tryz.prog.cellsOf 51)) = some y ∧ RFits Tryz.prog 51 y.1 := hx 13 _ rfl
    rw [show Tryz.prog.cellsOf 51 = 2 by kernel_rfl] at he
    obtain ⟨ye, he, hfe⟩ := he
    obtain ⟨_, me, _, hxe⟩ := fields_up (P := Tryz.prog) Tryz.underlying51 he hfe
    obtain ⟨c13, rfl, _⟩ := up_int (v := v13) (l := [v14]) Tryz.underlying31 (by kernel_rfl) (hxe 0 _ rfl)
    have h14 := hxe 1 _ rfl
    obtain ⟨ms, hms⟩ := members_up (v := v14) (l := []) h14
    obtain ⟨y, h, hf⟩ := up_one (P := Tryz.prog) (t := 22) (v := v15) (l := []) (by kernel_rfl) (hx 14 _ rfl)
    obtain ⟨rows, h1, h2, h3⟩ := slice_up (es := 16) (B := 184) Tryz.underlying22 (by kernel_rfl) (by decide) (by kernel_rfl) h hf
    obtain ⟨ds, hds⟩ := deeds_rows (n := m) (fun k hk => ih k (by omega)) rows h3
    have hlen := hds.length
    rw [hlen] at h1 h2
    exact ⟨.mk ⟨c0, c1, c2, c3, c4, c5, c6, bs, c8, c9, c10, c11, c12, c13, ms⟩ ds, v7, v14, v15, rows, rfl, hc6, hbs, hms, h1, h2, hds⟩

theorem deeds_up {v : Value} {d : DataW H} {ps : List MemPlace} (h : DataW.Trod enc Tryz.prog W 0 (fun _ => true) true 22 v d ps) (hf : RFits Tryz.prog 22 d) (hv : v.cells.toList = [v]) : ∃ ds, DeedsS (allOf W) v ds := by
  obtain ⟨n, h⟩ := h
  rw [hv] at h
  obtain ⟨rows, h1, h2, h3⟩ := slice_up (es := 16) (B := 184) Tryz.underlying22 (by kernel_rfl) (by decide) (by kernel_rfl) h hf
  obtain ⟨ds, hds⟩ := deeds_rows (n := n) (fun k _ => deed_up k) rows h3
  have hlen := hds.length
  rw [hlen] at h1 h2
  exact ⟨ds, rows, h1, h2, hds⟩

end

end
end Go.Proofs.YtfpfjobknefedaaGreatDoor
