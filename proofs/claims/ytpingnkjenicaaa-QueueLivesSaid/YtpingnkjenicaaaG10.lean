/-
  QueueLives: the law's text over plain data.
-/
import Derived.Test.YtpingnkjenicaaaG09
namespace Go.Proofs.Ytpingnkjenicaaa
open Go.Sx Go.RowKit
noncomputable section
open Classical

structure LvG where
  i : Nat
  ds : List AskD
  B1 : Arena
  B2 : Arena
  O : Nat → Prop
  A : Arena

def livesInv (A0 : Arena) (g r n : Nat) : LInv := { γ := LvG, G := fun s => s.i ≤ n ∧ LvAt A0 s.A s.B1 g s.B2 s.O r s.ds s.ds, keepS := [0, 3, 4], keepB := [], sl := fun s => [(5, .v (.int .i64 s.i))], bl := fun _ => [], ar := fun s => s.A, mu := fun s => n - s.i }

def livesS : FSpec := ⟨List DoD, fun ds vs A => ∃ v, vs = [v] ∧ DosS A v ds, fun _ _ A v A' => A.Sub A' ∧ v = .bool true⟩

set_option maxRecDepth 100000 in
set_option maxHeartbeats 0 in
theorem lives_ok : FOk Try.prog 3 livesS := by
  refine fok_v mixed fun (ds : List DoD) vs A hp => ?_
  obtain ⟨v, rfl, rows, hS, hlen, hR⟩ : ∃ v, vs = [v] ∧ DosS A v ds := hp
  obtain ⟨ao, c, rfl, hc, hl, ha1, ha2, ha3⟩ := hS
  have hrow : ∀ k (hk : k < ds.length), ∃ g0 o, ao = some ⟨g0, o, none⟩ ∧ ∃ op tn xn cs d, AskR A d cs ∧ A.rd g0 (o + k * 18) 18 = some (.int .i64 op :: (cs ++ [.int .i64 tn, .int .i64 xn])) := fun k hk => by
    obtain ⟨g0, o, e, hra⟩ := Sl.at_ hc ha1 ha2 ha3 (by omega)
    exact ⟨g0, o, e, dos_row hR hra rfl hk⟩
  have hC : CTSound Try.prog (lookC [specE 7 ⟨Unit, fun _ vs _ => vs = [], fun _ _ A v A' => A' = A ∧ v = .bool true⟩, specE 4 newS, specE 10 putS, specE 14 readS, specE 17 settleS, specE 19 countS, specE 16 sameAskS', specE 8 pickS, specE 6 greatS,
      specE 5 rqNewS, specE 11 rqPutS, specE 15 rqReadS, specE 18 rqSettleS, specE 20 rqCountS, specE 9 lentAskS', specE 12 keptAskS', specE 13 overAskS'] noC) := lookC_sound (noC_sound _) (fun x hx => by
    simp only [List.mem_cons, List.not_mem_nil, or_false] at hx
    rcases hx with rfl | rfl | rfl | rfl | rfl | rfl | rfl | rfl | rfl | rfl | rfl | rfl | rfl | rfl | rfl | rfl | rfl
    · exact specE_ok (fok_closed mixed C0_sound (noL_sound _) awake_run)
    · exact specE_ok new_ok
    · exact specE_ok put_ok
    · exact specE_ok read_ok
    · exact specE_ok settle_ok
    · exact specE_ok count_ok
    · exact specE_ok sameAsk_ok
    · exact specE_ok pick_ok
    · exact specE_ok great_ok
    · exact specE_ok rqNew_ok
    · exact specE_ok rqPut_ok
    · exact specE_ok rqRead_ok
    · exact specE_ok rqSettle_ok
    · exact specE_ok rqCount_ok
    · exact specE_ok lentAsk_ok
    · exact specE_ok keptAsk_ok
    · exact specE_ok overAsk_ok)
  refine ⟨_, tabO Try.prog _ noL 60 [(3, 0)], 60, hC, tabO_sound mixed hC (noL_sound _) _ _, fun blk os out tape D hD => ?_⟩
  conv => lhs; whnf
  refine split_dec (fun h80 => ?_) (fun h80 => ?_)
  · have h80' : 80 < ds.length := by
      have h80 : (80 : Int) < ds.length := h80
      omega
    obtain ⟨g0, o, rfl, hra⟩ := Sl.at_ hc ha1 ha2 ha3 (by omega)
    obtain ⟨c', rfl⟩ : ∃ c', c = c' + 1 := ⟨c - 1, by omega⟩
    have hn : ∃ n : Nat, n = 80 ∧ n ≤ ds.length ∧ n ≤ c' + 1 := ⟨_, rfl, by omega, by omega⟩
    conv => lhs; whnf
    refine go_dec (by show (80 : Int) ≤ ((c' + 1 : Nat) : Int); omega) ?_
    conv => lhs; whnf
    obtain ⟨n, hn, hle, hnc⟩ := hn
    refine (hD _).2 ⟨(), rfl, fun v A1 hq => ?_⟩
    obtain ⟨s1, g, rfl, hg, hQ⟩ : A.Sub A1 ∧ ∃ g, v = .pointer (some ⟨g, 0, none⟩) ∧ A.blk g = none ∧ QR Arena.void A1 g [] := hq
    conv => lhs; whnf
    refine (hD _).2 ⟨(), rfl, fun v A2 hq => ?_⟩
    obtain ⟨s2, r, O, rfl, hrq, hO⟩ : A1.Sub A2 ∧ ∃ r O, v = .pointer (some ⟨r, 0, none⟩) ∧ RqAt A2 Arena.void O r [] ∧ ∀ k, O k → A1.blk k = none := hq
    have hLv : LvAt A A2 Arena.void g Arena.void O r [] [] := by
      obtain ⟨og, hog⟩ := qr_live hQ
      refine ⟨s1.trans s2, hQ.up (fun k o hk => (by cases hk)) (fun _ ho => s2 _ _ ho), hrq, fun k hk => ?_, fun _ _ => rfl, fun k hk e => ?_, hg, rfl⟩
      · cases h : A.blk k with
        | none => rfl
        | some o => have := hO k hk; rw [s1 k o h] at this; cases this
      · have := hO k hk
        rw [e, hog] at this; cases this
    conv => lhs; whnf
    refine (hD _).2 ⟨livesInv A g r n, ⟨(⟨0, [], Arena.void, Arena.void, O, A2⟩ : LvG), ⟨Nat.zero_le _, hLv⟩, ⟨rfl, trivial⟩, trivial, rfl⟩, fun (s : LvG) hG => ⟨⟨trivial, trivial⟩, trivial, ?_⟩⟩
    obtain ⟨k, qs, B1, B2, Ok, Ak⟩ := s
    obtain ⟨hk, hLv⟩ : k ≤ n ∧ LvAt A Ak B1 g B2 Ok r qs qs := hG
    conv => lhs; whnf
    refine split_dec (fun hlt => ?_) (fun hlt => ?_)
    rotate_left
    · conv => lhs; whnf
      refine (hD _).2 ⟨(), rfl, fun v A3 hq => ?_⟩
      obtain ⟨hA3, hv3⟩ : A3 = Ak ∧ v = .bool true := hq
      subst hA3; subst hv3
      have hend : livesS.post ds [] A (.bool true) A3 := ⟨hLv.sub, rfl⟩
      conv => lhs; whnf
      exact (hD _).2 hend
    have hkn : k < n := by
      have hlt : (k : Int) < (n : Int) := by rw [hn]; exact hlt
      omega
    obtain ⟨g1, o1, e1, op, tn, xn, cs, d, hR1, r1⟩ := hrow k (by omega)
    cases e1
    have hin : (k : Int) < (n : Int) := by omega
    rw [hn] at hin
    have i0 : (0 : Int) ≤ (k : Int) := by omega
    obtain ⟨p0, p1, p2, p3, p4, q5, u5, n5, p6, p7, p8, p9, p10, p11, p12, q13, u13, n13, q14, u14, n14, rfl⟩ := hR1.form
    have r1 : A.rd _ (_ + k * 18) 18 = some [.int .i64 op, .int .u8 p0, .int .i64 p1, .int .i64 p2, .int .i64 p3, .string p4, .slice q5 u5 n5, .int .i64 p6, .int .i64 p7, .bool p8, .int .u8 p9, .int .i64 p10, .int .i64 p11, .int .i64 p12, .slice q13 u13 n13, .slice q14 u14 n14, .int .i64 tn, .int .i64 xn] := r1
    have r2 := rd_sub hLv.sub r1
    conv => lhs; whnf
    refine go_in ⟨i0, hin⟩ ?_
    conv => lhs; whnf
    refine go_rd r2 ?_
    conv => lhs; whnf
    refine (hD _).2 ⟨d, ⟨_, rfl, AskR.sub hLv.sub _ _ hR1⟩, fun v A3 hq => ?_⟩
    obtain ⟨hA3, b, hb⟩ : A3 = Ak ∧ ∃ b, v = .bool b := hq
    subst hA3; subst hb
    conv => lhs; whnf
    refine split_b (fun _ => ?_) (fun _ => ?_)
    · conv => lhs; whnf
      refine (hD _).2 ⟨(), rfl, fun v A4 hq => ?_⟩
      obtain ⟨hA4, hv4⟩ : A4 = A3 ∧ v = .bool true := hq
      subst hA4; subst hv4
      have hend : livesS.post ds [] A (.bool true) A4 := ⟨hLv.sub, rfl⟩
      conv => lhs; whnf
      exact (hD _).2 hend
    conv => lhs; whnf
    refine (hD _).2 ⟨op, rfl, fun v A4 hq => ?_⟩
    obtain ⟨hA4, x, hx⟩ : A4 = A3 ∧ ∃ k, v = .int .i64 k := hq
    subst hA4; subst hx
    have h8 : qs.length ≤ 8 := qr_le hLv.q
    have put : x = 0 ∨ x = 1 ∨ x = 2 ∨ x = 3 ∨ (x ≠ 0 ∧ x ≠ 1 ∧ x ≠ 2 ∧ x ≠ 3) := by omega
    rcases put with rfl | rfl | rfl | rfl | ⟨hx0, hx1, hx2, hx3⟩
    iterate 2
      · conv => lhs; whnf
        repeat (refine go_D hD rfl ?_
                conv => lhs; whnf)
        refine (hD _).2 ⟨d, ⟨_, rfl, AskR.sub hLv.sub _ _ hR1⟩, fun v A5 hq => ?_⟩
        have hq : A4.Sub A5 ∧ ∃ cs L, v = askV cs ∧ LentR A5 d cs L ∧ ∀ k ∈ L, A4.blk k = none := hq
        obtain ⟨s5, cs5, L, hv, hlr, hLn⟩ := hq
        subst hv
        have hGu := Guest.new hLv hlr hLn
        have hLv5 := hLv.more s5
        have hbut : AskR (Arena.but A5 g) d cs5 := (hlr.keep fun q hq => by
          obtain ⟨_, ho⟩ := hlr.live q hq
          rw [ho]
          exact but_mk ho (hGu.lg q hq)).ask
        have hR5 := AskR.sub hLv5.sub _ _ hR1
        obtain ⟨y0, y1, y2, y3, y4, y5, z5, m5, y6, y7, y8, y9, y10, y11, y12, y13, z13, m13, y14, z14, m14, rfl⟩ := hlr.ask.form
        conv => lhs; whnf
        repeat (first | refine go_D hD rfl ?_ | refine split_nd (fun _ => ?_) (fun h => absurd rfl h)
                conv => lhs; whnf)
        refine (hD _).2 ⟨(g, qs, d, B1), ⟨_, rfl, hLv5.q, hbut⟩, fun v A6 hq => ?_⟩
        obtain ⟨s6, hq⟩ : (Arena.but A5 g).Sub A6 ∧ ((qs.length = 8 ∧ v = .int .i64 360 ∧ QR B1 A6 g qs) ∨ (qs.length < 8 ∧ v = .int .i64 0 ∧ ∃ B', QR B' A6 g (qs ++ [d]) ∧ B1.Sub B' ∧ ∀ k o, A5.blk k = some o → B1.blk k = none → B'.blk k = none)) := hq
        rcases hq with ⟨h9, hv, hQ6⟩ | ⟨h9, hv, B1', hQ6, _, hB1'⟩
        · subst hv
          have hLv6 := hLv5.qstep s6 hQ6 (fun _ _ _ h => h)
          have hGu6 := hGu.qstep s6 (fun _ _ _ h => h)
          have hR6 := AskR.sub hLv6.sub _ _ hR1
          conv => lhs; whnf
          repeat (first | refine go_D hD rfl ?_ | refine split_nd (fun _ => ?_) (fun h => absurd rfl h)
                  conv => lhs; whnf)
          refine (hD _).2 ⟨((⟨qs, B2, Ok, r⟩ : RqG), d, Arena.void), ⟨_, rfl, hLv6.rq, hR6, h8⟩, fun v A7 hq => ?_⟩
          have hq : (qs.length = 8 ∧ v = .int .i64 360 ∧ A7 = A6) ∨ (qs.length < 8 ∧ v = .int .i64 0 ∧ ∃ B' O', RqAt A7 B' O' r (qs ++ [d]) ∧ Step A6 B2 Ok A7 B' O') := hq
          obtain ⟨_, hv, h7⟩ | ⟨h7, _⟩ := hq
          · subst hv; subst h7
            conv => lhs; whnf
            repeat (first | refine go_D hD rfl ?_ | refine split_nd (fun _ => ?_) (fun h => absurd rfl h)
                    conv => lhs; whnf)
            refine (hD _).2 ⟨(d, L), ⟨_, _, rfl, hGu6.lent, hR6⟩, fun v A8 hq => ?_⟩
            obtain ⟨h8', hv⟩ : A8 = A7 ∧ v = .bool true := hq
            subst h8'; subst hv
            conv => lhs; whnf
            repeat (first | refine go_D hD rfl ?_ | refine split_nd (fun _ => ?_) (fun h => absurd rfl h)
                    conv => lhs; whnf)
            refine (hD _).2 ⟨(d, L), ⟨_, rfl, hGu6.lent⟩, fun v A9 hq => ?_⟩
            have hLv9 := hLv6.over hGu6 hq
            conv => lhs; whnf
            repeat (first | refine go_D hD rfl ?_ | refine split_nd (fun _ => ?_) (fun h => absurd rfl h)
                    conv => lhs; whnf)
            refine (hD _).2 ⟨(g, qs, B1), ⟨rfl, hLv9.q⟩, fun v AX hq => ?_⟩
            obtain ⟨hX, hv⟩ : AX = A9 ∧ v = .int .i64 ((qs : List AskD).length : Nat) := hq
            subst hX; subst hv
            conv => lhs; whnf
            repeat (first | refine go_D hD rfl ?_ | refine split_nd (fun _ => ?_) (fun h => absurd rfl h)
                    conv => lhs; whnf)
            refine (hD _).2 ⟨(⟨qs, B2, Ok, r⟩ : RqG), ⟨rfl, hLv9.rq⟩, fun v AY hq => ?_⟩
            obtain ⟨hY, hv⟩ : AY = AX ∧ v = .int .i64 ((qs : List AskD).length : Nat) := hq
            subst hY; subst hv
            conv => lhs; whnf
            repeat (first | refine go_D hD rfl ?_ | refine split_nd (fun _ => ?_) (fun h => absurd rfl h)
                    conv => lhs; whnf)
            exact (hD _).2 ⟨(⟨k + 1, qs, B1, B2, Ok, AY⟩ : LvG), ⟨⟨hkn, hLv9⟩, ⟨inc_slot (k := k) (by omega), trivial⟩, trivial, rfl⟩, by show n - (k + 1) < n - k; omega, ⟨same1 rfl rfl, same1 rfl rfl, same1 rfl rfl, trivial⟩, trivial⟩
          · omega
        · subst hv
          have hLv6 := hLv5.qstep s6 hQ6 hB1'
          have hGu6 := hGu.qstep s6 hB1'
          have hR6 := AskR.sub hLv6.sub _ _ hR1
          conv => lhs; whnf
          repeat (first | refine go_D hD rfl ?_ | refine split_nd (fun _ => ?_) (fun h => absurd rfl h)
                  conv => lhs; whnf)
          refine (hD _).2 ⟨((⟨qs, B2, Ok, r⟩ : RqG), d, Arena.void), ⟨_, rfl, hLv6.rq, hR6, h8⟩, fun v A7 hq => ?_⟩
          have hq : (qs.length = 8 ∧ v = .int .i64 360 ∧ A7 = A6) ∨ (qs.length < 8 ∧ v = .int .i64 0 ∧ ∃ B' O', RqAt A7 B' O' r (qs ++ [d]) ∧ Step A6 B2 Ok A7 B' O') := hq
          obtain ⟨h7, _⟩ | ⟨_, hv, B2', O', hrq7, hst7⟩ := hq
          · omega
          subst hv
          have hLv7 := hLv6.rstep hrq7 hst7
          have hGu7 := hGu6.rstep hst7
          have hR7 := AskR.sub hLv7.sub _ _ hR1
          conv => lhs; whnf
          repeat (first | refine go_D hD rfl ?_ | refine split_nd (fun _ => ?_) (fun h => absurd rfl h)
                  conv => lhs; whnf)
          refine (hD _).2 ⟨(d, L), ⟨_, _, rfl, hGu7.lent, hR7⟩, fun v A8 hq => ?_⟩
          obtain ⟨h8', hv⟩ : A8 = A7 ∧ v = .bool true := hq
          subst h8'; subst hv
          conv => lhs; whnf
          repeat (first | refine go_D hD rfl ?_ | refine split_nd (fun _ => ?_) (fun h => absurd rfl h)
                  conv => lhs; whnf)
          refine (hD _).2 ⟨(d, L), ⟨_, rfl, hGu7.lent⟩, fun v A9 hq => ?_⟩
          have hLv9 := hLv7.over hGu7 hq
          conv => lhs; whnf
          repeat (first | refine go_D hD rfl ?_ | refine split_nd (fun _ => ?_) (fun h => absurd rfl h)
                  conv => lhs; whnf)
          refine (hD _).2 ⟨(g, (qs ++ [d]), B1'), ⟨rfl, hLv9.q⟩, fun v AX hq => ?_⟩
          obtain ⟨hX, hv⟩ : AX = A9 ∧ v = .int .i64 (((qs ++ [d]) : List AskD).length : Nat) := hq
          subst hX; subst hv
          conv => lhs; whnf
          repeat (first | refine go_D hD rfl ?_ | refine split_nd (fun _ => ?_) (fun h => absurd rfl h)
                  conv => lhs; whnf)
          refine (hD _).2 ⟨(⟨(qs ++ [d]), B2', O', r⟩ : RqG), ⟨rfl, hLv9.rq⟩, fun v AY hq => ?_⟩
          obtain ⟨hY, hv⟩ : AY = AX ∧ v = .int .i64 (((qs ++ [d]) : List AskD).length : Nat) := hq
          subst hY; subst hv
          conv => lhs; whnf
          repeat (first | refine go_D hD rfl ?_ | refine split_nd (fun _ => ?_) (fun h => absurd rfl h)
                  conv => lhs; whnf)
          exact (hD _).2 ⟨(⟨k + 1, (qs ++ [d]), B1', B2', O', AY⟩ : LvG), ⟨⟨hkn, hLv9⟩, ⟨inc_slot (k := k) (by omega), trivial⟩, trivial, rfl⟩, by show n - (k + 1) < n - k; omega, ⟨same1 rfl rfl, same1 rfl rfl, same1 rfl rfl, trivial⟩, trivial⟩
    · conv => lhs; whnf
      repeat (refine go_D hD rfl ?_
              conv => lhs; whnf)
      refine (hD _).2 ⟨(g, qs, B1), ⟨rfl, hLv.q⟩, fun v A5 hq => ?_⟩
      obtain ⟨s5, hq⟩ : outPost B1 g qs (fun d => readsD d.kind) A4 v A5 := hq
      rcases hq with ⟨cs0, hv, hz0, hQ5, hno⟩ | ⟨d0, qs', cs0, hqs, hd0, hv, hQ5, hR0⟩
      · subst hv; subst hz0
        have hLv5 := hLv.qstep s5 hQ5 (fun _ _ _ h => h)
        conv => lhs; whnf
        repeat (first | refine go_D hD rfl ?_ | refine split_nd (fun _ => ?_) (fun h => absurd rfl h)
                conv => lhs; whnf)
        refine (hD _).2 ⟨(⟨qs, B2, Ok, r⟩ : RqG), ⟨rfl, hLv5.rq, h8⟩, fun v A6 hq => ?_⟩
        have hq : (v = .tuple #[askV zeroC, .bool false] ∧ A6 = A5 ∧ ∀ d ds', qs = d :: ds' → readsD d.kind = false) ∨ ∃ d ds' cs, qs = d :: ds' ∧ readsD d.kind = true ∧ v = .tuple #[askV cs, .bool true] ∧ AskR B2 d cs ∧ ∃ O', RqAt A6 B2 O' r ds' ∧ Step A5 B2 Ok A6 B2 O' := hq
        obtain ⟨hv, h6, _⟩ | ⟨d2, ds2, cs2, e2, hd2, _⟩ := hq
        · subst hv; subst h6
          conv => lhs; whnf
          repeat (first | refine go_D hD rfl ?_ | refine split_nd (fun _ => ?_) (fun h => absurd rfl h)
                  conv => lhs; whnf)
          refine (hD _).2 ⟨(zeroD, zeroD), ⟨_, _, rfl, zeroD_ok _, zeroD_ok _⟩, fun v A7 hq => ?_⟩
          obtain ⟨h7, hv⟩ : A7 = A6 ∧ v = .bool (decide (zeroD = zeroD)) := hq
          rw [decide_eq_true rfl] at hv
          subst h7; subst hv
          conv => lhs; whnf
          repeat (first | refine go_D hD rfl ?_ | refine split_nd (fun _ => ?_) (fun h => absurd rfl h)
                  conv => lhs; whnf)
          refine (hD _).2 ⟨(g, qs, B1), ⟨rfl, hLv5.q⟩, fun v AX hq => ?_⟩
          obtain ⟨hX, hv⟩ : AX = A7 ∧ v = .int .i64 ((qs : List AskD).length : Nat) := hq
          subst hX; subst hv
          conv => lhs; whnf
          repeat (first | refine go_D hD rfl ?_ | refine split_nd (fun _ => ?_) (fun h => absurd rfl h)
                  conv => lhs; whnf)
          refine (hD _).2 ⟨(⟨qs, B2, Ok, r⟩ : RqG), ⟨rfl, hLv5.rq⟩, fun v AY hq => ?_⟩
          obtain ⟨hY, hv⟩ : AY = AX ∧ v = .int .i64 ((qs : List AskD).length : Nat) := hq
          subst hY; subst hv
          conv => lhs; whnf
          repeat (first | refine go_D hD rfl ?_ | refine split_nd (fun _ => ?_) (fun h => absurd rfl h)
                  conv => lhs; whnf)
          exact (hD _).2 ⟨(⟨k + 1, qs, B1, B2, Ok, AY⟩ : LvG), ⟨⟨hkn, hLv5⟩, ⟨inc_slot (k := k) (by omega), trivial⟩, trivial, rfl⟩, by show n - (k + 1) < n - k; omega, ⟨same1 rfl rfl, same1 rfl rfl, same1 rfl rfl, trivial⟩, trivial⟩
        · have hd1 := hno d2 ds2 e2
          dsimp only at hd1
          rw [hd1] at hd2; cases hd2
      · subst hv; subst hqs
        have hLv5 := hLv.qstep s5 hQ5 (fun _ _ _ h => h)
        have hR00 := hR0
        obtain ⟨y0, y1, y2, y3, y4, y5, z5, m5, y6, y7, y8, y9, y10, y11, y12, y13, z13, m13, y14, z14, m14, hcs0⟩ := hR0.form
        subst hcs0
        conv => lhs; whnf
        repeat (first | refine go_D hD rfl ?_ | refine split_nd (fun _ => ?_) (fun h => absurd rfl h)
                conv => lhs; whnf)
        refine (hD _).2 ⟨(⟨(d0 :: qs'), B2, Ok, r⟩ : RqG), ⟨rfl, hLv5.rq, h8⟩, fun v A6 hq => ?_⟩
        have hq : (v = .tuple #[askV zeroC, .bool false] ∧ A6 = A5 ∧ ∀ d ds', (d0 :: qs') = d :: ds' → readsD d.kind = false) ∨ ∃ d ds' cs, (d0 :: qs') = d :: ds' ∧ readsD d.kind = true ∧ v = .tuple #[askV cs, .bool true] ∧ AskR B2 d cs ∧ ∃ O', RqAt A6 B2 O' r ds' ∧ Step A5 B2 Ok A6 B2 O' := hq
        obtain ⟨_, _, hno⟩ | ⟨d2, ds2, cs2, e2, hd2, hv, hR2, O', hrq6, hst6⟩ := hq
        · have hd1 := hno d0 qs' rfl
          dsimp only at hd0
          rw [hd0] at hd1; cases hd1
        injection e2 with e3 e4
        subst e3; subst e4; subst hv
        have hLv6 := hLv5.rstep hrq6 hst6
        have hR20 := hR2
        obtain ⟨t0, t1, t2, t3, t4, t5, w5, l5, t6, t7, t8, t9, t10, t11, t12, t13, w13, l13, t14, w14, l14, hcs2⟩ := hR2.form
        subst hcs2
        conv => lhs; whnf
        repeat (first | refine go_D hD rfl ?_ | refine split_nd (fun _ => ?_) (fun h => absurd rfl h)
                conv => lhs; whnf)
        refine (hD _).2 ⟨(d0, d0), ⟨_, _, rfl, AskR.sub (qr_sub hLv6.q) _ _ hR00, AskR.sub (rq_sub hLv6.rq) _ _ hR20⟩, fun v A7 hq => ?_⟩
        obtain ⟨h7, hv⟩ : A7 = A6 ∧ v = .bool (decide (d0 = d0)) := hq
        rw [decide_eq_true rfl] at hv
        subst h7; subst hv
        conv => lhs; whnf
        repeat (first | refine go_D hD rfl ?_ | refine split_nd (fun _ => ?_) (fun h => absurd rfl h)
                conv => lhs; whnf)
        refine (hD _).2 ⟨(g, qs', B1), ⟨rfl, hLv6.q⟩, fun v AX hq => ?_⟩
        obtain ⟨hX, hv⟩ : AX = A7 ∧ v = .int .i64 ((qs' : List AskD).length : Nat) := hq
        subst hX; subst hv
        conv => lhs; whnf
        repeat (first | refine go_D hD rfl ?_ | refine split_nd (fun _ => ?_) (fun h => absurd rfl h)
                conv => lhs; whnf)
        refine (hD _).2 ⟨(⟨qs', B2, O', r⟩ : RqG), ⟨rfl, hLv6.rq⟩, fun v AY hq => ?_⟩
        obtain ⟨hY, hv⟩ : AY = AX ∧ v = .int .i64 ((qs' : List AskD).length : Nat) := hq
        subst hY; subst hv
        conv => lhs; whnf
        repeat (first | refine go_D hD rfl ?_ | refine split_nd (fun _ => ?_) (fun h => absurd rfl h)
                conv => lhs; whnf)
        exact (hD _).2 ⟨(⟨k + 1, qs', B1, B2, O', AY⟩ : LvG), ⟨⟨hkn, hLv6⟩, ⟨inc_slot (k := k) (by omega), trivial⟩, trivial, rfl⟩, by show n - (k + 1) < n - k; omega, ⟨same1 rfl rfl, same1 rfl rfl, same1 rfl rfl, trivial⟩, trivial⟩
    · conv => lhs; whnf
      repeat (refine go_D hD rfl ?_
              conv => lhs; whnf)
      refine (hD _).2 ⟨((g, qs, B1), tn, xn), ⟨rfl, hLv.q⟩, fun v A5 hq => ?_⟩
      obtain ⟨s5, hq⟩ : outPost B1 g qs (fun d => (!readsD d.kind && decide (d.turn = tn) && decide (d.xid = xn))) A4 v A5 := hq
      rcases hq with ⟨cs0, hv, hz0, hQ5, hno⟩ | ⟨d0, qs', cs0, hqs, hd0, hv, hQ5, hR0⟩
      · subst hv; subst hz0
        have hLv5 := hLv.qstep s5 hQ5 (fun _ _ _ h => h)
        conv => lhs; whnf
        repeat (first | refine go_D hD rfl ?_ | refine split_nd (fun _ => ?_) (fun h => absurd rfl h)
                conv => lhs; whnf)
        refine (hD _).2 ⟨((⟨qs, B2, Ok, r⟩ : RqG), tn, xn), ⟨rfl, hLv5.rq, h8⟩, fun v A6 hq => ?_⟩
        have hq : (v = .tuple #[askV zeroC, .bool false] ∧ A6 = A5 ∧ ∀ d ds', qs = d :: ds' → (!readsD d.kind && decide (d.turn = tn) && decide (d.xid = xn)) = false) ∨ ∃ d ds' cs, qs = d :: ds' ∧ (!readsD d.kind && decide (d.turn = tn) && decide (d.xid = xn)) = true ∧ v = .tuple #[askV cs, .bool true] ∧ AskR B2 d cs ∧ ∃ O', RqAt A6 B2 O' r ds' ∧ Step A5 B2 Ok A6 B2 O' := hq
        obtain ⟨hv, h6, _⟩ | ⟨d2, ds2, cs2, e2, hd2, _⟩ := hq
        · subst hv; subst h6
          conv => lhs; whnf
          repeat (first | refine go_D hD rfl ?_ | refine split_nd (fun _ => ?_) (fun h => absurd rfl h)
                  conv => lhs; whnf)
          refine (hD _).2 ⟨(zeroD, zeroD), ⟨_, _, rfl, zeroD_ok _, zeroD_ok _⟩, fun v A7 hq => ?_⟩
          obtain ⟨h7, hv⟩ : A7 = A6 ∧ v = .bool (decide (zeroD = zeroD)) := hq
          rw [decide_eq_true rfl] at hv
          subst h7; subst hv
          conv => lhs; whnf
          repeat (first | refine go_D hD rfl ?_ | refine split_nd (fun _ => ?_) (fun h => absurd rfl h)
                  conv => lhs; whnf)
          refine (hD _).2 ⟨(g, qs, B1), ⟨rfl, hLv5.q⟩, fun v AX hq => ?_⟩
          obtain ⟨hX, hv⟩ : AX = A7 ∧ v = .int .i64 ((qs : List AskD).length : Nat) := hq
          subst hX; subst hv
          conv => lhs; whnf
          repeat (first | refine go_D hD rfl ?_ | refine split_nd (fun _ => ?_) (fun h => absurd rfl h)
                  conv => lhs; whnf)
          refine (hD _).2 ⟨(⟨qs, B2, Ok, r⟩ : RqG), ⟨rfl, hLv5.rq⟩, fun v AY hq => ?_⟩
          obtain ⟨hY, hv⟩ : AY = AX ∧ v = .int .i64 ((qs : List AskD).length : Nat) := hq
          subst hY; subst hv
          conv => lhs; whnf
          repeat (first | refine go_D hD rfl ?_ | refine split_nd (fun _ => ?_) (fun h => absurd rfl h)
                  conv => lhs; whnf)
          exact (hD _).2 ⟨(⟨k + 1, qs, B1, B2, Ok, AY⟩ : LvG), ⟨⟨hkn, hLv5⟩, ⟨inc_slot (k := k) (by omega), trivial⟩, trivial, rfl⟩, by show n - (k + 1) < n - k; omega, ⟨same1 rfl rfl, same1 rfl rfl, same1 rfl rfl, trivial⟩, trivial⟩
        · have hd1 := hno d2 ds2 e2
          dsimp only at hd1
          rw [hd1] at hd2; cases hd2
      · subst hv; subst hqs
        have hLv5 := hLv.qstep s5 hQ5 (fun _ _ _ h => h)
        have hR00 := hR0
        obtain ⟨y0, y1, y2, y3, y4, y5, z5, m5, y6, y7, y8, y9, y10, y11, y12, y13, z13, m13, y14, z14, m14, hcs0⟩ := hR0.form
        subst hcs0
        conv => lhs; whnf
        repeat (first | refine go_D hD rfl ?_ | refine split_nd (fun _ => ?_) (fun h => absurd rfl h)
                conv => lhs; whnf)
        refine (hD _).2 ⟨((⟨(d0 :: qs'), B2, Ok, r⟩ : RqG), tn, xn), ⟨rfl, hLv5.rq, h8⟩, fun v A6 hq => ?_⟩
        have hq : (v = .tuple #[askV zeroC, .bool false] ∧ A6 = A5 ∧ ∀ d ds', (d0 :: qs') = d :: ds' → (!readsD d.kind && decide (d.turn = tn) && decide (d.xid = xn)) = false) ∨ ∃ d ds' cs, (d0 :: qs') = d :: ds' ∧ (!readsD d.kind && decide (d.turn = tn) && decide (d.xid = xn)) = true ∧ v = .tuple #[askV cs, .bool true] ∧ AskR B2 d cs ∧ ∃ O', RqAt A6 B2 O' r ds' ∧ Step A5 B2 Ok A6 B2 O' := hq
        obtain ⟨_, _, hno⟩ | ⟨d2, ds2, cs2, e2, hd2, hv, hR2, O', hrq6, hst6⟩ := hq
        · have hd1 := hno d0 qs' rfl
          dsimp only at hd0
          rw [hd0] at hd1; cases hd1
        injection e2 with e3 e4
        subst e3; subst e4; subst hv
        have hLv6 := hLv5.rstep hrq6 hst6
        have hR20 := hR2
        obtain ⟨t0, t1, t2, t3, t4, t5, w5, l5, t6, t7, t8, t9, t10, t11, t12, t13, w13, l13, t14, w14, l14, hcs2⟩ := hR2.form
        subst hcs2
        conv => lhs; whnf
        repeat (first | refine go_D hD rfl ?_ | refine split_nd (fun _ => ?_) (fun h => absurd rfl h)
                conv => lhs; whnf)
        refine (hD _).2 ⟨(d0, d0), ⟨_, _, rfl, AskR.sub (qr_sub hLv6.q) _ _ hR00, AskR.sub (rq_sub hLv6.rq) _ _ hR20⟩, fun v A7 hq => ?_⟩
        obtain ⟨h7, hv⟩ : A7 = A6 ∧ v = .bool (decide (d0 = d0)) := hq
        rw [decide_eq_true rfl] at hv
        subst h7; subst hv
        conv => lhs; whnf
        repeat (first | refine go_D hD rfl ?_ | refine split_nd (fun _ => ?_) (fun h => absurd rfl h)
                conv => lhs; whnf)
        refine (hD _).2 ⟨(g, qs', B1), ⟨rfl, hLv6.q⟩, fun v AX hq => ?_⟩
        obtain ⟨hX, hv⟩ : AX = A7 ∧ v = .int .i64 ((qs' : List AskD).length : Nat) := hq
        subst hX; subst hv
        conv => lhs; whnf
        repeat (first | refine go_D hD rfl ?_ | refine split_nd (fun _ => ?_) (fun h => absurd rfl h)
                conv => lhs; whnf)
        refine (hD _).2 ⟨(⟨qs', B2, O', r⟩ : RqG), ⟨rfl, hLv6.rq⟩, fun v AY hq => ?_⟩
        obtain ⟨hY, hv⟩ : AY = AX ∧ v = .int .i64 ((qs' : List AskD).length : Nat) := hq
        subst hY; subst hv
        conv => lhs; whnf
        repeat (first | refine go_D hD rfl ?_ | refine split_nd (fun _ => ?_) (fun h => absurd rfl h)
                conv => lhs; whnf)
        exact (hD _).2 ⟨(⟨k + 1, qs', B1, B2, O', AY⟩ : LvG), ⟨⟨hkn, hLv6⟩, ⟨inc_slot (k := k) (by omega), trivial⟩, trivial, rfl⟩, by show n - (k + 1) < n - k; omega, ⟨same1 rfl rfl, same1 rfl rfl, same1 rfl rfl, trivial⟩, trivial⟩
    · conv => lhs; whnf
      repeat (first | refine no_dec hx0 ?_ | refine no_dec hx1 ?_ | refine no_dec hx2 ?_ | refine no_dec hx3 ?_
              conv => lhs; whnf)
      conv => lhs; whnf
      repeat (first | refine go_D hD rfl ?_ | refine split_nd (fun _ => ?_) (fun h => absurd rfl h)
              conv => lhs; whnf)
      refine (hD _).2 ⟨(g, qs, B1), ⟨rfl, hLv.q⟩, fun v AX hq => ?_⟩
      obtain ⟨hX, hv⟩ : AX = A4 ∧ v = .int .i64 ((qs : List AskD).length : Nat) := hq
      subst hX; subst hv
      conv => lhs; whnf
      repeat (first | refine go_D hD rfl ?_ | refine split_nd (fun _ => ?_) (fun h => absurd rfl h)
              conv => lhs; whnf)
      refine (hD _).2 ⟨(⟨qs, B2, Ok, r⟩ : RqG), ⟨rfl, hLv.rq⟩, fun v AY hq => ?_⟩
      obtain ⟨hY, hv⟩ : AY = AX ∧ v = .int .i64 ((qs : List AskD).length : Nat) := hq
      subst hY; subst hv
      conv => lhs; whnf
      repeat (first | refine go_D hD rfl ?_ | refine split_nd (fun _ => ?_) (fun h => absurd rfl h)
              conv => lhs; whnf)
      exact (hD _).2 ⟨(⟨k + 1, qs, B1, B2, Ok, AY⟩ : LvG), ⟨⟨hkn, hLv⟩, ⟨inc_slot (k := k) (by omega), trivial⟩, trivial, rfl⟩, by show n - (k + 1) < n - k; omega, ⟨same1 rfl rfl, same1 rfl rfl, same1 rfl rfl, trivial⟩, trivial⟩
  · have hn : ∃ n : Nat, n = ds.length ∧ n ≤ ds.length ∧ n ≤ c := ⟨_, rfl, by omega, by omega⟩
    conv => lhs; whnf
    obtain ⟨n, hn, hle, hnc⟩ := hn
    refine (hD _).2 ⟨(), rfl, fun v A1 hq => ?_⟩
    obtain ⟨s1, g, rfl, hg, hQ⟩ : A.Sub A1 ∧ ∃ g, v = .pointer (some ⟨g, 0, none⟩) ∧ A.blk g = none ∧ QR Arena.void A1 g [] := hq
    conv => lhs; whnf
    refine (hD _).2 ⟨(), rfl, fun v A2 hq => ?_⟩
    obtain ⟨s2, r, O, rfl, hrq, hO⟩ : A1.Sub A2 ∧ ∃ r O, v = .pointer (some ⟨r, 0, none⟩) ∧ RqAt A2 Arena.void O r [] ∧ ∀ k, O k → A1.blk k = none := hq
    have hLv : LvAt A A2 Arena.void g Arena.void O r [] [] := by
      obtain ⟨og, hog⟩ := qr_live hQ
      refine ⟨s1.trans s2, hQ.up (fun k o hk => (by cases hk)) (fun _ ho => s2 _ _ ho), hrq, fun k hk => ?_, fun _ _ => rfl, fun k hk e => ?_, hg, rfl⟩
      · cases h : A.blk k with
        | none => rfl
        | some o => have := hO k hk; rw [s1 k o h] at this; cases this
      · have := hO k hk
        rw [e, hog] at this; cases this
    conv => lhs; whnf
    refine (hD _).2 ⟨livesInv A g r n, ⟨(⟨0, [], Arena.void, Arena.void, O, A2⟩ : LvG), ⟨Nat.zero_le _, hLv⟩, ⟨rfl, trivial⟩, trivial, rfl⟩, fun (s : LvG) hG => ⟨⟨trivial, trivial⟩, trivial, ?_⟩⟩
    obtain ⟨k, qs, B1, B2, Ok, Ak⟩ := s
    obtain ⟨hk, hLv⟩ : k ≤ n ∧ LvAt A Ak B1 g B2 Ok r qs qs := hG
    conv => lhs; whnf
    refine split_dec (fun hlt => ?_) (fun hlt => ?_)
    rotate_left
    · conv => lhs; whnf
      refine (hD _).2 ⟨(), rfl, fun v A3 hq => ?_⟩
      obtain ⟨hA3, hv3⟩ : A3 = Ak ∧ v = .bool true := hq
      subst hA3; subst hv3
      have hend : livesS.post ds [] A (.bool true) A3 := ⟨hLv.sub, rfl⟩
      conv => lhs; whnf
      exact (hD _).2 hend
    have hkn : k < n := by
      have hlt : (k : Int) < (n : Int) := by rw [hn]; exact hlt
      omega
    obtain ⟨g1, o1, e1, op, tn, xn, cs, d, hR1, r1⟩ := hrow k (by omega)
    cases e1
    have hin : (k : Int) < (n : Int) := by omega
    rw [hn] at hin
    have i0 : (0 : Int) ≤ (k : Int) := by omega
    obtain ⟨p0, p1, p2, p3, p4, q5, u5, n5, p6, p7, p8, p9, p10, p11, p12, q13, u13, n13, q14, u14, n14, rfl⟩ := hR1.form
    have r1 : A.rd _ (_ + k * 18) 18 = some [.int .i64 op, .int .u8 p0, .int .i64 p1, .int .i64 p2, .int .i64 p3, .string p4, .slice q5 u5 n5, .int .i64 p6, .int .i64 p7, .bool p8, .int .u8 p9, .int .i64 p10, .int .i64 p11, .int .i64 p12, .slice q13 u13 n13, .slice q14 u14 n14, .int .i64 tn, .int .i64 xn] := r1
    have r2 := rd_sub hLv.sub r1
    conv => lhs; whnf
    refine go_in ⟨i0, hin⟩ ?_
    conv => lhs; whnf
    refine go_rd r2 ?_
    conv => lhs; whnf
    refine (hD _).2 ⟨d, ⟨_, rfl, AskR.sub hLv.sub _ _ hR1⟩, fun v A3 hq => ?_⟩
    obtain ⟨hA3, b, hb⟩ : A3 = Ak ∧ ∃ b, v = .bool b := hq
    subst hA3; subst hb
    conv => lhs; whnf
    refine split_b (fun _ => ?_) (fun _ => ?_)
    · conv => lhs; whnf
      refine (hD _).2 ⟨(), rfl, fun v A4 hq => ?_⟩
      obtain ⟨hA4, hv4⟩ : A4 = A3 ∧ v = .bool true := hq
      subst hA4; subst hv4
      have hend : livesS.post ds [] A (.bool true) A4 := ⟨hLv.sub, rfl⟩
      conv => lhs; whnf
      exact (hD _).2 hend
    conv => lhs; whnf
    refine (hD _).2 ⟨op, rfl, fun v A4 hq => ?_⟩
    obtain ⟨hA4, x, hx⟩ : A4 = A3 ∧ ∃ k, v = .int .i64 k := hq
    subst hA4; subst hx
    have h8 : qs.length ≤ 8 := qr_le hLv.q
    have put : x = 0 ∨ x = 1 ∨ x = 2 ∨ x = 3 ∨ (x ≠ 0 ∧ x ≠ 1 ∧ x ≠ 2 ∧ x ≠ 3) := by omega
    rcases put with rfl | rfl | rfl | rfl | ⟨hx0, hx1, hx2, hx3⟩
    iterate 2
      · conv => lhs; whnf
        repeat (refine go_D hD rfl ?_
                conv => lhs; whnf)
        refine (hD _).2 ⟨d, ⟨_, rfl, AskR.sub hLv.sub _ _ hR1⟩, fun v A5 hq => ?_⟩
        have hq : A4.Sub A5 ∧ ∃ cs L, v = askV cs ∧ LentR A5 d cs L ∧ ∀ k ∈ L, A4.blk k = none := hq
        obtain ⟨s5, cs5, L, hv, hlr, hLn⟩ := hq
        subst hv
        have hGu := Guest.new hLv hlr hLn
        have hLv5 := hLv.more s5
        have hbut : AskR (Arena.but A5 g) d cs5 := (hlr.keep fun q hq => by
          obtain ⟨_, ho⟩ := hlr.live q hq
          rw [ho]
          exact but_mk ho (hGu.lg q hq)).ask
        have hR5 := AskR.sub hLv5.sub _ _ hR1
        obtain ⟨y0, y1, y2, y3, y4, y5, z5, m5, y6, y7, y8, y9, y10, y11, y12, y13, z13, m13, y14, z14, m14, rfl⟩ := hlr.ask.form
        conv => lhs; whnf
        repeat (first | refine go_D hD rfl ?_ | refine split_nd (fun _ => ?_) (fun h => absurd rfl h)
                conv => lhs; whnf)
        refine (hD _).2 ⟨(g, qs, d, B1), ⟨_, rfl, hLv5.q, hbut⟩, fun v A6 hq => ?_⟩
        obtain ⟨s6, hq⟩ : (Arena.but A5 g).Sub A6 ∧ ((qs.length = 8 ∧ v = .int .i64 360 ∧ QR B1 A6 g qs) ∨ (qs.length < 8 ∧ v = .int .i64 0 ∧ ∃ B', QR B' A6 g (qs ++ [d]) ∧ B1.Sub B' ∧ ∀ k o, A5.blk k = some o → B1.blk k = none → B'.blk k = none)) := hq
        rcases hq with ⟨h9, hv, hQ6⟩ | ⟨h9, hv, B1', hQ6, _, hB1'⟩
        · subst hv
          have hLv6 := hLv5.qstep s6 hQ6 (fun _ _ _ h => h)
          have hGu6 := hGu.qstep s6 (fun _ _ _ h => h)
          have hR6 := AskR.sub hLv6.sub _ _ hR1
          conv => lhs; whnf
          repeat (first | refine go_D hD rfl ?_ | refine split_nd (fun _ => ?_) (fun h => absurd rfl h)
                  conv => lhs; whnf)
          refine (hD _).2 ⟨((⟨qs, B2, Ok, r⟩ : RqG), d, Arena.void), ⟨_, rfl, hLv6.rq, hR6, h8⟩, fun v A7 hq => ?_⟩
          have hq : (qs.length = 8 ∧ v = .int .i64 360 ∧ A7 = A6) ∨ (qs.length < 8 ∧ v = .int .i64 0 ∧ ∃ B' O', RqAt A7 B' O' r (qs ++ [d]) ∧ Step A6 B2 Ok A7 B' O') := hq
          obtain ⟨_, hv, h7⟩ | ⟨h7, _⟩ := hq
          · subst hv; subst h7
            conv => lhs; whnf
            repeat (first | refine go_D hD rfl ?_ | refine split_nd (fun _ => ?_) (fun h => absurd rfl h)
                    conv => lhs; whnf)
            refine (hD _).2 ⟨(d, L), ⟨_, _, rfl, hGu6.lent, hR6⟩, fun v A8 hq => ?_⟩
            obtain ⟨h8', hv⟩ : A8 = A7 ∧ v = .bool true := hq
            subst h8'; subst hv
            conv => lhs; whnf
            repeat (first | refine go_D hD rfl ?_ | refine split_nd (fun _ => ?_) (fun h => absurd rfl h)
                    conv => lhs; whnf)
            refine (hD _).2 ⟨(d, L), ⟨_, rfl, hGu6.lent⟩, fun v A9 hq => ?_⟩
            have hLv9 := hLv6.over hGu6 hq
            conv => lhs; whnf
            repeat (first | refine go_D hD rfl ?_ | refine split_nd (fun _ => ?_) (fun h => absurd rfl h)
                    conv => lhs; whnf)
            refine (hD _).2 ⟨(g, qs, B1), ⟨rfl, hLv9.q⟩, fun v AX hq => ?_⟩
            obtain ⟨hX, hv⟩ : AX = A9 ∧ v = .int .i64 ((qs : List AskD).length : Nat) := hq
            subst hX; subst hv
            conv => lhs; whnf
            repeat (first | refine go_D hD rfl ?_ | refine split_nd (fun _ => ?_) (fun h => absurd rfl h)
                    conv => lhs; whnf)
            refine (hD _).2 ⟨(⟨qs, B2, Ok, r⟩ : RqG), ⟨rfl, hLv9.rq⟩, fun v AY hq => ?_⟩
            obtain ⟨hY, hv⟩ : AY = AX ∧ v = .int .i64 ((qs : List AskD).length : Nat) := hq
            subst hY; subst hv
            conv => lhs; whnf
            repeat (first | refine go_D hD rfl ?_ | refine split_nd (fun _ => ?_) (fun h => absurd rfl h)
                    conv => lhs; whnf)
            exact (hD _).2 ⟨(⟨k + 1, qs, B1, B2, Ok, AY⟩ : LvG), ⟨⟨hkn, hLv9⟩, ⟨inc_slot (k := k) (by omega), trivial⟩, trivial, rfl⟩, by show n - (k + 1) < n - k; omega, ⟨same1 rfl rfl, same1 rfl rfl, same1 rfl rfl, trivial⟩, trivial⟩
          · omega
        · subst hv
          have hLv6 := hLv5.qstep s6 hQ6 hB1'
          have hGu6 := hGu.qstep s6 hB1'
          have hR6 := AskR.sub hLv6.sub _ _ hR1
          conv => lhs; whnf
          repeat (first | refine go_D hD rfl ?_ | refine split_nd (fun _ => ?_) (fun h => absurd rfl h)
                  conv => lhs; whnf)
          refine (hD _).2 ⟨((⟨qs, B2, Ok, r⟩ : RqG), d, Arena.void), ⟨_, rfl, hLv6.rq, hR6, h8⟩, fun v A7 hq => ?_⟩
          have hq : (qs.length = 8 ∧ v = .int .i64 360 ∧ A7 = A6) ∨ (qs.length < 8 ∧ v = .int .i64 0 ∧ ∃ B' O', RqAt A7 B' O' r (qs ++ [d]) ∧ Step A6 B2 Ok A7 B' O') := hq
          obtain ⟨h7, _⟩ | ⟨_, hv, B2', O', hrq7, hst7⟩ := hq
          · omega
          subst hv
          have hLv7 := hLv6.rstep hrq7 hst7
          have hGu7 := hGu6.rstep hst7
          have hR7 := AskR.sub hLv7.sub _ _ hR1
          conv => lhs; whnf
          repeat (first | refine go_D hD rfl ?_ | refine split_nd (fun _ => ?_) (fun h => absurd rfl h)
                  conv => lhs; whnf)
          refine (hD _).2 ⟨(d, L), ⟨_, _, rfl, hGu7.lent, hR7⟩, fun v A8 hq => ?_⟩
          obtain ⟨h8', hv⟩ : A8 = A7 ∧ v = .bool true := hq
          subst h8'; subst hv
          conv => lhs; whnf
          repeat (first | refine go_D hD rfl ?_ | refine split_nd (fun _ => ?_) (fun h => absurd rfl h)
                  conv => lhs; whnf)
          refine (hD _).2 ⟨(d, L), ⟨_, rfl, hGu7.lent⟩, fun v A9 hq => ?_⟩
          have hLv9 := hLv7.over hGu7 hq
          conv => lhs; whnf
          repeat (first | refine go_D hD rfl ?_ | refine split_nd (fun _ => ?_) (fun h => absurd rfl h)
                  conv => lhs; whnf)
          refine (hD _).2 ⟨(g, (qs ++ [d]), B1'), ⟨rfl, hLv9.q⟩, fun v AX hq => ?_⟩
          obtain ⟨hX, hv⟩ : AX = A9 ∧ v = .int .i64 (((qs ++ [d]) : List AskD).length : Nat) := hq
          subst hX; subst hv
          conv => lhs; whnf
          repeat (first | refine go_D hD rfl ?_ | refine split_nd (fun _ => ?_) (fun h => absurd rfl h)
                  conv => lhs; whnf)
          refine (hD _).2 ⟨(⟨(qs ++ [d]), B2', O', r⟩ : RqG), ⟨rfl, hLv9.rq⟩, fun v AY hq => ?_⟩
          obtain ⟨hY, hv⟩ : AY = AX ∧ v = .int .i64 (((qs ++ [d]) : List AskD).length : Nat) := hq
          subst hY; subst hv
          conv => lhs; whnf
          repeat (first | refine go_D hD rfl ?_ | refine split_nd (fun _ => ?_) (fun h => absurd rfl h)
                  conv => lhs; whnf)
          exact (hD _).2 ⟨(⟨k + 1, (qs ++ [d]), B1', B2', O', AY⟩ : LvG), ⟨⟨hkn, hLv9⟩, ⟨inc_slot (k := k) (by omega), trivial⟩, trivial, rfl⟩, by show n - (k + 1) < n - k; omega, ⟨same1 rfl rfl, same1 rfl rfl, same1 rfl rfl, trivial⟩, trivial⟩
    · conv => lhs; whnf
      repeat (refine go_D hD rfl ?_
              conv => lhs; whnf)
      refine (hD _).2 ⟨(g, qs, B1), ⟨rfl, hLv.q⟩, fun v A5 hq => ?_⟩
      obtain ⟨s5, hq⟩ : outPost B1 g qs (fun d => readsD d.kind) A4 v A5 := hq
      rcases hq with ⟨cs0, hv, hz0, hQ5, hno⟩ | ⟨d0, qs', cs0, hqs, hd0, hv, hQ5, hR0⟩
      · subst hv; subst hz0
        have hLv5 := hLv.qstep s5 hQ5 (fun _ _ _ h => h)
        conv => lhs; whnf
        repeat (first | refine go_D hD rfl ?_ | refine split_nd (fun _ => ?_) (fun h => absurd rfl h)
                conv => lhs; whnf)
        refine (hD _).2 ⟨(⟨qs, B2, Ok, r⟩ : RqG), ⟨rfl, hLv5.rq, h8⟩, fun v A6 hq => ?_⟩
        have hq : (v = .tuple #[askV zeroC, .bool false] ∧ A6 = A5 ∧ ∀ d ds', qs = d :: ds' → readsD d.kind = false) ∨ ∃ d ds' cs, qs = d :: ds' ∧ readsD d.kind = true ∧ v = .tuple #[askV cs, .bool true] ∧ AskR B2 d cs ∧ ∃ O', RqAt A6 B2 O' r ds' ∧ Step A5 B2 Ok A6 B2 O' := hq
        obtain ⟨hv, h6, _⟩ | ⟨d2, ds2, cs2, e2, hd2, _⟩ := hq
        · subst hv; subst h6
          conv => lhs; whnf
          repeat (first | refine go_D hD rfl ?_ | refine split_nd (fun _ => ?_) (fun h => absurd rfl h)
                  conv => lhs; whnf)
          refine (hD _).2 ⟨(zeroD, zeroD), ⟨_, _, rfl, zeroD_ok _, zeroD_ok _⟩, fun v A7 hq => ?_⟩
          obtain ⟨h7, hv⟩ : A7 = A6 ∧ v = .bool (decide (zeroD = zeroD)) := hq
          rw [decide_eq_true rfl] at hv
          subst h7; subst hv
          conv => lhs; whnf
          repeat (first | refine go_D hD rfl ?_ | refine split_nd (fun _ => ?_) (fun h => absurd rfl h)
                  conv => lhs; whnf)
          refine (hD _).2 ⟨(g, qs, B1), ⟨rfl, hLv5.q⟩, fun v AX hq => ?_⟩
          obtain ⟨hX, hv⟩ : AX = A7 ∧ v = .int .i64 ((qs : List AskD).length : Nat) := hq
          subst hX; subst hv
          conv => lhs; whnf
          repeat (first | refine go_D hD rfl ?_ | refine split_nd (fun _ => ?_) (fun h => absurd rfl h)
                  conv => lhs; whnf)
          refine (hD _).2 ⟨(⟨qs, B2, Ok, r⟩ : RqG), ⟨rfl, hLv5.rq⟩, fun v AY hq => ?_⟩
          obtain ⟨hY, hv⟩ : AY = AX ∧ v = .int .i64 ((qs : List AskD).length : Nat) := hq
          subst hY; subst hv
          conv => lhs; whnf
          repeat (first | refine go_D hD rfl ?_ | refine split_nd (fun _ => ?_) (fun h => absurd rfl h)
                  conv => lhs; whnf)
          exact (hD _).2 ⟨(⟨k + 1, qs, B1, B2, Ok, AY⟩ : LvG), ⟨⟨hkn, hLv5⟩, ⟨inc_slot (k := k) (by omega), trivial⟩, trivial, rfl⟩, by show n - (k + 1) < n - k; omega, ⟨same1 rfl rfl, same1 rfl rfl, same1 rfl rfl, trivial⟩, trivial⟩
        · have hd1 := hno d2 ds2 e2
          dsimp only at hd1
          rw [hd1] at hd2; cases hd2
      · subst hv; subst hqs
        have hLv5 := hLv.qstep s5 hQ5 (fun _ _ _ h => h)
        have hR00 := hR0
        obtain ⟨y0, y1, y2, y3, y4, y5, z5, m5, y6, y7, y8, y9, y10, y11, y12, y13, z13, m13, y14, z14, m14, hcs0⟩ := hR0.form
        subst hcs0
        conv => lhs; whnf
        repeat (first | refine go_D hD rfl ?_ | refine split_nd (fun _ => ?_) (fun h => absurd rfl h)
                conv => lhs; whnf)
        refine (hD _).2 ⟨(⟨(d0 :: qs'), B2, Ok, r⟩ : RqG), ⟨rfl, hLv5.rq, h8⟩, fun v A6 hq => ?_⟩
        have hq : (v = .tuple #[askV zeroC, .bool false] ∧ A6 = A5 ∧ ∀ d ds', (d0 :: qs') = d :: ds' → readsD d.kind = false) ∨ ∃ d ds' cs, (d0 :: qs') = d :: ds' ∧ readsD d.kind = true ∧ v = .tuple #[askV cs, .bool true] ∧ AskR B2 d cs ∧ ∃ O', RqAt A6 B2 O' r ds' ∧ Step A5 B2 Ok A6 B2 O' := hq
        obtain ⟨_, _, hno⟩ | ⟨d2, ds2, cs2, e2, hd2, hv, hR2, O', hrq6, hst6⟩ := hq
        · have hd1 := hno d0 qs' rfl
          dsimp only at hd0
          rw [hd0] at hd1; cases hd1
        injection e2 with e3 e4
        subst e3; subst e4; subst hv
        have hLv6 := hLv5.rstep hrq6 hst6
        have hR20 := hR2
        obtain ⟨t0, t1, t2, t3, t4, t5, w5, l5, t6, t7, t8, t9, t10, t11, t12, t13, w13, l13, t14, w14, l14, hcs2⟩ := hR2.form
        subst hcs2
        conv => lhs; whnf
        repeat (first | refine go_D hD rfl ?_ | refine split_nd (fun _ => ?_) (fun h => absurd rfl h)
                conv => lhs; whnf)
        refine (hD _).2 ⟨(d0, d0), ⟨_, _, rfl, AskR.sub (qr_sub hLv6.q) _ _ hR00, AskR.sub (rq_sub hLv6.rq) _ _ hR20⟩, fun v A7 hq => ?_⟩
        obtain ⟨h7, hv⟩ : A7 = A6 ∧ v = .bool (decide (d0 = d0)) := hq
        rw [decide_eq_true rfl] at hv
        subst h7; subst hv
        conv => lhs; whnf
        repeat (first | refine go_D hD rfl ?_ | refine split_nd (fun _ => ?_) (fun h => absurd rfl h)
                conv => lhs; whnf)
        refine (hD _).2 ⟨(g, qs', B1), ⟨rfl, hLv6.q⟩, fun v AX hq => ?_⟩
        obtain ⟨hX, hv⟩ : AX = A7 ∧ v = .int .i64 ((qs' : List AskD).length : Nat) := hq
        subst hX; subst hv
        conv => lhs; whnf
        repeat (first | refine go_D hD rfl ?_ | refine split_nd (fun _ => ?_) (fun h => absurd rfl h)
                conv => lhs; whnf)
        refine (hD _).2 ⟨(⟨qs', B2, O', r⟩ : RqG), ⟨rfl, hLv6.rq⟩, fun v AY hq => ?_⟩
        obtain ⟨hY, hv⟩ : AY = AX ∧ v = .int .i64 ((qs' : List AskD).length : Nat) := hq
        subst hY; subst hv
        conv => lhs; whnf
        repeat (first | refine go_D hD rfl ?_ | refine split_nd (fun _ => ?_) (fun h => absurd rfl h)
                conv => lhs; whnf)
        exact (hD _).2 ⟨(⟨k + 1, qs', B1, B2, O', AY⟩ : LvG), ⟨⟨hkn, hLv6⟩, ⟨inc_slot (k := k) (by omega), trivial⟩, trivial, rfl⟩, by show n - (k + 1) < n - k; omega, ⟨same1 rfl rfl, same1 rfl rfl, same1 rfl rfl, trivial⟩, trivial⟩
    · conv => lhs; whnf
      repeat (refine go_D hD rfl ?_
              conv => lhs; whnf)
      refine (hD _).2 ⟨((g, qs, B1), tn, xn), ⟨rfl, hLv.q⟩, fun v A5 hq => ?_⟩
      obtain ⟨s5, hq⟩ : outPost B1 g qs (fun d => (!readsD d.kind && decide (d.turn = tn) && decide (d.xid = xn))) A4 v A5 := hq
      rcases hq with ⟨cs0, hv, hz0, hQ5, hno⟩ | ⟨d0, qs', cs0, hqs, hd0, hv, hQ5, hR0⟩
      · subst hv; subst hz0
        have hLv5 := hLv.qstep s5 hQ5 (fun _ _ _ h => h)
        conv => lhs; whnf
        repeat (first | refine go_D hD rfl ?_ | refine split_nd (fun _ => ?_) (fun h => absurd rfl h)
                conv => lhs; whnf)
        refine (hD _).2 ⟨((⟨qs, B2, Ok, r⟩ : RqG), tn, xn), ⟨rfl, hLv5.rq, h8⟩, fun v A6 hq => ?_⟩
        have hq : (v = .tuple #[askV zeroC, .bool false] ∧ A6 = A5 ∧ ∀ d ds', qs = d :: ds' → (!readsD d.kind && decide (d.turn = tn) && decide (d.xid = xn)) = false) ∨ ∃ d ds' cs, qs = d :: ds' ∧ (!readsD d.kind && decide (d.turn = tn) && decide (d.xid = xn)) = true ∧ v = .tuple #[askV cs, .bool true] ∧ AskR B2 d cs ∧ ∃ O', RqAt A6 B2 O' r ds' ∧ Step A5 B2 Ok A6 B2 O' := hq
        obtain ⟨hv, h6, _⟩ | ⟨d2, ds2, cs2, e2, hd2, _⟩ := hq
        · subst hv; subst h6
          conv => lhs; whnf
          repeat (first | refine go_D hD rfl ?_ | refine split_nd (fun _ => ?_) (fun h => absurd rfl h)
                  conv => lhs; whnf)
          refine (hD _).2 ⟨(zeroD, zeroD), ⟨_, _, rfl, zeroD_ok _, zeroD_ok _⟩, fun v A7 hq => ?_⟩
          obtain ⟨h7, hv⟩ : A7 = A6 ∧ v = .bool (decide (zeroD = zeroD)) := hq
          rw [decide_eq_true rfl] at hv
          subst h7; subst hv
          conv => lhs; whnf
          repeat (first | refine go_D hD rfl ?_ | refine split_nd (fun _ => ?_) (fun h => absurd rfl h)
                  conv => lhs; whnf)
          refine (hD _).2 ⟨(g, qs, B1), ⟨rfl, hLv5.q⟩, fun v AX hq => ?_⟩
          obtain ⟨hX, hv⟩ : AX = A7 ∧ v = .int .i64 ((qs : List AskD).length : Nat) := hq
          subst hX; subst hv
          conv => lhs; whnf
          repeat (first | refine go_D hD rfl ?_ | refine split_nd (fun _ => ?_) (fun h => absurd rfl h)
                  conv => lhs; whnf)
          refine (hD _).2 ⟨(⟨qs, B2, Ok, r⟩ : RqG), ⟨rfl, hLv5.rq⟩, fun v AY hq => ?_⟩
          obtain ⟨hY, hv⟩ : AY = AX ∧ v = .int .i64 ((qs : List AskD).length : Nat) := hq
          subst hY; subst hv
          conv => lhs; whnf
          repeat (first | refine go_D hD rfl ?_ | refine split_nd (fun _ => ?_) (fun h => absurd rfl h)
                  conv => lhs; whnf)
          exact (hD _).2 ⟨(⟨k + 1, qs, B1, B2, Ok, AY⟩ : LvG), ⟨⟨hkn, hLv5⟩, ⟨inc_slot (k := k) (by omega), trivial⟩, trivial, rfl⟩, by show n - (k + 1) < n - k; omega, ⟨same1 rfl rfl, same1 rfl rfl, same1 rfl rfl, trivial⟩, trivial⟩
        · have hd1 := hno d2 ds2 e2
          dsimp only at hd1
          rw [hd1] at hd2; cases hd2
      · subst hv; subst hqs
        have hLv5 := hLv.qstep s5 hQ5 (fun _ _ _ h => h)
        have hR00 := hR0
        obtain ⟨y0, y1, y2, y3, y4, y5, z5, m5, y6, y7, y8, y9, y10, y11, y12, y13, z13, m13, y14, z14, m14, hcs0⟩ := hR0.form
        subst hcs0
        conv => lhs; whnf
        repeat (first | refine go_D hD rfl ?_ | refine split_nd (fun _ => ?_) (fun h => absurd rfl h)
                conv => lhs; whnf)
        refine (hD _).2 ⟨((⟨(d0 :: qs'), B2, Ok, r⟩ : RqG), tn, xn), ⟨rfl, hLv5.rq, h8⟩, fun v A6 hq => ?_⟩
        have hq : (v = .tuple #[askV zeroC, .bool false] ∧ A6 = A5 ∧ ∀ d ds', (d0 :: qs') = d :: ds' → (!readsD d.kind && decide (d.turn = tn) && decide (d.xid = xn)) = false) ∨ ∃ d ds' cs, (d0 :: qs') = d :: ds' ∧ (!readsD d.kind && decide (d.turn = tn) && decide (d.xid = xn)) = true ∧ v = .tuple #[askV cs, .bool true] ∧ AskR B2 d cs ∧ ∃ O', RqAt A6 B2 O' r ds' ∧ Step A5 B2 Ok A6 B2 O' := hq
        obtain ⟨_, _, hno⟩ | ⟨d2, ds2, cs2, e2, hd2, hv, hR2, O', hrq6, hst6⟩ := hq
        · have hd1 := hno d0 qs' rfl
          dsimp only at hd0
          rw [hd0] at hd1; cases hd1
        injection e2 with e3 e4
        subst e3; subst e4; subst hv
        have hLv6 := hLv5.rstep hrq6 hst6
        have hR20 := hR2
        obtain ⟨t0, t1, t2, t3, t4, t5, w5, l5, t6, t7, t8, t9, t10, t11, t12, t13, w13, l13, t14, w14, l14, hcs2⟩ := hR2.form
        subst hcs2
        conv => lhs; whnf
        repeat (first | refine go_D hD rfl ?_ | refine split_nd (fun _ => ?_) (fun h => absurd rfl h)
                conv => lhs; whnf)
        refine (hD _).2 ⟨(d0, d0), ⟨_, _, rfl, AskR.sub (qr_sub hLv6.q) _ _ hR00, AskR.sub (rq_sub hLv6.rq) _ _ hR20⟩, fun v A7 hq => ?_⟩
        obtain ⟨h7, hv⟩ : A7 = A6 ∧ v = .bool (decide (d0 = d0)) := hq
        rw [decide_eq_true rfl] at hv
        subst h7; subst hv
        conv => lhs; whnf
        repeat (first | refine go_D hD rfl ?_ | refine split_nd (fun _ => ?_) (fun h => absurd rfl h)
                conv => lhs; whnf)
        refine (hD _).2 ⟨(g, qs', B1), ⟨rfl, hLv6.q⟩, fun v AX hq => ?_⟩
        obtain ⟨hX, hv⟩ : AX = A7 ∧ v = .int .i64 ((qs' : List AskD).length : Nat) := hq
        subst hX; subst hv
        conv => lhs; whnf
        repeat (first | refine go_D hD rfl ?_ | refine split_nd (fun _ => ?_) (fun h => absurd rfl h)
                conv => lhs; whnf)
        refine (hD _).2 ⟨(⟨qs', B2, O', r⟩ : RqG), ⟨rfl, hLv6.rq⟩, fun v AY hq => ?_⟩
        obtain ⟨hY, hv⟩ : AY = AX ∧ v = .int .i64 ((qs' : List AskD).length : Nat) := hq
        subst hY; subst hv
        conv => lhs; whnf
        repeat (first | refine go_D hD rfl ?_ | refine split_nd (fun _ => ?_) (fun h => absurd rfl h)
                conv => lhs; whnf)
        exact (hD _).2 ⟨(⟨k + 1, qs', B1, B2, O', AY⟩ : LvG), ⟨⟨hkn, hLv6⟩, ⟨inc_slot (k := k) (by omega), trivial⟩, trivial, rfl⟩, by show n - (k + 1) < n - k; omega, ⟨same1 rfl rfl, same1 rfl rfl, same1 rfl rfl, trivial⟩, trivial⟩
    · conv => lhs; whnf
      repeat (first | refine no_dec hx0 ?_ | refine no_dec hx1 ?_ | refine no_dec hx2 ?_ | refine no_dec hx3 ?_
              conv => lhs; whnf)
      conv => lhs; whnf
      repeat (first | refine go_D hD rfl ?_ | refine split_nd (fun _ => ?_) (fun h => absurd rfl h)
              conv => lhs; whnf)
      refine (hD _).2 ⟨(g, qs, B1), ⟨rfl, hLv.q⟩, fun v AX hq => ?_⟩
      obtain ⟨hX, hv⟩ : AX = A4 ∧ v = .int .i64 ((qs : List AskD).length : Nat) := hq
      subst hX; subst hv
      conv => lhs; whnf
      repeat (first | refine go_D hD rfl ?_ | refine split_nd (fun _ => ?_) (fun h => absurd rfl h)
              conv => lhs; whnf)
      refine (hD _).2 ⟨(⟨qs, B2, Ok, r⟩ : RqG), ⟨rfl, hLv.rq⟩, fun v AY hq => ?_⟩
      obtain ⟨hY, hv⟩ : AY = AX ∧ v = .int .i64 ((qs : List AskD).length : Nat) := hq
      subst hY; subst hv
      conv => lhs; whnf
      repeat (first | refine go_D hD rfl ?_ | refine split_nd (fun _ => ?_) (fun h => absurd rfl h)
              conv => lhs; whnf)
      exact (hD _).2 ⟨(⟨k + 1, qs, B1, B2, Ok, AY⟩ : LvG), ⟨⟨hkn, hLv⟩, ⟨inc_slot (k := k) (by omega), trivial⟩, trivial, rfl⟩, by show n - (k + 1) < n - k; omega, ⟨same1 rfl rfl, same1 rfl rfl, same1 rfl rfl, trivial⟩, trivial⟩

end
end Go.Proofs.Ytpingnkjenicaaa
