/-
  ImageBack: the law.
-/
import Derived.Test.YtiabopbigplklaaDoorG13
import Derived.Test.YtiabopbigplklaaDoorG15
import Derived.Test.YtiabopbigplklaaDoorG16
namespace Go.Proofs.YtiabopbigplklaaDoor
open Go.Sx Go.RowKit
noncomputable section
open Classical

structure BkG where
  g : ImgG
  b : List UInt8
  at_ : Int
  more : List UInt8

def backS : FSpec := ⟨BkG, fun g vs A => ∃ v x y, vs = [v, x, .int .i64 g.at_, y] ∧ ImgV g.g v A ∧ SlB A x g.b ∧ SlB A y g.more, fun _ _ A v A' => A.Sub A' ∧ v = .bool true⟩

theorem backC : CTSound Tryd.prog (lookC [specE 4 awakeS, specE 15 putS, specE 16 getS, specE 18 sameNodesS, specE 19 sameSitsS, specE 33 sameMembersS, specE 12 sameBytesS, specE 10 copyBytesS, specE 8 copyNodesRS, specE 9 pickS] noC) := lookC_sound (noC_sound _) (fun x hx => by
  simp only [List.mem_cons, List.not_mem_nil, or_false] at hx
  rcases hx with rfl | rfl | rfl | rfl | rfl | rfl | rfl | rfl | rfl | rfl
  · exact specE_ok awake_ok
  · exact specE_ok put_ok
  · exact specE_ok get_ok
  · exact specE_ok sameNodes_ok
  · exact specE_ok sameSits_ok
  · exact specE_ok sameMembers_ok
  · exact specE_ok sameBytes_ok
  · exact specE_ok copyBytes_ok
  · exact specE_ok copyNodesR_ok
  · exact specE_ok pick_ok)

def normW (x : ToldD × Value) : ToldD × Value := (normN x.1, x.2)

def wantL (ws : List (ToldD × Value)) (k : Nat) : List (ToldD × Value) := (ws.take k).map normW ++ ws.drop k

theorem wantL_len (ws : List (ToldD × Value)) {k : Nat} (hk : k ≤ ws.length) : (wantL ws k).length = ws.length := by
  unfold wantL
  rw [List.length_append, List.length_map, List.length_take, List.length_drop]
  omega

theorem wantL_at (ws : List (ToldD × Value)) {k : Nat} (hk : k < ws.length) : (wantL ws k)[k]'(by rw [wantL_len ws (by omega)]; exact hk) = ws[k] := by
  unfold wantL
  have e : ((ws.take k).map normW).length = k := by rw [List.length_map, List.length_take]; omega
  rw [List.getElem_append_right (by omega)]
  simp only [e, Nat.sub_self, List.getElem_drop, Nat.add_zero]

theorem wantL_next (ws : List (ToldD × Value)) {k : Nat} (hk : k < ws.length) : (wantL ws k).set k (normW ws[k]) = wantL ws (k + 1) := by
  unfold wantL
  have e : ((ws.take k).map normW).length = k := by rw [List.length_map, List.length_take]; omega
  rw [List.set_append_right _ _ (by omega), e, Nat.sub_self, List.drop_eq_getElem_cons hk, List.set_cons_zero, List.take_succ_eq_append_getElem hk, List.map_append, List.append_assoc]
  rfl

theorem wantL_end (ws : List (ToldD × Value)) : wantL ws ws.length = ws.map normW := by
  unfold wantL
  rw [List.take_length, List.drop_length, List.append_nil]

theorem flip_u8 (b : UInt8) (p : Nat) : ∃ y : UInt8, b ≠ y ∧ bitsOf .xor .u8 (b.toNat : Int) (IntKind.u8.wrap (1 * 2 ^ min (IntKind.u64.wrap ((p : Int).tmod 8)).toNat IntKind.u8.bits)) = ((y.toNat : Nat) : Int) := by
  have key : ∀ (x : Fin 256) (r : Fin 8), bitsOf .xor .u8 ((x.val : Nat) : Int) (IntKind.u8.wrap (1 * 2 ^ min r.val 8)) = (((UInt8.ofNat x.val ^^^ UInt8.ofNat (2 ^ r.val)).toNat : Nat) : Int) ∧ UInt8.ofNat x.val ≠ UInt8.ofNat x.val ^^^ UInt8.ofNat (2 ^ r.val) := by decide +kernel
  have e : (IntKind.u64.wrap ((p : Int).tmod 8)).toNat = p % 8 := by
    rw [Int.tmod_eq_emod_of_nonneg (by omega), u64_wrap (by omega) (by omega)]; omega
  have hb : UInt8.ofNat b.toNat = b := UInt8.toNat_inj.1 (UInt8.toNat_ofNat_of_lt' b.toNat_lt)
  have k := key ⟨b.toNat, b.toNat_lt⟩ ⟨p % 8, by omega⟩
  rw [e]
  rw [hb] at k
  exact ⟨_, k.2, k.1⟩

theorem bvs_flat (l : List UInt8) : l.map bv = l.flatMap fun b => [bv b] := by
  induction l with
  | nil => rfl
  | cons b l ih => rw [List.map_cons, List.flatMap_cons, ih]; rfl

theorem slb_take {A : Arena} {g c q off : Nat} {B : List UInt8} {x : Int} (hr : A.rd g 0 (B.length * 1) = some (B.map bv)) (hq : q ≤ B.length) (hc : B.length ≤ c) (hB : B.length ≤ 140737488351232) (hx : x = (q : Int)) (ho : off = 0) : SlB A (.slice (some ⟨g, off, none⟩) (x.toNat - (0 : Int).toNat) (c - (0 : Int).toNat)) (B.take q) := by
  subst hx
  subst ho
  have e : ((q : Int).toNat - (0 : Int).toNat) = (B.take q).length := by
    rw [Int.toNat_natCast, List.length_take, Nat.min_eq_left hq]; rfl
  have hl : (B.take q).length = q := by rw [List.length_take, Nat.min_eq_left hq]
  rw [e]
  refine ⟨Sl.row (by rw [hl]; show q ≤ c - 0; omega) ?_, by omega⟩
  rw [hl, List.map_take]
  have h := rd_at hr (i := 0) (m := q * 1) (by omega)
  rw [Nat.add_zero, List.drop_zero, Nat.mul_one] at h
  rw [Nat.mul_one]
  exact h

theorem off_zero (c n : Nat) : (0 + bif c.beq (0 : Int).toNat then 0 else (0 : Int).toNat * n) = 0 := by
  cases c with
  | zero => rfl
  | succ c =>
    show 0 + 0 * n = 0
    omega

theorem no_b {t A B : Bool} (h : t = false) (h1 : B = true) : (bif t then A else B) = true := by rw [h]; exact h1

/-- Bytes behind a row of bytes of its own. -/
theorem app_more {A9 A10 A' : Arena} {L : LsD} {B more : List UInt8} {gm cm : Nat} {v : Value} (hL : LsN A9 A10 L (B.map bv)) (hs : A9.Sub A10) (hg : L.g = some gm) (hv : L.v = .slice (some ⟨gm, 0, none⟩) B.length cm) (hn : L.n = B.length) (hc : L.c = cm) (ha : Appended A10 (some (gm, 0)) B.length cm 1 5 (B.map bv) (more.map bv) more.length v A') :
    A9.Sub A' ∧ ∃ L' : LsD, v = L'.v ∧ LsN A9 A' L' ((B ++ more).map bv) := by
  by_cases hm : more = []
  · subst hm
    rw [List.append_nil]
    have hlc : B.length ≤ cm := by
      rcases hL.1 with ⟨h1, _⟩ | ⟨g, h1, h2, h3, h4⟩
      · rw [hg] at h1; cases h1
      · have := h4.le
        omega
    have key : v = L.v ∧ ∀ k, A'.blk k = A10.blk k := by
      rcases ha with ⟨_, rfl, ⟨_, rfl⟩ | ⟨g, o, h, hP⟩⟩ | ⟨h, _⟩
      · exact ⟨hv.symm, fun _ => rfl⟩
      · refine ⟨hv.symm, fun k => ?_⟩
        by_cases e : k = g
        · subst e
          obtain ⟨c, t, fz, c', k1, k2, k3⟩ := hP.at_
          have hcc : c' = c := Array.toList_inj.1 (by rw [k3]; simp)
          rw [k1, k2, hcc]
        · exact hP.other k e
      · have h : cm < B.length + 0 := h
        omega
    refine ⟨fun k o hk => by rw [key.2]; exact hs k o hk, L, key.1, hL.1.keep fun g o _ ho => by rw [key.2]; exact ho, hL.2⟩
  · have hmp : 0 < more.length := List.length_pos_iff.2 hm
    obtain ⟨bm, hbm, -, -, hcont⟩ := hL.1.app
    have e : bm = some (gm, 0) := by
      rw [hv] at hbm
      injection hbm with h1 _ _
      exact (addrA_inj (b := some (gm, 0)) h1).symm
    subst e
    rw [hn, hc] at hcont
    obtain ⟨L', q1, q2, q3, q4, q5, -⟩ := hcont more.length (more.map bv) v A' (by simp) hmp ha
    refine ⟨fun k o hk => q5 k o (hs k o hk) fun e => (by rw [hL.2 k e] at hk; cases hk), L', q1.symm, ?_, fun g h => ?_⟩
    · rw [List.map_append]
      exact q3
    · rcases q4 g h with h | h
      · exact hL.2 g h
      · exact none_of hs h

def bkInv (A2 : Arena) (L : LsD) (ws : List (ToldD × Value)) (sl : List (Nat × SV)) : LInv :=
  { γ := Nat × Arena, G := fun s => s.1 ≤ ws.length ∧ A2.Sub s.2 ∧ NodeRow A2 s.2 L (wantL ws s.1),
    keepS := [], keepB := [0, 5, 6], sl := fun s => (14, .v (.int .i64 s.1)) :: sl, bl := fun _ => [], ar := fun s => s.2, mu := fun s => ws.length - s.1 }

set_option maxRecDepth 100000 in
set_option maxHeartbeats 0 in
theorem back_ok : FOk Tryd.prog 3 backS := by
  refine fok_v mixed fun (g : BkG) vs A hp => ?_
  obtain ⟨⟨l, ss, ver, ms, f, t⟩, b, at0, more⟩ := g
  obtain ⟨v, xb, xm, rfl, ⟨x, y, vm, rfl, hN, hS, hM, hsh, hin⟩, hB, hMo⟩ : ∃ v x y, vs = [v, x, .int .i64 at0, y] ∧ (∃ x y vm, v = .agg #[x, y, .int .i64 ver, vm, .int .i64 f, .int .i64 t] ∧ NodesR A x l ∧ SlS A y ss ∧ MemR A vm ms ∧ ShortL l ∧ ImgIn ⟨l, ss, ver, ms, f, t⟩) ∧ SlB A x b ∧ SlB A y more := hp
  obtain ⟨ax, cx, rfl⟩ := hN.1.form
  obtain ⟨ay, cy, rfl⟩ := hS.1.form
  obtain ⟨am, cm, rfl⟩ := hM.1.form
  obtain ⟨ab, cb, rfl⟩ := hB.1.form
  obtain ⟨ao, co, rfl⟩ := hMo.1.form
  have hbl := hB.2
  have hml := hMo.2
  refine ⟨_, tabO Tryd.prog _ noL 60 [(3, 0)], 60, backC, tabO_sound mixed backC (noL_sound _) _ _, fun blk os out tape D hD => ?_⟩
  conv => lhs; whnf
  repeat (first | refine go_D hD rfl ?_
          conv => lhs; whnf)
  refine (hD _).2 ⟨(), rfl, fun v A' hq => ?_⟩
  have hq : A' = A ∧ v = .bool true := hq
  have h9 := hq.1.symm
  have hv := hq.2
  subst h9
  subst hv
  have hend0 : backS.post ⟨⟨l, ss, ver, ms, f, t⟩, b, at0, more⟩ [] A (.bool true) A := ⟨Arena.Sub.refl _, rfl⟩
  conv => lhs; whnf
  repeat (first | refine go_D hD rfl ?_
          conv => lhs; whnf)
  refine split_dec (fun g1 => ?_) (fun g1 => ?_)
  · conv => lhs; whnf
    repeat (first | refine go_D hD rfl ?_
            conv => lhs; whnf)
    exact (hD _).2 hend0
  conv => lhs; whnf
  refine split_dec (fun g2 => ?_) (fun g2 => ?_)
  · conv => lhs; whnf
    repeat (first | refine go_D hD rfl ?_
            conv => lhs; whnf)
    exact (hD _).2 hend0
  conv => lhs; whnf
  refine split_dec (fun g3 => ?_) (fun g3 => ?_)
  · conv => lhs; whnf
    repeat (first | refine go_D hD rfl ?_
            conv => lhs; whnf)
    exact (hD _).2 hend0
  conv => lhs; whnf
  repeat (first | refine go_D hD rfl ?_
          conv => lhs; whnf)
  refine split_dec (fun g4 => ?_) (fun g4 => ?_)
  · conv => lhs; whnf
    repeat (first | refine go_D hD rfl ?_
            conv => lhs; whnf)
    exact (hD _).2 hend0
  conv => lhs; whnf
  repeat (first | refine go_D hD rfl ?_
          conv => lhs; whnf)
  refine split_dec (fun g5 => ?_) (fun g5 => ?_)
  · conv => lhs; whnf
    repeat (first | refine go_D hD rfl ?_
            conv => lhs; whnf)
    exact (hD _).2 hend0
  have hl7 : l.length ≤ 700 := by
    have g1 : ¬ (700 : Int) < (l.length : Int) := g1
    omega
  have hb6 : b.length ≤ 60000 := by
    have g4 : ¬ (60000 : Int) < (b.length : Int) := g4
    omega
  have hm1 : more.length ≤ 1000 := by
    have g5 : ¬ (1000 : Int) < (more.length : Int) := g5
    omega
  have hb9 : b.length ≤ 900000000 := by omega
  clear g1 g2 g3 g4 g5
  have hA : ImgA ⟨l, ss, ver, ms, f, t⟩ [.slice ax l.length cx, .slice ay ss.length cy, .agg #[.int .i64 ver, .slice am ms.length cm], .int .i64 f, .int .i64 t] A := ⟨_, _, _, rfl, hN, hS, hM, by show l.length ≤ 1000000; omega, hsh⟩
  conv => lhs; whnf
  repeat (first | refine go_D hD rfl ?_
          conv => lhs; whnf)
  refine (hD _).2 ⟨(⟨l, ss, ver, ms, f, t⟩ : ImgG), ⟨hA, hin⟩, fun v A1 hq => ?_⟩
  obtain ⟨s1, hno1, hok1⟩ : PutR ⟨l, ss, ver, ms, f, t⟩ A v A1 := hq
  clear hA
  by_cases hok : (ImgG.mk l ss ver ms f t).ok
  · have h1 := hok1 hok
    obtain ⟨hlen, L1, hv, hL1⟩ := h1
    have hlen : (loadB (l.map (·.1)) ss ver ms f t).length ≤ 1048576 := hlen
    have hok : RightI (l.map (·.1)) ss ver ms f t := hok
    have hget := getI_put hok (fun x hx => by
      obtain ⟨z, hz, rfl⟩ := List.mem_map.1 hx
      exact hin.1 z hz) hin.2.1 hin.2.2.1 hin.2.2.2 hlen
    have hcut := fun j => getI_cut (j := j) hlen
    have hmore := fun r => getI_more (r := r) hlen
    have hturn : ∀ (a c : List UInt8) (x y : UInt8), frameL (loadB (l.map (·.1)) ss ver ms f t) = a ++ x :: c → x ≠ y → getI (a ++ y :: c) = none := fun a c x y h1 h2 => getI_turn h1 h2
    have hBl : (frameL (loadB (l.map (·.1)) ss ver ms f t)).length = 8 + (loadB (l.map (·.1)) ss ver ms f t).length := frameL_len _
    have hL1 : LsN A A1 L1 ((frameL (loadB (l.map (·.1)) ss ver ms f t)).map bv) := hL1
    generalize frameL (loadB (l.map (·.1)) ss ver ms f t) = B at *
    have hB8 : 8 ≤ B.length ∧ B.length ≤ 1048584 := by omega
    clear hBl hlen hno1 hok1
    have hB1 := lsn_slb hL1 (by omega)
    have hLn : L1.n = B.length := by
      have := hL1.1.len
      rw [List.length_map] at this
      omega
    have hcase := hL1.1
    rcases hcase with ⟨_, hn0, _⟩ | ⟨gc, _, hLv1, _, hLr1⟩
    · exfalso
      omega
    have hrdc := hLr1.rd
    have hlec := hLr1.le
    rw [hLv1, hLn] at hv hB1
    rw [hLn] at hrdc hlec
    generalize L1.c = c1 at *
    clear hL1 hLn hLr1 hLv1
    subst hv
    conv => lhs; whnf
    repeat (first | refine go_D hD rfl ?_
            conv => lhs; whnf)
    refine (hD _).2 ⟨B, ⟨_, rfl, hB1, by omega⟩, fun v A2 hq => ?_⟩
    obtain ⟨s2, -, hok2⟩ : GetIR B A1 v A2 := hq
    have h1 := hok2 _ _ _ _ _ _ hget
    obtain ⟨xs, x, y, z, hxs, hv, hN1, hS1, hM1⟩ := h1
    obtain ⟨a1, d1, e1⟩ := hN1.1.form
    obtain ⟨a2, d2, e2⟩ := hS1.1.form
    obtain ⟨a3, d3, e3⟩ := hM1.1.form
    subst e1; subst e2; subst e3
    subst hv
    clear hok2
    conv => lhs; whnf
    repeat (first | refine go_D hD rfl ?_
            conv => lhs; whnf)
    have s12 := s1.trans s2
    refine (hD _).2 ⟨l, ⟨_, rfl, ⟨hN.1.sub s12, fun x hx => (hN.2 x hx).sub s12⟩, by omega⟩, fun v A3 hq => ?_⟩
    obtain ⟨s3, L3, ws, hv, hrow, hws⟩ : A2.Sub A3 ∧ ∃ (L : LsD) (xs : List (ToldD × Value)), v = L.v ∧ NodeRow A2 A3 L xs ∧ xs.map (·.1) = l.map (·.1) := hq
    have hap := hrow.row.app
    obtain ⟨wb, hwb, -⟩ := hap
    have hwl : ws.length = l.length := by
      have := congrArg List.length hws
      rwa [List.length_map, List.length_map] at this
    have hLn : L3.n = ws.length := by
      have := hrow.row.len
      rw [flatN_len (enc := nodeC) (es := 12) (fun _ => rfl)] at this
      omega
    have hLn3 : L3.n = ws.length := hLn
    rw [hwb, hLn] at hv
    subst hv
    conv => lhs; whnf
    repeat (first | refine go_D hD rfl ?_
            conv => lhs; whnf)
    have hG0 : (bkInv A2 L3 ws [(1, .v (.slice ab b.length cb)), (2, .v (.int .i64 at0)), (3, .v (.slice ao more.length co)), (4, .ptr 0 0), (9, .v (.slice (some ⟨gc, 0, none⟩) B.length c1)), (11, .ptr 5 0), (12, .v (.int .i64 0)), (13, .ptr 6 0)]).G (0, A3) := ⟨Nat.zero_le _, s3, hrow⟩
    refine (hD _).2 ⟨bkInv A2 L3 ws [(1, .v (.slice ab b.length cb)), (2, .v (.int .i64 at0)), (3, .v (.slice ao more.length co)), (4, .ptr 0 0), (9, .v (.slice (some ⟨gc, 0, none⟩) B.length c1)), (11, .ptr 5 0), (12, .v (.int .i64 0)), (13, .ptr 6 0)], ⟨((0, A3) : Nat × Arena), hG0, ⟨rfl, rfl, rfl, rfl, rfl, rfl, rfl, rfl, rfl, trivial⟩, trivial, rfl⟩, fun (s : Nat × Arena) hG => ⟨⟨trivial, trivial, trivial, trivial, (Nat.le_of_ble_eq_true rfl : 0 + 1 ≤ _), trivial, (Nat.le_of_ble_eq_true rfl : 5 + 1 ≤ _), trivial, (Nat.le_of_ble_eq_true rfl : 6 + 1 ≤ _), trivial⟩, trivial, ?_⟩⟩
    clear hG0 hrow
    obtain ⟨k, A4⟩ := s
    obtain ⟨hk, s4, hrow⟩ : k ≤ ws.length ∧ A2.Sub A4 ∧ NodeRow A2 A4 L3 (wantL ws k) := hG
    conv => lhs; whnf
    refine split_dec (fun hlt => ?_) (fun hlt => ?_)
    · have hkm : k < ws.length := by
        have hlt : (k : Int) < (ws.length : Int) := hlt
        omega
      have i0 : (0 : Int) ≤ (k : Int) ∧ (k : Int) < (ws.length : Int) := by omega
      have hwl2 := wantL_len ws hk
      have hat := hrow.at_ (by omega)
      obtain ⟨gw, hLg, hLv, hrdw, hroom⟩ := hat
      rw [hwl2] at hrdw hroom
      have hbw : wb = some (gw, 0) := by
        rw [hwb] at hLv
        injection hLv with h1 _ _
        exact addrA_inj (b' := some (gw, 0)) h1
      subst hbw
      have hc := row_at (enc := nodeC) (fun _ => rfl) hrdw k (by omega) hwl2.symm
      rw [wantL_at ws hkm] at hc
      have hnext := wantL_next ws hkm
      have hatk := wantL_at ws hkm
      generalize hx0 : ws[k] = x at *
      obtain ⟨⟨pth, dat, ⟨t1, t2, t3, t4, t5, t6, t7, t8, t9, t10⟩⟩, dv⟩ := x
      have hmem : (⟨pth, dat, ⟨t1, t2, t3, t4, t5, t6, t7, t8, t9, t10⟩⟩, dv) ∈ wantL ws k := hatk ▸ List.getElem_mem _
      have hdk := (hrow.dat _ hmem).1.form
      obtain ⟨ad, cd, hdf⟩ := hdk
      have hdf : dv = .slice ad dat.length cd := hdf
      subst hdf
      have hc : A4.rd gw (0 + k * 12) 12 = some [.string pth, .slice ad dat.length cd, .int .i64 t1, .int .i64 t2, .int .i64 t3, .int .i64 t4, .int .i64 t5, .int .i64 t6, .int .i64 t7, .int .i64 t8, .int .i64 t9, .int .i64 t10] := hc
      have hc1 : A4.rd gw (0 + k * 12 + 1) 1 = some [.slice ad dat.length cd] := rd_at hc (i := 1) (m := 1) (by omega)
      conv => lhs; whnf
      repeat (first | refine go_in i0 ?_ | refine go_rd hc ?_ | refine go_rd hc1 ?_ | refine go_D hD rfl ?_
              conv => lhs; whnf)
      have hk12 : (k + 1) * 12 ≤ ws.length * 12 := Nat.mul_le_mul_right _ hkm
      refine (hD _).2 ⟨hroom _ _ (by show 0 + k * 12 + 10 + 1 ≤ _; omega), fun C1 hP => ?_⟩
      have hP : A4.Put C1 gw (0 + k * 12 + 10) [.int .i64 dat.length] := hP
      rw [show 0 + k * 12 + 10 = k * 12 + 10 by omega] at hP
      have hrow1 : NodeRow A2 C1 L3 ((wantL ws k).set k (⟨pth, dat, ⟨t1, t2, t3, t4, t5, t6, t7, t8, dat.length, t10⟩⟩, .slice ad dat.length cd)) := hrow.set hLg (by omega) (by omega) (i := 10) (by rw [hatk]; rfl) (by rw [hatk]) (by rw [hatk]) hP
      have s5 : A2.Sub C1 := hP.sub s4 (hrow.new gw hLg)
      have hr1 := hrow1.at_ (by rw [List.length_set]; omega)
      obtain ⟨gw', hLg', -, -, hroom1⟩ := hr1
      rw [hLg] at hLg'
      injection hLg' with hLg'
      subst hLg'
      rw [List.length_set, hwl2] at hroom1
      conv => lhs; whnf
      repeat (first | refine go_in i0 ?_ | refine go_D hD rfl ?_
              conv => lhs; whnf)
      refine (hD _).2 ⟨hroom1 _ _ (by show 0 + k * 12 + 11 + 1 ≤ _; omega), fun C2 hP2 => ?_⟩
      have hP2 : C1.Put C2 gw (0 + k * 12 + 11) [.int .i64 0] := hP2
      rw [show 0 + k * 12 + 11 = k * 12 + 11 by omega] at hP2
      have hrow2 : NodeRow A2 C2 L3 (((wantL ws k).set k (⟨pth, dat, ⟨t1, t2, t3, t4, t5, t6, t7, t8, dat.length, t10⟩⟩, .slice ad dat.length cd)).set k (normW (⟨pth, dat, ⟨t1, t2, t3, t4, t5, t6, t7, t8, t9, t10⟩⟩, .slice ad dat.length cd))) := hrow1.set hLg (by rw [List.length_set]; omega) (by omega) (i := 11) (by rw [List.getElem_set_self]; rfl) (by rw [List.getElem_set_self]; rfl) (by rw [List.getElem_set_self]; rfl) hP2
      rw [List.set_set, hnext] at hrow2
      have s6 : A2.Sub C2 := hP2.sub s5 (hrow.new gw hLg)
      conv => lhs; whnf
      repeat (first | refine go_in i0 ?_ | refine go_D hD rfl ?_
              conv => lhs; whnf)
      exact (hD _).2 ⟨((k + 1, C2) : Nat × Arena), ⟨⟨hkm, s6, hrow2⟩, ⟨inc_slot (by omega), rfl, rfl, rfl, rfl, rfl, rfl, rfl, rfl, trivial⟩, trivial, rfl⟩, by show ws.length - (k + 1) < ws.length - k; omega, trivial, ⟨same1 rfl rfl, same1 rfl rfl, same1 rfl rfl, trivial⟩⟩
    · have hkm : k = ws.length := by
        have hlt : ¬ (k : Int) < (ws.length : Int) := hlt
        omega
      subst hkm
      rw [wantL_end] at hrow
      conv => lhs; whnf
      repeat (first | refine go_D hD rfl ?_
              conv => lhs; whnf)
      have e8 : IntKind.i64.wrap (8 * (B.length : Int)) = ((8 * B.length : Nat) : Int) := by rw [Sx.wrap_i64 (by omega) (by omega)]; push_cast; rfl
      refine (hD _).2 ⟨((at0, 8 * B.length) : Int × Nat), ⟨by rw [e8], by show 1 ≤ 8 * B.length; omega, by show 8 * B.length ≤ _; omega⟩, fun v A5 hq => ?_⟩
      obtain ⟨h9, p, hp8, hv⟩ : A5 = A4 ∧ ∃ p : Nat, p < 8 * B.length ∧ v = .int .i64 p := hq
      have h9 := h9.symm
      subst h9
      subst hv
      conv => lhs; whnf
      repeat (first | refine go_D hD rfl ?_
              conv => lhs; whnf)
      have s14 : A1.Sub A4 := s2.trans s4
      refine (hD _).2 ⟨B, ⟨_, rfl, hB1.sub s14⟩, fun v A6 hq => ?_⟩
      obtain ⟨s6, L6, hv, hL6⟩ : A4.Sub A6 ∧ ∃ L : LsD, v = L.v ∧ LsN A4 A6 L (B.map bv) := hq
      have hL6' := hL6.1
      rcases hL6' with ⟨_, hn0, _, hcs, _⟩ | ⟨gd, hLg, hLv, hLc, hLr⟩
      · exfalso
        have := congrArg List.length hcs
        rw [List.length_map] at this
        have h0 : B.length = 0 := this
        omega
      have hLn : L6.n = B.length := by
        have := hLr.len
        rw [List.length_map] at this
        omega
      rw [hLv, hLn] at hv
      subst hv
      conv => lhs; whnf
      repeat (first | refine go_D hD rfl ?_
              conv => lhs; whnf)
      have eq8 : IntKind.i64.wrap ((p : Int).tdiv 8) = ((p / 8 : Nat) : Int) := by
        rw [Int.tdiv_eq_ediv_of_nonneg (by omega), Sx.wrap_i64 (by omega) (by omega)]; omega
      have hq8 : p / 8 < B.length := by omega
      have i8 : 0 ≤ IntKind.i64.wrap ((p : Int).tdiv 8) ∧ IntKind.i64.wrap ((p : Int).tdiv 8) < (B.length : Int) := by rw [eq8]; omega
      rw [hLn] at hLr
      have hcb : A6.rd gd (0 + (IntKind.i64.wrap ((p : Int).tdiv 8)).toNat * 1) 1 = some [bv B[p / 8]] := by
        rw [eq8, Int.toNat_natCast]
        exact byte_at hLr.rd (p / 8) hq8 rfl
      conv => lhs; whnf
      repeat (first | refine go_in i8 ?_ | refine go_rd hcb ?_ | refine go_D hD rfl ?_
              conv => lhs; whnf)
      refine (hD _).2 ⟨hLr.room (by rw [eq8, Int.toNat_natCast]; have := hLr.le; show 0 + p / 8 * 1 + 1 ≤ _; omega), fun A7 hP => ?_⟩
      have hfl := flip_u8 B[p / 8] p
      obtain ⟨y, hby, hye⟩ := hfl
      have hP : A6.Put A7 gd (0 + (IntKind.i64.wrap ((p : Int).tdiv 8)).toNat * 1) [.int .u8 (bitsOf .xor .u8 (B[p / 8].toNat : Int) (IntKind.u8.wrap (1 * 2 ^ min (IntKind.u64.wrap ((p : Int).tmod 8)).toNat IntKind.u8.bits)))] := hP
      rw [hye, eq8, Int.toNat_natCast, show 0 + p / 8 * 1 = p / 8 * 1 + 0 by omega] at hP
      have hL7 : LsN A4 A7 L6 ((B.set (p / 8) y).map bv) := by
        refine ⟨?_, hL6.2⟩
        have h := hL6.1
        rw [bvs_flat] at h ⊢
        exact LsR.set (enc := fun b => [bv b]) (es := 1) (fun _ => rfl) h hLg hq8 (by decide) rfl hP
      have s7 : A4.Sub A7 := hP.sub s6 (hL6.2 gd hLg)
      have hgd : getI (B.set (p / 8) y) = none := by
        rw [List.set_eq_take_append_cons_drop, if_pos hq8]
        refine hturn _ _ B[p / 8] y ?_ hby
        rw [← List.drop_eq_getElem_cons hq8, List.take_append_drop]
      have hD7 := lsn_slb hL7 (by rw [List.length_set]; omega)
      rw [hLv, hLn] at hD7
      clear hP hL6 hL7 hcb hye hby hLr
      obtain ⟨Bd, hBd⟩ : ∃ Bd, Bd = B.set (p / 8) y := ⟨_, rfl⟩
      have hd1 : Bd.length = B.length := by rw [hBd, List.length_set]
      have hd2 : Bd.length ≤ 900000000 := by omega
      rw [← hBd] at hD7 hgd
      clear hBd
      conv => lhs; whnf
      repeat (first | refine go_D hD rfl ?_
              conv => lhs; whnf)
      refine (hD _).2 ⟨Bd, ⟨_, rfl, hD7, hd2⟩, fun v A8 hq => ?_⟩
      obtain ⟨s8, hno8, -⟩ : GetIR Bd A7 v A8 := hq
      have hv := hno8 hgd
      subst hv
      clear hno8
      conv => lhs; whnf
      repeat (first | refine go_D hD rfl ?_
              conv => lhs; whnf)
      refine go_b (bnd_upto eq8 (by omega : p / 8 ≤ c1)) ?_
      conv => lhs; whnf
      repeat (first | refine go_D hD rfl ?_
              conv => lhs; whnf)
      have s18 : A1.Sub A8 := (s14.trans s7).trans s8
      have hcb := slb_take (x := IntKind.i64.wrap ((p : Int).tdiv 8)) (rd_sub s18 hrdc) (Nat.le_of_lt hq8) hlec (by omega) eq8 (off_zero c1 1)
      have hgc := hcut (p / 8) hq8
      refine (hD _).2 ⟨B.take (p / 8), ⟨_, rfl, hcb, by rw [List.length_take]; omega⟩, fun v A9 hq => ?_⟩
      obtain ⟨s9, hno9, -⟩ : GetIR (B.take (p / 8)) A8 v A9 := hq
      have hv := hno9 hgc
      subst hv
      clear hno9 hcb
      conv => lhs; whnf
      repeat (first | refine go_D hD rfl ?_
              conv => lhs; whnf)
      have s19 : A1.Sub A9 := s18.trans s9
      refine (hD _).2 ⟨B, ⟨_, rfl, hB1.sub s19⟩, fun v A10 hq => ?_⟩
      obtain ⟨s10, Lm, hv, hLm⟩ : A9.Sub A10 ∧ ∃ L : LsD, v = L.v ∧ LsN A9 A10 L (B.map bv) := hq
      have hcase := hLm.1
      rcases hcase with ⟨_, hn0, _, hcs, _⟩ | ⟨gm, hmg, hmv, hmc, hmr⟩
      · exfalso
        have := congrArg List.length hcs
        rw [List.length_map] at this
        have h0 : B.length = 0 := this
        omega
      have hLn2 : Lm.n = B.length := by
        have := hLm.1.len
        rw [List.length_map] at this
        omega
      have hmle := hmr.le
      have hmrd := hmr.rd
      have hcm : Lm.c = Lm.c := rfl
      rw [hmv] at hv
      rw [hLn2] at hv hmle hmrd hmv hmr
      have happ : ∀ v A', Appended A10 (some (gm, 0)) B.length Lm.c 1 5 (B.map bv) (more.map bv) more.length v A' → A9.Sub A' ∧ ∃ L' : LsD, v = L'.v ∧ LsN A9 A' L' ((B ++ more).map bv) := fun v A' h => app_more hLm s10 hmg hmv hLn2 rfl h
      clear hLm hmv hLn2 hcm hmg
      generalize Lm.c = cm2 at *
      subst hv
      have s110 : A1.Sub A10 := s19.trans s10
      have s10A : A.Sub A10 := s1.trans s110
      have hMo2 := hMo.sub s10A
      obtain ⟨⟨ao', co', hmf, hml2, -, hm2, hm3, hm4⟩, hm5⟩ := hMo2
      injection hmf with e1 e2 e3
      subst e1; subst e3
      have hgmore : more ≠ [] → getI (B ++ more) = none := fun h => hmore more h
      have hmsz : (B ++ more).length ≤ 900000000 := by rw [List.length_append]; omega
      have hsrc : (match ao with
        | some ⟨g, o, none⟩ => if more.length = 0 then some [] else A10.rd g o (more.length * 1)
        | none => if more.length = 0 then some [] else none
        | some _ => if more.length = 0 then some [] else none) = some (more.map bv) := by
        by_cases h0 : more.length = 0
        · have : more = [] := List.length_eq_zero_iff.1 h0
          subst this
          rcases ao with _ | ⟨gx, ox, _ | sx⟩ <;> rfl
        · rcases ao with _ | ⟨gx, ox, _ | sx⟩
          · have := hm2 rfl
            omega
          · show (if more.length = 0 then some [] else A10.rd gx ox (more.length * 1)) = _
            rw [if_neg h0]
            exact hm4 (by omega) _ rfl
          · have := hm3 _ rfl (by omega)
            cases this
      have hNw : NodesR A4 (.slice (addrA wb) ws.length L3.c) (ws.map normW) := by
        have h := hrow.nodes (A0 := A2) fun j hj => hj
        rw [hwb, hLn3] at h
        exact ⟨h.1.sub (minus_sub _ _), fun x hx => (h.2 x hx).sub (minus_sub _ _)⟩
      have hwx : xs.map (·.1) = (ws.map normW).map (·.1) := by
        rw [hxs, ← hws, List.map_map, List.map_map]
        rfl
      have hll : xs.length ≤ 1000000 ∧ (ws.map normW).length ≤ 1000000 ∧ ss.length ≤ 1000000 := by
        have h := hok.2.2.1
        have h2 := congrArg List.length hxs
        rw [List.length_map, List.length_map, List.length_map] at h2
        rw [List.length_map]
        omega
      have s49 : A4.Sub A9 := (s7.trans s8).trans s9
      have hBlt : ¬ (1048584 : Int) < (B.length : Int) := by omega
      clear hrow
      rcases ao with _ | ⟨gx, ox, _ | sx⟩ <;> (conv => lhs; whnf)
      all_goals
        repeat (first | refine go_D hD rfl ?_
                conv => lhs; whnf)
        refine (hD _).2 ⟨B.map bv, more.map bv, ?_, hsrc, (by show (more.map bv).length = more.length * 1; rw [List.length_map, Nat.mul_one]), ?_, ?_, ?_, rfl, fun h => (by cases h), ?_, fun v A11 hAp => ?_⟩
        · show (if B.length * 1 = 0 then some [] else A10.rd gm 0 (B.length * 1)) = _
          rw [if_neg (by omega)]
          exact hmrd
        · intro v hv
          obtain ⟨b, _, rfl⟩ := List.mem_map.1 hv; rfl
        · show B.length + more.length ≤ _
          omega
        · intro h0
          have h1 := nextcap_le h0
          calc _ ≤ (2 * (B.length + more.length) + 768) * 1 := Nat.mul_le_mul_right _ h1
            _ ≤ _ := by omega
        · intro g' o' he' hle' _
          injection he' with he'
          injection he' with e1 e2
          subst e1; subst e2
          exact hmr.room (by show 0 + B.length * 1 + (more.map bv).length ≤ cm2 * 1; rw [List.length_map]; have hle' : B.length + more.length ≤ cm2 := hle'; omega)
        obtain ⟨s911, L9, hv, hL9⟩ := happ v A11 hAp
        have hB9 := lsn_slb hL9 (by omega)
        rw [← hv] at hB9
        obtain ⟨a9, d9, e9⟩ := hB9.1.form
        subst e9
        clear hL9 hv hAp
        conv => lhs; whnf
        repeat (first | refine go_D hD rfl ?_
                conv => lhs; whnf)
        refine (hD _).2 ⟨B ++ more, ⟨_, rfl, hB9, hmsz⟩, fun v A12 hq => ?_⟩
        obtain ⟨s12', hnoM, hokM⟩ : GetIR (B ++ more) A11 v A12 := hq
        have u1 : (A2.minus A1).Sub A12 := (minus_sub _ _).trans (((s4.trans s49).trans s911).trans s12')
        have u4 : A4.Sub A12 := (s49.trans s911).trans s12'
        have sA12 : A.Sub A12 := (s12.trans s4).trans u4
        have hNw2 : NodesR A12 (.slice (addrA wb) ws.length L3.c) (ws.map normW) := ⟨hNw.1.sub u4, fun x hx => (hNw.2 x hx).sub u4⟩
        by_cases hm0 : more = []
        · have hmp : more.length = 0 := by rw [hm0]; rfl
          have hgB : getI (B ++ more) = some ((l.map (·.1)).map normN, ss, ver, ms, f, t) := by
            rw [hm0, List.append_nil]
            exact hget
          have h1 := hokM _ _ _ _ _ _ hgB
          obtain ⟨xm', x, y, z, -, hv, hNm, hSm, hMm⟩ := h1
          obtain ⟨j1, o1, e1⟩ := hNm.1.form
          obtain ⟨j2, o2, e2⟩ := hSm.1.form
          obtain ⟨j3, o3, e3⟩ := hMm.1.form
          subst e1; subst e2; subst e3
          subst hv
          clear hNm hSm hMm hnoM hokM
          conv => lhs; whnf
          repeat (first | refine go_D hD rfl ?_
                  conv => lhs; whnf)
          refine (hD _).2 ⟨(xs, ws.map normW), ⟨_, _, rfl, ⟨hN1.1.sub u1, fun x hx => (hN1.2 x hx).sub u1⟩, hNw2, hll.1, hll.2.1⟩, fun v A' hq => ?_⟩
          have hq : A' = A12 ∧ v = .bool (decide (((xs).map (·.1) = (ws.map normW).map (·.1)))) := hq
          rw [decide_eq_true hwx] at hq
          have h9 := hq.1.symm
          have hv := hq.2
          subst h9
          subst hv
          conv => lhs; whnf
          repeat (first | refine go_dec rfl ?_ | refine go_D hD rfl ?_
                  conv => lhs; whnf)
          refine (hD _).2 ⟨(ss, ss), ⟨_, _, rfl, hS1.1.sub u1, hS.1.sub sA12, hll.2.2, hll.2.2⟩, fun v A' hq => ?_⟩
          have hq : A' = A12 ∧ v = .bool (decide (ss = ss)) := hq
          rw [decide_eq_true rfl] at hq
          have h9 := hq.1.symm
          have hv := hq.2
          subst h9
          subst hv
          conv => lhs; whnf
          repeat (first | refine go_dec rfl ?_ | refine go_D hD rfl ?_
                  conv => lhs; whnf)
          refine (hD _).2 ⟨(ms, ms), ⟨_, _, rfl, hM1.sub u1, hM.sub sA12⟩, fun v A' hq => ?_⟩
          have hq : A' = A12 ∧ v = .bool (decide (ms = ms)) := hq
          rw [decide_eq_true rfl] at hq
          have h9 := hq.1.symm
          have hv := hq.2
          subst h9
          subst hv
          conv => lhs; whnf
          repeat (first | refine go_dec rfl ?_ | refine go_D hD rfl ?_
                  conv => lhs; whnf)
          refine no_b (by show (!decide (t = t)) = false; rw [decide_eq_true rfl]; rfl) ?_
          conv => lhs; whnf
          repeat (first | refine go_D hD rfl ?_
                  conv => lhs; whnf)
          refine no_b (by show (!(decide ((0 : Int) = 0) == decide ((more.length : Int) = 0))) = false; rw [decide_eq_true (by omega : ((more.length : Int) = 0))]; rfl) ?_
          conv => lhs; whnf
          repeat (first | refine go_D hD rfl ?_
                  conv => lhs; whnf)
          refine no_b (by show (decide ((1048584 : Int) < (B.length : Int))) = false; exact decide_eq_false hBlt) ?_
          conv => lhs; whnf
          repeat (first | refine go_D hD rfl ?_
                  conv => lhs; whnf)
          refine (hD _).2 ⟨b, ⟨_, rfl, hB.sub sA12, hb9⟩, fun v T1 hq => ?_⟩
          obtain ⟨t1', hnoT, hokT⟩ : GetIR b A12 v T1 := hq
          have sT1 : A.Sub T1 := sA12.trans t1'
          by_cases hgb : getI b = none
          · have hv := hnoT hgb
            subst hv
            clear hnoT hokT
            conv => lhs; whnf
            repeat (first | refine go_D hD rfl ?_
                    conv => lhs; whnf)
            refine (hD _).2 ⟨(([] : List (ToldD × Value)), ([] : List (ToldD × Value))), ⟨_, _, rfl, ⟨Sl.nil _ _, fun x hx => by cases hx⟩, ⟨Sl.nil _ _, fun x hx => by cases hx⟩, by decide, by decide⟩, fun v A' hq => ?_⟩
            have hq : A' = T1 ∧ v = .bool (decide (((([] : List (ToldD × Value))).map (·.1) = (([] : List (ToldD × Value))).map (·.1)))) := hq
            rw [decide_eq_true rfl] at hq
            have h9 := hq.1.symm
            have hv := hq.2
            subst h9
            subst hv
            conv => lhs; whnf
            repeat (first | refine go_dec rfl ?_ | refine go_D hD rfl ?_
                    conv => lhs; whnf)
            refine (hD _).2 ⟨(([] : List SitD), ([] : List SitD)), ⟨_, _, rfl, Sl.nil _ _, Sl.nil _ _, by decide, by decide⟩, fun v A' hq => ?_⟩
            have hq : A' = T1 ∧ v = .bool (decide (([] : List SitD) = ([] : List SitD))) := hq
            rw [decide_eq_true rfl] at hq
            have h9 := hq.1.symm
            have hv := hq.2
            subst h9
            subst hv
            conv => lhs; whnf
            repeat (first | refine go_dec rfl ?_ | refine go_D hD rfl ?_
                    conv => lhs; whnf)
            refine (hD _).2 ⟨(([] : List MemD), ([] : List MemD)), ⟨_, _, rfl, ⟨Sl.nil _ _, by decide⟩, ⟨Sl.nil _ _, by decide⟩⟩, fun v A' hq => ?_⟩
            have hq : A' = T1 ∧ v = .bool (decide (([] : List MemD) = ([] : List MemD))) := hq
            rw [decide_eq_true rfl] at hq
            have h9 := hq.1.symm
            have hv := hq.2
            subst h9
            subst hv
            conv => lhs; whnf
            repeat (first | refine go_dec rfl ?_ | refine go_D hD rfl ?_
                    conv => lhs; whnf)
            have hendT : backS.post ⟨⟨l, ss, ver, ms, f, t⟩, b, at0, more⟩ [] A (.bool true) T1 := ⟨sT1, rfl⟩
            exact (hD _).2 hendT
          · have hx := Option.ne_none_iff_exists'.1 hgb
            obtain ⟨yi, hgb⟩ := hx
            have hbk := getI_back hgb
            obtain ⟨ns', ss', ver', ms', f', t', rfl, hbe, hrb, hnb, hsb, hfb, htb⟩ := hbk
            have h1 := hokT ns' ss' ver' ms' f' t' hgb
            obtain ⟨xb, x, y, z, hxb, hv, hNb, hSb, hMb⟩ := h1
            obtain ⟨j1, o1, e1⟩ := hNb.1.form
            obtain ⟨j2, o2, e2⟩ := hSb.1.form
            obtain ⟨j3, o3, e3⟩ := hMb.1.form
            subst e1; subst e2; subst e3
            subst hv
            clear hnoT hokT
            have hIb : ImgA ⟨xb, ss', ver', ms', f', t'⟩ [.slice j1 xb.length o1, .slice j2 ss'.length o2, .agg #[.int .i64 ver', .slice j3 ms'.length o3], .int .i64 f', .int .i64 t'] T1 := by
              refine ⟨_, _, _, rfl, ⟨hNb.1.sub (minus_sub _ _), fun x hx => (hNb.2 x hx).sub (minus_sub _ _)⟩, ⟨hSb.1.sub (minus_sub _ _), hSb.2⟩, hMb.sub (minus_sub _ _), ?_, fun x hx => ?_⟩
              · have h := hrb.2.1
                rw [← hxb, List.length_map] at h
                show xb.length ≤ 1000000
                omega
              · have h := right_fits hrb x.1 (by rw [← hxb]; exact List.mem_map_of_mem hx)
                have := pathOk_len h.1
                omega
            have hIin : ImgIn ⟨xb, ss', ver', ms', f', t'⟩ := ⟨fun x hx => hnb x.1 (by rw [← hxb]; exact List.mem_map_of_mem hx), hsb, hfb, htb⟩
            have hIok : (ImgG.mk xb ss' ver' ms' f' t').ok := by
              show RightI (xb.map (·.1)) ss' ver' ms' f' t'
              rw [hxb]
              exact hrb
            conv => lhs; whnf
            repeat (first | refine go_D hD rfl ?_
                    conv => lhs; whnf)
            refine (hD _).2 ⟨(⟨xb, ss', ver', ms', f', t'⟩ : ImgG), ⟨hIb, hIin⟩, fun v T2 hq => ?_⟩
            obtain ⟨t2', -, hokP⟩ : PutR ⟨xb, ss', ver', ms', f', t'⟩ T1 v T2 := hq
            have h2 := hokP hIok
            obtain ⟨-, LT, hv, hLT⟩ := h2
            have hLT : LsN T1 T2 LT ((frameL (loadB (xb.map (·.1)) ss' ver' ms' f' t')).map bv) := hLT
            rw [hxb, ← hbe] at hLT
            have hap := hLT.1.app
            obtain ⟨bT, hbT, -⟩ := hap
            have hBT := lsn_slb hLT hbl
            rw [hbT] at hv hBT
            subst hv
            have sT2 : A.Sub T2 := sT1.trans t2'
            clear hokP hLT hbe
            conv => lhs; whnf
            repeat (first | refine go_D hD rfl ?_
                    conv => lhs; whnf)
            refine (hD _).2 ⟨((b, b) : List UInt8 × List UInt8), ⟨_, _, rfl, hBT, hB.sub sT2⟩, fun v T3 hq => ?_⟩
            have hq : T3 = T2 ∧ v = .bool (decide (b = b)) := hq
            rw [decide_eq_true rfl] at hq
            have h9 := hq.1.symm
            have hv := hq.2
            subst h9
            subst hv
            conv => lhs; whnf
            repeat (first | refine go_D hD rfl ?_
                    conv => lhs; whnf)
            have hendT : backS.post ⟨⟨l, ss, ver, ms, f, t⟩, b, at0, more⟩ [] A (.bool true) T2 := ⟨sT2, rfl⟩
            exact (hD _).2 hendT

        · have hmp : 0 < more.length := List.length_pos_iff.2 hm0
          have hv := hnoM (hgmore hm0)
          subst hv
          clear hnoM hokM
          conv => lhs; whnf
          repeat (first | refine go_D hD rfl ?_
                  conv => lhs; whnf)
          refine (hD _).2 ⟨(xs, ws.map normW), ⟨_, _, rfl, ⟨hN1.1.sub u1, fun x hx => (hN1.2 x hx).sub u1⟩, hNw2, hll.1, hll.2.1⟩, fun v A' hq => ?_⟩
          have hq : A' = A12 ∧ v = .bool (decide (((xs).map (·.1) = (ws.map normW).map (·.1)))) := hq
          rw [decide_eq_true hwx] at hq
          have h9 := hq.1.symm
          have hv := hq.2
          subst h9
          subst hv
          conv => lhs; whnf
          repeat (first | refine go_dec rfl ?_ | refine go_D hD rfl ?_
                  conv => lhs; whnf)
          refine (hD _).2 ⟨(ss, ss), ⟨_, _, rfl, hS1.1.sub u1, hS.1.sub sA12, hll.2.2, hll.2.2⟩, fun v A' hq => ?_⟩
          have hq : A' = A12 ∧ v = .bool (decide (ss = ss)) := hq
          rw [decide_eq_true rfl] at hq
          have h9 := hq.1.symm
          have hv := hq.2
          subst h9
          subst hv
          conv => lhs; whnf
          repeat (first | refine go_dec rfl ?_ | refine go_D hD rfl ?_
                  conv => lhs; whnf)
          refine (hD _).2 ⟨(ms, ms), ⟨_, _, rfl, hM1.sub u1, hM.sub sA12⟩, fun v A' hq => ?_⟩
          have hq : A' = A12 ∧ v = .bool (decide (ms = ms)) := hq
          rw [decide_eq_true rfl] at hq
          have h9 := hq.1.symm
          have hv := hq.2
          subst h9
          subst hv
          conv => lhs; whnf
          repeat (first | refine go_dec rfl ?_ | refine go_D hD rfl ?_
                  conv => lhs; whnf)
          refine no_b (by show (!decide (t = t)) = false; rw [decide_eq_true rfl]; rfl) ?_
          conv => lhs; whnf
          repeat (first | refine go_D hD rfl ?_
                  conv => lhs; whnf)
          refine no_b (by show (!(decide ((4 : Int) = 0) == decide ((more.length : Int) = 0))) = false; rw [decide_eq_false (by omega : ¬ ((more.length : Int) = 0))]; rfl) ?_
          conv => lhs; whnf
          repeat (first | refine go_D hD rfl ?_
                  conv => lhs; whnf)
          refine no_b (by show (decide ((1048584 : Int) < (B.length : Int))) = false; exact decide_eq_false hBlt) ?_
          conv => lhs; whnf
          repeat (first | refine go_D hD rfl ?_
                  conv => lhs; whnf)
          refine (hD _).2 ⟨b, ⟨_, rfl, hB.sub sA12, hb9⟩, fun v T1 hq => ?_⟩
          obtain ⟨t1', hnoT, hokT⟩ : GetIR b A12 v T1 := hq
          have sT1 : A.Sub T1 := sA12.trans t1'
          by_cases hgb : getI b = none
          · have hv := hnoT hgb
            subst hv
            clear hnoT hokT
            conv => lhs; whnf
            repeat (first | refine go_D hD rfl ?_
                    conv => lhs; whnf)
            refine (hD _).2 ⟨(([] : List (ToldD × Value)), ([] : List (ToldD × Value))), ⟨_, _, rfl, ⟨Sl.nil _ _, fun x hx => by cases hx⟩, ⟨Sl.nil _ _, fun x hx => by cases hx⟩, by decide, by decide⟩, fun v A' hq => ?_⟩
            have hq : A' = T1 ∧ v = .bool (decide (((([] : List (ToldD × Value))).map (·.1) = (([] : List (ToldD × Value))).map (·.1)))) := hq
            rw [decide_eq_true rfl] at hq
            have h9 := hq.1.symm
            have hv := hq.2
            subst h9
            subst hv
            conv => lhs; whnf
            repeat (first | refine go_dec rfl ?_ | refine go_D hD rfl ?_
                    conv => lhs; whnf)
            refine (hD _).2 ⟨(([] : List SitD), ([] : List SitD)), ⟨_, _, rfl, Sl.nil _ _, Sl.nil _ _, by decide, by decide⟩, fun v A' hq => ?_⟩
            have hq : A' = T1 ∧ v = .bool (decide (([] : List SitD) = ([] : List SitD))) := hq
            rw [decide_eq_true rfl] at hq
            have h9 := hq.1.symm
            have hv := hq.2
            subst h9
            subst hv
            conv => lhs; whnf
            repeat (first | refine go_dec rfl ?_ | refine go_D hD rfl ?_
                    conv => lhs; whnf)
            refine (hD _).2 ⟨(([] : List MemD), ([] : List MemD)), ⟨_, _, rfl, ⟨Sl.nil _ _, by decide⟩, ⟨Sl.nil _ _, by decide⟩⟩, fun v A' hq => ?_⟩
            have hq : A' = T1 ∧ v = .bool (decide (([] : List MemD) = ([] : List MemD))) := hq
            rw [decide_eq_true rfl] at hq
            have h9 := hq.1.symm
            have hv := hq.2
            subst h9
            subst hv
            conv => lhs; whnf
            repeat (first | refine go_dec rfl ?_ | refine go_D hD rfl ?_
                    conv => lhs; whnf)
            have hendT : backS.post ⟨⟨l, ss, ver, ms, f, t⟩, b, at0, more⟩ [] A (.bool true) T1 := ⟨sT1, rfl⟩
            exact (hD _).2 hendT
          · have hx := Option.ne_none_iff_exists'.1 hgb
            obtain ⟨yi, hgb⟩ := hx
            have hbk := getI_back hgb
            obtain ⟨ns', ss', ver', ms', f', t', rfl, hbe, hrb, hnb, hsb, hfb, htb⟩ := hbk
            have h1 := hokT ns' ss' ver' ms' f' t' hgb
            obtain ⟨xb, x, y, z, hxb, hv, hNb, hSb, hMb⟩ := h1
            obtain ⟨j1, o1, e1⟩ := hNb.1.form
            obtain ⟨j2, o2, e2⟩ := hSb.1.form
            obtain ⟨j3, o3, e3⟩ := hMb.1.form
            subst e1; subst e2; subst e3
            subst hv
            clear hnoT hokT
            have hIb : ImgA ⟨xb, ss', ver', ms', f', t'⟩ [.slice j1 xb.length o1, .slice j2 ss'.length o2, .agg #[.int .i64 ver', .slice j3 ms'.length o3], .int .i64 f', .int .i64 t'] T1 := by
              refine ⟨_, _, _, rfl, ⟨hNb.1.sub (minus_sub _ _), fun x hx => (hNb.2 x hx).sub (minus_sub _ _)⟩, ⟨hSb.1.sub (minus_sub _ _), hSb.2⟩, hMb.sub (minus_sub _ _), ?_, fun x hx => ?_⟩
              · have h := hrb.2.1
                rw [← hxb, List.length_map] at h
                show xb.length ≤ 1000000
                omega
              · have h := right_fits hrb x.1 (by rw [← hxb]; exact List.mem_map_of_mem hx)
                have := pathOk_len h.1
                omega
            have hIin : ImgIn ⟨xb, ss', ver', ms', f', t'⟩ := ⟨fun x hx => hnb x.1 (by rw [← hxb]; exact List.mem_map_of_mem hx), hsb, hfb, htb⟩
            have hIok : (ImgG.mk xb ss' ver' ms' f' t').ok := by
              show RightI (xb.map (·.1)) ss' ver' ms' f' t'
              rw [hxb]
              exact hrb
            conv => lhs; whnf
            repeat (first | refine go_D hD rfl ?_
                    conv => lhs; whnf)
            refine (hD _).2 ⟨(⟨xb, ss', ver', ms', f', t'⟩ : ImgG), ⟨hIb, hIin⟩, fun v T2 hq => ?_⟩
            obtain ⟨t2', -, hokP⟩ : PutR ⟨xb, ss', ver', ms', f', t'⟩ T1 v T2 := hq
            have h2 := hokP hIok
            obtain ⟨-, LT, hv, hLT⟩ := h2
            have hLT : LsN T1 T2 LT ((frameL (loadB (xb.map (·.1)) ss' ver' ms' f' t')).map bv) := hLT
            rw [hxb, ← hbe] at hLT
            have hap := hLT.1.app
            obtain ⟨bT, hbT, -⟩ := hap
            have hBT := lsn_slb hLT hbl
            rw [hbT] at hv hBT
            subst hv
            have sT2 : A.Sub T2 := sT1.trans t2'
            clear hokP hLT hbe
            conv => lhs; whnf
            repeat (first | refine go_D hD rfl ?_
                    conv => lhs; whnf)
            refine (hD _).2 ⟨((b, b) : List UInt8 × List UInt8), ⟨_, _, rfl, hBT, hB.sub sT2⟩, fun v T3 hq => ?_⟩
            have hq : T3 = T2 ∧ v = .bool (decide (b = b)) := hq
            rw [decide_eq_true rfl] at hq
            have h9 := hq.1.symm
            have hv := hq.2
            subst h9
            subst hv
            conv => lhs; whnf
            repeat (first | refine go_D hD rfl ?_
                    conv => lhs; whnf)
            have hendT : backS.post ⟨⟨l, ss, ver, ms, f, t⟩, b, at0, more⟩ [] A (.bool true) T2 := ⟨sT2, rfl⟩
            exact (hD _).2 hendT

  · have hv := hno1 hok
    subst hv
    clear hno1 hok1
    conv => lhs; whnf
    repeat (first | refine go_D hD rfl ?_
            conv => lhs; whnf)
    refine (hD _).2 ⟨b, ⟨_, rfl, hB.sub s1, hb9⟩, fun v T1 hq => ?_⟩
    obtain ⟨t1', hnoT, hokT⟩ : GetIR b A1 v T1 := hq
    have sT1 : A.Sub T1 := s1.trans t1'
    by_cases hgb : getI b = none
    · have hv := hnoT hgb
      subst hv
      clear hnoT hokT
      conv => lhs; whnf
      repeat (first | refine go_D hD rfl ?_
              conv => lhs; whnf)
      refine (hD _).2 ⟨(([] : List (ToldD × Value)), ([] : List (ToldD × Value))), ⟨_, _, rfl, ⟨Sl.nil _ _, fun x hx => by cases hx⟩, ⟨Sl.nil _ _, fun x hx => by cases hx⟩, by decide, by decide⟩, fun v A' hq => ?_⟩
      have hq : A' = T1 ∧ v = .bool (decide (((([] : List (ToldD × Value))).map (·.1) = (([] : List (ToldD × Value))).map (·.1)))) := hq
      rw [decide_eq_true rfl] at hq
      have h9 := hq.1.symm
      have hv := hq.2
      subst h9
      subst hv
      conv => lhs; whnf
      repeat (first | refine go_dec rfl ?_ | refine go_D hD rfl ?_
              conv => lhs; whnf)
      refine (hD _).2 ⟨(([] : List SitD), ([] : List SitD)), ⟨_, _, rfl, Sl.nil _ _, Sl.nil _ _, by decide, by decide⟩, fun v A' hq => ?_⟩
      have hq : A' = T1 ∧ v = .bool (decide (([] : List SitD) = ([] : List SitD))) := hq
      rw [decide_eq_true rfl] at hq
      have h9 := hq.1.symm
      have hv := hq.2
      subst h9
      subst hv
      conv => lhs; whnf
      repeat (first | refine go_dec rfl ?_ | refine go_D hD rfl ?_
              conv => lhs; whnf)
      refine (hD _).2 ⟨(([] : List MemD), ([] : List MemD)), ⟨_, _, rfl, ⟨Sl.nil _ _, by decide⟩, ⟨Sl.nil _ _, by decide⟩⟩, fun v A' hq => ?_⟩
      have hq : A' = T1 ∧ v = .bool (decide (([] : List MemD) = ([] : List MemD))) := hq
      rw [decide_eq_true rfl] at hq
      have h9 := hq.1.symm
      have hv := hq.2
      subst h9
      subst hv
      conv => lhs; whnf
      repeat (first | refine go_dec rfl ?_ | refine go_D hD rfl ?_
              conv => lhs; whnf)
      have hendT : backS.post ⟨⟨l, ss, ver, ms, f, t⟩, b, at0, more⟩ [] A (.bool true) T1 := ⟨sT1, rfl⟩
      exact (hD _).2 hendT
    · have hx := Option.ne_none_iff_exists'.1 hgb
      obtain ⟨yi, hgb⟩ := hx
      have hbk := getI_back hgb
      obtain ⟨ns', ss', ver', ms', f', t', rfl, hbe, hrb, hnb, hsb, hfb, htb⟩ := hbk
      have h1 := hokT ns' ss' ver' ms' f' t' hgb
      obtain ⟨xb, x, y, z, hxb, hv, hNb, hSb, hMb⟩ := h1
      obtain ⟨j1, o1, e1⟩ := hNb.1.form
      obtain ⟨j2, o2, e2⟩ := hSb.1.form
      obtain ⟨j3, o3, e3⟩ := hMb.1.form
      subst e1; subst e2; subst e3
      subst hv
      clear hnoT hokT
      have hIb : ImgA ⟨xb, ss', ver', ms', f', t'⟩ [.slice j1 xb.length o1, .slice j2 ss'.length o2, .agg #[.int .i64 ver', .slice j3 ms'.length o3], .int .i64 f', .int .i64 t'] T1 := by
        refine ⟨_, _, _, rfl, ⟨hNb.1.sub (minus_sub _ _), fun x hx => (hNb.2 x hx).sub (minus_sub _ _)⟩, ⟨hSb.1.sub (minus_sub _ _), hSb.2⟩, hMb.sub (minus_sub _ _), ?_, fun x hx => ?_⟩
        · have h := hrb.2.1
          rw [← hxb, List.length_map] at h
          show xb.length ≤ 1000000
          omega
        · have h := right_fits hrb x.1 (by rw [← hxb]; exact List.mem_map_of_mem hx)
          have := pathOk_len h.1
          omega
      have hIin : ImgIn ⟨xb, ss', ver', ms', f', t'⟩ := ⟨fun x hx => hnb x.1 (by rw [← hxb]; exact List.mem_map_of_mem hx), hsb, hfb, htb⟩
      have hIok : (ImgG.mk xb ss' ver' ms' f' t').ok := by
        show RightI (xb.map (·.1)) ss' ver' ms' f' t'
        rw [hxb]
        exact hrb
      conv => lhs; whnf
      repeat (first | refine go_D hD rfl ?_
              conv => lhs; whnf)
      refine (hD _).2 ⟨(⟨xb, ss', ver', ms', f', t'⟩ : ImgG), ⟨hIb, hIin⟩, fun v T2 hq => ?_⟩
      obtain ⟨t2', -, hokP⟩ : PutR ⟨xb, ss', ver', ms', f', t'⟩ T1 v T2 := hq
      have h2 := hokP hIok
      obtain ⟨-, LT, hv, hLT⟩ := h2
      have hLT : LsN T1 T2 LT ((frameL (loadB (xb.map (·.1)) ss' ver' ms' f' t')).map bv) := hLT
      rw [hxb, ← hbe] at hLT
      have hap := hLT.1.app
      obtain ⟨bT, hbT, -⟩ := hap
      have hBT := lsn_slb hLT hbl
      rw [hbT] at hv hBT
      subst hv
      have sT2 : A.Sub T2 := sT1.trans t2'
      clear hokP hLT hbe
      conv => lhs; whnf
      repeat (first | refine go_D hD rfl ?_
              conv => lhs; whnf)
      refine (hD _).2 ⟨((b, b) : List UInt8 × List UInt8), ⟨_, _, rfl, hBT, hB.sub sT2⟩, fun v T3 hq => ?_⟩
      have hq : T3 = T2 ∧ v = .bool (decide (b = b)) := hq
      rw [decide_eq_true rfl] at hq
      have h9 := hq.1.symm
      have hv := hq.2
      subst h9
      subst hv
      conv => lhs; whnf
      repeat (first | refine go_D hD rfl ?_
              conv => lhs; whnf)
      have hendT : backS.post ⟨⟨l, ss, ver, ms, f, t⟩, b, at0, more⟩ [] A (.bool true) T2 := ⟨sT2, rfl⟩
      exact (hD _).2 hendT

end
end Go.Proofs.YtiabopbigplklaaDoor
