/-
  Contracts: bell: Ring.
  Contracts: bell: Again.
  Plain: a watch that is set again against what deeds did to its node meanwhile (the stage's theorem).
  Contracts: a tree gets sittings.
  Contracts: a copy of a tree.
  Contracts: bytes.Equal.
  Contracts: are two trees the same?
  Rows beside a tree that changes; two trees side by side; a change that may be made (fits).
  A row of deeds that fit, and copies of the tree between them: the memory side.
-/
import Derived.Test.YtfpfjobknefedaaGreatDoorG13
import Derived.Test.YtfpfjobknefedaaGreatDoorG11
import Derived.Test.YtfpfjobknefedaaGreatDoorG12
import Derived.Laws.BytesArg
import Derived.Test.YtfpfjobknefedaaGreatDoorG07
namespace Go.Proofs.YtfpfjobknefedaaGreatDoor
open Go.Sx Go.RowKit
noncomputable section
open Classical

/-- A deed's head rings: what was rung so far, what is left. -/
def chStep (z : Int) (s : List RingD × List WatchD) (d : DeedD) : List RingD × List WatchD := (s.1 ++ chRings d.h.kind d.h.path z s.2, unrung d.h.kind d.h.path s.2)

/-- What a deed rings, and what is left. -/
def ringsW (d : DeedD) (ws : List WatchD) : List RingD × List WatchD := if RightD d then d.parts.foldl (chStep d.h.zxid) (chStep d.h.zxid ([], ws) d) else ([], ws)

theorem rung_len (k : Int) (p : ByteArray) (z : Int) (ws : List WatchD) : (chRings k p z ws).length + (unrung k p ws).length = ws.length := by
  rw [chRings, List.length_map, sortW_length, rung, unrung]
  induction ws with
  | nil => rfl
  | cons w ws ih =>
    by_cases h : rungK k p w = 0
    · rw [List.filter_cons, List.filter_cons, if_neg (by simp [h]), if_pos (by simp [h]), List.length_cons, List.length_cons]
      omega
    · rw [List.filter_cons, List.filter_cons, if_pos (by simp [h]), if_neg (by simp [h]), List.length_cons, List.length_cons]
      omega

theorem chStep_len (z : Int) (s : List RingD × List WatchD) (d : DeedD) : (chStep z s d).1.length + (chStep z s d).2.length = s.1.length + s.2.length := by
  have := rung_len d.h.kind d.h.path z s.2
  simp only [chStep, List.length_append]
  omega

theorem chSteps_len (z : Int) : ∀ (ds : List DeedD) (s : List RingD × List WatchD), (ds.foldl (chStep z) s).1.length + (ds.foldl (chStep z) s).2.length = s.1.length + s.2.length
  | [], _ => rfl
  | d :: ds, s => by rw [List.foldl_cons, chSteps_len z ds, chStep_len]

theorem unrung_ok {k : Int} {p : ByteArray} {ws : List WatchD} (h : WOk ws) : WOk (unrung k p ws) := fun w hw => h w (List.mem_filter.1 hw).1

theorem chSteps_ok (z : Int) : ∀ (ds : List DeedD) (s : List RingD × List WatchD), WOk s.2 → WOk (ds.foldl (chStep z) s).2
  | [], _, h => h
  | d :: ds, s, h => by rw [List.foldl_cons]; exact chSteps_ok z ds _ (unrung_ok h)

theorem chSteps_snoc (z : Int) (ds : List DeedD) (s : List RingD × List WatchD) {k : Nat} (hk : k < ds.length) : (ds.take (k + 1)).foldl (chStep z) s = chStep z ((ds.take k).foldl (chStep z) s) ds[k] := by
  rw [List.take_succ_eq_append_getElem hk, List.foldl_append]
  rfl

/-- A row made by append, as a source. -/
theorem grow_src {A1 A : Arena} {es n c : Nat} {e : TypeId} {base : Option (Nat × Nat)} {cs : List Value} (h : GrowR A1 A es e n (.slice (addrA base) n c) cs) :
    (base = none → n = 0 ∧ cs = []) ∧ ∀ g, base = some (g, 0) → (if n = 0 then some [] else A.rd g 0 (n * es)) = some cs := by
  obtain ⟨h1, h2 | ⟨g, nc, c', h3, h4, h4', h5, h6, h7, h8⟩⟩ := h
  · obtain ⟨rfl, h2⟩ := h2
    have hc : cs = [] := List.length_eq_zero_iff.1 (by rw [h1]; simp)
    exact ⟨fun _ => ⟨rfl, hc⟩, fun g _ => by rw [if_pos rfl, hc]⟩
  · injection h3 with h31 _ h33
    have e := addrA_inj (b := some (g, 0)) h31
    subst e
    refine ⟨fun h => (by cases h), fun g' hg' => ?_⟩
    injection hg' with hg'
    injection hg' with hg' _
    subst hg'
    by_cases h0 : n = 0
    · subst h0
      rw [if_pos rfl]
      have hc : cs = [] := List.length_eq_zero_iff.1 (by rw [h1]; simp)
      rw [hc]
    · have := Nat.mul_le_mul_right es h4
      rw [if_neg h0, rd_mk h6 (by omega), List.drop_zero, h8]

theorem ring_one (rs : List RingD) : ∀ v ∈ rs.flatMap RingD.cells, v.oneCell' = true := fun v hv => by
  obtain ⟨r, _, h⟩ := List.mem_flatMap.1 hv
  simp only [RingD.cells, List.mem_cons, List.not_mem_nil, or_false] at h
  rcases h with rfl | rfl | rfl | rfl | rfl <;> rfl

theorem rings_len : ∀ rs : List RingD, (rs.flatMap RingD.cells).length = rs.length * 5
  | [] => rfl
  | r :: rs => by rw [List.flatMap_cons, List.length_append, rings_len rs, List.length_cons, Nat.succ_mul]; show 5 + _ = _; omega

structure RiG where
  k : Nat
  A : Arena
  v : Value

def ringsInv (A0 : Arena) (t m : Nat) (s0 : List RingD × List WatchD) (z : Int) (ds : List DeedD) : LInv :=
  { γ := RiG, G := fun g => g.k ≤ ds.length ∧ TwTo A0 ⟨t, m, []⟩ ((ds.take g.k).foldl (chStep z) s0).2 g.A ∧ GrowR A0 g.A 5 55 ((ds.take g.k).foldl (chStep z) s0).1.length g.v (((ds.take g.k).foldl (chStep z) s0).1.flatMap RingD.cells),
    keepS := [0, 1, 3, 21, 22], keepB := [0], sl := fun g => [(5, .v g.v), (23, .v (.int .i64 g.k))], bl := fun _ => [], ar := fun g => g.A, mu := fun g => ds.length - g.k }

def bellRingS : FSpec := ⟨TwG × DeedD × Arena, fun g vs A => ∃ cs, vs = [.pointer (some ⟨g.1.t, 0, none⟩), deedV cs] ∧ TowerAt A g.1.t g.1.m g.1.ws ∧ WOk g.1.ws ∧ g.1.ws.length ≤ 1000000 ∧ DeedR g.2.2 g.2.1 cs ∧ g.2.2.Sub A ∧ g.2.2.blk g.1.m = none ∧ HasA A,
  fun g _ A v A' => TwTo A g.1 (ringsW g.2.1 g.1.ws).2 A' ∧ GrowR A A' 5 55 (ringsW g.2.1 g.1.ws).1.length v ((ringsW g.2.1 g.1.ws).1.flatMap RingD.cells)⟩

set_option maxRecDepth 100000 in
set_option maxHeartbeats 0 in
theorem bellRing_ok : FOk Tryz.prog 11 bellRingS := by
  refine fok_v mixed fun ⟨⟨t, m, ws⟩, d, B⟩ vs A hp => ?_
  obtain ⟨cs, rfl, hT, hok, hlen, hD0, hBA, hBm, hHas⟩ : ∃ cs, vs = [.pointer (some ⟨t, 0, none⟩), deedV cs] ∧ TowerAt A t m ws ∧ WOk ws ∧ ws.length ≤ 1000000 ∧ DeedR B d cs ∧ B.Sub A ∧ B.blk m = none ∧ HasA A := hp
  have hC : CTSound Tryz.prog (lookC [specE 28 bellChangeS, specE 27 rightS] noC) := lookC_sound (noC_sound _) (fun x hx => by
    simp only [List.mem_cons, List.not_mem_nil, or_false] at hx
    rcases hx with rfl | rfl
    · exact specE_ok bellChange_ok
    · exact specE_ok right_ok)
  have hDA := DeedR.sub hBA _ _ hD0
  obtain ⟨ot, hot⟩ := hT.top.dom
  obtain ⟨hd, parts⟩ := d
  have hD1 := hD0
  rw [DeedR] at hD0
  obtain ⟨vd, vm, vp, rows, rfl, _, ⟨hs1, _⟩, ⟨hs2, _⟩, hs3, hpl, hps⟩ := hD0
  obtain ⟨a7, k7, rfl⟩ := hs1.form
  obtain ⟨a14, k14, rfl⟩ := hs2.form
  obtain ⟨ao, c, rfl, hc, _, ha1, ha2, ha3⟩ := hs3
  refine ⟨_, tabO Tryz.prog _ noL 60 [(11, 0)], 60, hC, tabO_sound mixed hC (noL_sound _) _ _, fun blk os out tape D hD => ?_⟩
  conv => lhs; whnf
  refine (hD _).2 ⟨.mk hd parts, ⟨_, rfl, hDA, hHas⟩, fun v A1 hq => ?_⟩
  obtain ⟨h9, hv⟩ : A1 = A ∧ v = .bool (decide (RightD (.mk hd parts))) := hq
  subst h9; subst hv
  by_cases hr : RightD (.mk hd parts)
  · rw [decide_eq_true hr]
    conv => lhs; whnf
    refine (hD _).2 ⟨(⟨t, m, ws⟩, hd, hd.zxid), ⟨_, _, _, _, _, _, _, _, _, rfl, hT, hok, hlen⟩, fun v A2 hq => ?_⟩
    obtain ⟨hT2, hG2⟩ : TwTo A1 ⟨t, m, ws⟩ (unrung hd.kind hd.path ws) A2 ∧ GrowR A1 A2 5 55 (chRings hd.kind hd.path hd.zxid ws).length v ((chRings hd.kind hd.path hd.zxid ws).flatMap RingD.cells) := hq
    have hse : ringsW (.mk hd parts) ws = parts.foldl (chStep hd.zxid) (chRings hd.kind hd.path hd.zxid ws, unrung hd.kind hd.path ws) := by
      unfold ringsW
      rw [if_pos hr]
      rfl
    obtain ⟨s0, hs0⟩ : ∃ s0, s0 = (chRings hd.kind hd.path hd.zxid ws, unrung hd.kind hd.path ws) := ⟨_, rfl⟩
    rw [← hs0] at hse
    have hsl : s0.1.length + s0.2.length = ws.length := by rw [hs0]; exact rung_len _ _ _ _
    have hsk : WOk s0.2 := by rw [hs0]; exact unrung_ok hok
    have hT2 : TwTo A1 ⟨t, m, []⟩ s0.2 A2 := by rw [hs0]; exact ⟨hT2.tower, hT2.keep, hT2.dom⟩
    have hG2 : GrowR A1 A2 5 55 s0.1.length v (s0.1.flatMap RingD.cells) := by rw [hs0]; exact hG2
    conv => lhs; whnf
    refine (hD _).2 ⟨ringsInv A1 t m s0 hd.zxid parts, ⟨(⟨0, A2, v⟩ : RiG), ⟨⟨Nat.zero_le _, hT2, hG2⟩, ⟨rfl, rfl, trivial⟩, trivial, rfl⟩⟩, fun (g : RiG) hG => ⟨⟨trivial, trivial, trivial⟩, trivial, ?_⟩⟩
    obtain ⟨k, As, v1⟩ := g
    obtain ⟨hk, hTs, hGs⟩ : k ≤ parts.length ∧ TwTo A1 ⟨t, m, []⟩ ((parts.take k).foldl (chStep hd.zxid) s0).2 As ∧ GrowR A1 As 5 55 ((parts.take k).foldl (chStep hd.zxid) s0).1.length v1 (((parts.take k).foldl (chStep hd.zxid) s0).1.flatMap RingD.cells) := hG
    have hnl := chSteps_len hd.zxid (parts.take k) s0
    have hok2 := chSteps_ok hd.zxid (parts.take k) s0 hsk
    have hsn := fun h => chSteps_snoc hd.zxid parts s0 (k := k) h
    generalize hsg : (parts.take k).foldl (chStep hd.zxid) s0 = sg at hTs hGs hnl hok2 hsn
    obtain ⟨rs, wk⟩ := sg
    dsimp only at hTs hGs hnl hok2 hsn
    conv => lhs; whnf
    refine split_dec (fun hlt => ?_) (fun hlt => ?_)
    rotate_left
    · have hkl : k = parts.length := by
        have hlt : ¬ ((k : Int) < (parts.length : Int)) := hlt
        omega
      have hend : bellRingS.post (⟨t, m, ws⟩, .mk hd parts, B) [] A1 v1 As := by
        show TwTo A1 _ (ringsW _ _).2 As ∧ GrowR A1 As 5 _ (ringsW _ _).1.length _ _
        rw [hse]
        rw [hkl, List.take_length] at hsg
        rw [hsg]
        exact ⟨⟨hTs.tower, hTs.keep, hTs.dom⟩, hGs⟩
      conv => lhs; whnf
      exact (hD _).2 hend
    have hlt : (k : Int) < (parts.length : Int) := hlt
    have hkl : k < parts.length := by omega
    have i0 : (0 : Int) ≤ (k : Int) ∧ (k : Int) < (parts.length : Int) := by omega
    have hsn := hsn hkl
    have hBs : B.Sub As := fun b o hb => hTs.keep b o (fun e => by
      have e : b = m := e
      rw [e, hBm] at hb; cases hb) (hBA b o hb)
    obtain ⟨g, o, rfl, hra⟩ := Sl.at_ hc ha1 ha2 ha3 (by omega)
    obtain ⟨ck, hck, hdk⟩ := deed_at hra hps k hkl rfl
    have hck := rd_sub hBs hck
    obtain ⟨_, _, _, _, _, _, _, _, _, rfl⟩ := hdk.form
    obtain ⟨dk, hdk9⟩ : ∃ dk, dk = parts[k] := ⟨_, rfl⟩
    rw [← hdk9] at hck hdk hsn
    obtain ⟨⟨zxid, kind, ses, turn, xid, time, path, data, owner, ver, cver, tmo, err, cfg, mem⟩, pp⟩ := dk
    conv => lhs; whnf
    repeat (first | refine go_in i0 ?_ | refine go_rd hck ?_ | refine go_D hD rfl ?_
            conv => lhs; whnf)
    refine (hD _).2 ⟨(⟨t, m, wk⟩, ⟨zxid, kind, ses, turn, xid, time, path, data, owner, ver, cver, tmo, err, cfg, mem⟩, hd.zxid), ⟨_, _, _, _, _, _, _, _, _, rfl, hTs.tower, hok2, by show wk.length ≤ _; omega⟩, fun v A3 hq => ?_⟩
    obtain ⟨hT3, hG3⟩ : TwTo As ⟨t, m, wk⟩ (unrung kind path wk) A3 ∧ GrowR As A3 5 55 (chRings kind path hd.zxid wk).length v ((chRings kind path hd.zxid wk).flatMap RingD.cells) := hq
    have hrl := rung_len kind path hd.zxid wk
    have hsn : (parts.take (k + 1)).foldl (chStep hd.zxid) s0 = (rs ++ chRings kind path hd.zxid wk, unrung kind path wk) := hsn
    generalize chRings kind path hd.zxid wk = qs at hG3 hrl hsn
    generalize unrung kind path wk = wk3 at hT3 hrl hsn
    obtain ⟨em, cm, hom, _⟩ := hT.map
    have hGs3 : GrowR A1 A3 5 55 rs.length v1 (rs.flatMap RingD.cells) := grow_stay hGs fun b o h1 h2 => hT3.keep b o (fun e => by
      have e : b = m := e
      rw [e, hom] at h1; cases h1) h2
    have hT13 : TwTo A1 ⟨t, m, []⟩ wk3 A3 := ⟨hT3.tower, fun b o hb ho => hT3.keep b o hb (hTs.keep b o hb ho), fun b hb => hTs.dom b (hT3.dom b hb)⟩
    obtain ⟨n1, hn1⟩ : ∃ n, n = rs.length := ⟨_, rfl⟩
    obtain ⟨n2, hn2⟩ : ∃ n, n = qs.length := ⟨_, rfl⟩
    rw [← hn1] at hGs3
    rw [← hn2] at hG3
    obtain ⟨base, cp, rfl, hbase, -⟩ := hGs3.formN
    obtain ⟨b2, cp2, rfl, hb2, -⟩ := hG3.formN
    obtain ⟨hP, hA⟩ := hGs3.formB
    have hP := hP n2 40 (by omega) (by omega)
    obtain ⟨hsrc0, hsrc⟩ := grow_src hG3
    have hql := rings_len qs
    rw [← hn2] at hql
    have hfin : ∀ u A4, Appended A3 base n1 cp 5 55 (rs.flatMap RingD.cells) (qs.flatMap RingD.cells) n2 u A4 → (ringsInv A1 t m s0 hd.zxid parts).G ⟨k + 1, A4, u⟩ := fun u A4 hAp => by
      obtain ⟨hG4, hk4⟩ := hA _ _ _ _ hql hT13.dom hAp
      show k + 1 ≤ parts.length ∧ TwTo A1 ⟨t, m, []⟩ ((parts.take (k + 1)).foldl (chStep hd.zxid) s0).2 A4 ∧ GrowR A1 A4 5 55 ((parts.take (k + 1)).foldl (chStep hd.zxid) s0).1.length u (((parts.take (k + 1)).foldl (chStep hd.zxid) s0).1.flatMap RingD.cells)
      rw [hsn]
      refine ⟨hkl, ⟨hT13.tower.keep (hk4 t _ hot) (hk4 m _ hom), fun b o hb ho => by rw [hk4 b o ho]; exact hT13.keep b o hb ho, fun b hb => hT13.dom b (app_dom hAp b hb)⟩, ?_⟩
      show GrowR A1 A4 5 _ (rs ++ qs).length u ((rs ++ qs).flatMap RingD.cells)
      rw [List.length_append, List.flatMap_append, ← hn1, ← hn2]
      exact hG4
    rcases hbase with rfl | ⟨g1, rfl⟩ <;> rcases hb2 with rfl | ⟨g2, rfl⟩ <;> (conv => lhs; whnf)
    all_goals
      refine (hD _).2 ⟨rs.flatMap RingD.cells, qs.flatMap RingD.cells, hP.rd, by first | exact hsrc _ rfl | (show (if n2 = 0 then some [] else none) = _; rw [if_pos (hsrc0 rfl).1, (hsrc0 rfl).2]), hql, ring_one qs, by show n1 + n2 ≤ 9223372036854775807; omega, hP.cap, rfl, hP.none_, fun g' o' he' hle' _ => hP.room _ hql g' o' he' hle', fun u A4 hAp => ?_⟩
      have hG4 := hfin u A4 hAp
      conv => lhs; whnf
      exact (hD _).2 ⟨(⟨k + 1, A4, u⟩ : RiG), ⟨hG4, ⟨rfl, inc_slot (by omega), trivial⟩, trivial, rfl⟩, by show parts.length - (k + 1) < parts.length - k; omega, ⟨same1 rfl rfl, same1 rfl rfl, same1 rfl rfl, same1 rfl rfl, same1 rfl rfl, trivial⟩, ⟨same1 rfl rfl, trivial⟩⟩
  · rw [decide_eq_false hr]
    have hend : bellRingS.post (⟨t, m, ws⟩, .mk hd parts, B) [] A1 (.slice none 0 0) A1 := by
      show TwTo A1 _ (ringsW _ _).2 A1 ∧ GrowR A1 A1 5 _ (ringsW _ _).1.length _ _
      unfold ringsW
      rw [if_neg hr]
      exact ⟨.same hT, GrowR.nil _ _ _ _⟩
    conv => lhs; whnf
    exact (hD _).2 hend

end
end Go.Proofs.YtfpfjobknefedaaGreatDoor

namespace Go.Proofs.YtfpfjobknefedaaGreatDoor
open Go.Sx Go.RowKit
noncomputable section
open Classical

/-- A node, as far as watches look at it. -/
structure NdD where
  path : ByteArray
  czxid : Int
  mzxid : Int
  pzxid : Int
  ctime : Int
  mtime : Int
  ver : Int
  cver : Int
  owner : Int
  len : Int
  kids : Int

def NdD.cells (n : NdD) (vd : Value) : List Value := [.string n.path, vd, .int .i64 n.czxid, .int .i64 n.mzxid, .int .i64 n.pzxid, .int .i64 n.ctime, .int .i64 n.mtime, .int .i64 n.ver, .int .i64 n.cver, .int .i64 n.owner, .int .i64 n.len, .int .i64 n.kids]

structure EvD where
  kind : Int
  sort : Int
  path : ByteArray
  z : Int
deriving DecidableEq

def EvD.cells (e : EvD) : List Value := [.int .u8 e.kind, .int .u8 e.sort, .string e.path, .int .i64 e.z]

def noEv : EvD := ⟨0, 0, ⟨#[]⟩, 0⟩

def mxI (a b : Int) : Int := bif decide (a < b) then b else a

/-- What a watch tells as it is set again: its kind (0: nothing) and zxid. -/
def toldK (sort last : Int) (n : NdD) (there : Bool) : Int × Int :=
  if there = false then (if sort = 2 then (0, 0) else (2, 0))
  else if sort = 3 ∧ last < mxI n.czxid n.pzxid then (4, mxI n.czxid n.pzxid)
  else if sort = 2 ∧ last < n.czxid then (1, n.czxid)
  else if sort ≠ 3 ∧ last < n.mzxid then (3, n.mzxid)
  else (0, 0)

def againW (w : WatchD) (last : Int) (n : NdD) (there : Bool) (ws : List WatchD) : EvD × Bool × List WatchD :=
  if mayD w.sort w.path = true then
    if (toldK w.sort last n there).1 = 0 then (noEv, false, wPut w ws) else (⟨(toldK w.sort last n there).1, w.sort, w.path, (toldK w.sort last n there).2⟩, true, ws.erase w)
  else (noEv, false, ws)

def bellAgainS : FSpec := ⟨TwG × WatchD × Int × NdD × Bool, fun g vs A => ∃ a l k, vs = [.pointer (some ⟨g.1.t, 0, none⟩), .int .i64 g.2.1.conn, .int .u8 g.2.1.sort, .string g.2.1.path, .int .i64 g.2.2.1, .agg (g.2.2.2.1.cells (.slice a l k)).toArray, .bool g.2.2.2.2] ∧ TowerAt A g.1.t g.1.m g.1.ws,
  fun g _ A v A' => v = .tuple #[.agg (againW g.2.1 g.2.2.1 g.2.2.2.1 g.2.2.2.2 g.1.ws).1.cells.toArray, .bool (againW g.2.1 g.2.2.1 g.2.2.2.1 g.2.2.2.2 g.1.ws).2.1] ∧ TwTo A g.1 (againW g.2.1 g.2.2.1 g.2.2.2.1 g.2.2.2.2 g.1.ws).2.2 A'⟩

set_option maxRecDepth 100000 in
set_option maxHeartbeats 0 in
theorem bellAgain_ok : FOk Tryz.prog 12 bellAgainS := by
  refine fok_v mixed fun ⟨⟨t, m, ws⟩, ⟨conn, sort, p⟩, last, ⟨np, cz, mz, pz, ct, mt, ve, cv, ow, le, ki⟩, there⟩ vs A hp => ?_
  obtain ⟨a, l, k, rfl, hT⟩ : ∃ a l k, vs = [.pointer (some ⟨t, 0, none⟩), .int .i64 conn, .int .u8 sort, .string p, .int .i64 last, .agg (NdD.cells ⟨np, cz, mz, pz, ct, mt, ve, cv, ow, le, ki⟩ (.slice a l k)).toArray, .bool there] ∧ TowerAt A t m ws := hp
  have hC : CTSound Tryz.prog (lookC [specE 26 mayS, specE 10 bellAddS] noC) := lookC_sound (noC_sound _) (fun x hx => by
    simp only [List.mem_cons, List.not_mem_nil, or_false] at hx
    rcases hx with rfl | rfl
    · exact specE_ok may_ok
    · exact specE_ok bellAdd_ok)
  refine ⟨_, noL, 60, hC, noL_sound _, fun blk os out tape D hD => ?_⟩
  have htop : A.rd t 0 1 = some [.map (some m)] := hT.top.rd (o := 0) (n := 1) (by show 0 + 1 ≤ 1; omega)
  conv => lhs; whnf
  refine (hD _).2 ⟨((⟨t, m, ws⟩ : TwG), sort, p), ⟨rfl, hT⟩, fun v A1 hq => ?_⟩
  obtain ⟨h9, hv⟩ : A1 = A ∧ v = .bool (mayD sort p) := hq
  subst h9
  have hag : mayD sort p = true → againW ⟨conn, sort, p⟩ last ⟨np, cz, mz, pz, ct, mt, ve, cv, ow, le, ki⟩ there ws = if (toldK sort last ⟨np, cz, mz, pz, ct, mt, ve, cv, ow, le, ki⟩ there).1 = 0 then (noEv, false, wPut ⟨conn, sort, p⟩ ws) else (⟨(toldK sort last ⟨np, cz, mz, pz, ct, mt, ve, cv, ow, le, ki⟩ there).1, sort, p, (toldK sort last ⟨np, cz, mz, pz, ct, mt, ve, cv, ow, le, ki⟩ there).2⟩, true, ws.erase ⟨conn, sort, p⟩) := fun h => if_pos h
  cases hm : mayD sort p with
  | false =>
    rw [hm] at hv
    subst hv
    have hend : bellAgainS.post ((⟨t, m, ws⟩ : TwG), ⟨conn, sort, p⟩, last, ⟨np, cz, mz, pz, ct, mt, ve, cv, ow, le, ki⟩, there) [] A1 (.tuple #[.agg #[.int .u8 0, .int .u8 0, .string ⟨#[]⟩, .int .i64 0], .bool false]) A1 := by
      have : againW ⟨conn, sort, p⟩ last ⟨np, cz, mz, pz, ct, mt, ve, cv, ow, le, ki⟩ there ws = (noEv, false, ws) := if_neg (by rw [hm]; exact Bool.false_ne_true)
      show _ = Value.tuple #[.agg (againW _ _ _ _ _).1.cells.toArray, .bool (againW _ _ _ _ _).2.1] ∧ TwTo A1 _ (againW _ _ _ _ _).2.2 A1
      rw [this]
      exact ⟨rfl, .same hT⟩
    conv => lhs; whnf
    exact (hD _).2 hend
  | true =>
    rw [hm] at hv
    subst hv
    have hag := hag hm
    -- LEAVES
    cases there with
    | false =>
      by_cases h2 : sort = 2
      · subst h2
        have htk : toldK 2 last ⟨np, cz, mz, pz, ct, mt, ve, cv, ow, le, ki⟩ false = (0, 0) := by
          unfold toldK
          rfl
        rw [htk] at hag
        conv => lhs; whnf
        repeat (first | refine go_rd htop ?_ | refine go_D hD rfl ?_
                conv => lhs; whnf)
        refine (hD _).2 ⟨((⟨t, m, ws⟩ : TwG), ⟨conn, 2, p⟩), ⟨rfl, hT⟩, fun v A2 hq => ?_⟩
        have hq : TwTo A1 ⟨t, m, ws⟩ (if mayD 2 p = true then wPut ⟨conn, 2, p⟩ ws else ws) A2 := hq
        rw [if_pos hm] at hq
        have hend : bellAgainS.post ((⟨t, m, ws⟩ : TwG), ⟨conn, 2, p⟩, last, ⟨np, cz, mz, pz, ct, mt, ve, cv, ow, le, ki⟩, false) [] A1 (.tuple #[.agg #[.int .u8 0, .int .u8 0, .string ⟨#[]⟩, .int .i64 0], .bool false]) A2 := by
          show _ = Value.tuple #[.agg (againW _ _ _ _ _).1.cells.toArray, .bool (againW _ _ _ _ _).2.1] ∧ TwTo A1 _ (againW _ _ _ _ _).2.2 A2
          rw [hag]
          exact ⟨rfl, hq⟩
        conv => lhs; whnf
        exact (hD _).2 hend
      · have htk : toldK sort last ⟨np, cz, mz, pz, ct, mt, ve, cv, ow, le, ki⟩ false = (2, 0) := by
          unfold toldK
          rw [if_pos rfl, if_neg h2]
        rw [htk] at hag
        conv => lhs; whnf
        repeat (first | refine no_dec h2 ?_ | refine go_rd htop ?_ | refine go_D hD rfl ?_
                conv => lhs; whnf)
        refine (hD _).2 ⟨by kernel_rfl, _, hT.map, wL_alike ⟨conn, sort, p⟩ ws, fun A2 hM ho _ => ?_⟩
        have hM : MapAt A2 m (delL (wKey ⟨conn, sort, p⟩) (wL ws)) := hM
        rw [wL_del] at hM
        have hend : bellAgainS.post ((⟨t, m, ws⟩ : TwG), ⟨conn, sort, p⟩, last, ⟨np, cz, mz, pz, ct, mt, ve, cv, ow, le, ki⟩, false) [] A1 (.tuple #[.agg #[.int .u8 2, .int .u8 sort, .string p, .int .i64 0], .bool true]) A2 := by
          show _ = Value.tuple #[.agg (againW _ _ _ _ _).1.cells.toArray, .bool (againW _ _ _ _ _).2.1] ∧ TwTo A1 _ (againW _ _ _ _ _).2.2 A2
          rw [hag]
          exact ⟨rfl, .of_set hT hM ho (hT.nd.erase _)⟩
        conv => lhs; whnf
        exact (hD _).2 hend
    | true =>
      by_cases h3 : sort = 3
      · subst h3
        by_cases hl : last < mxI cz pz
        · have htk : toldK 3 last ⟨np, cz, mz, pz, ct, mt, ve, cv, ow, le, ki⟩ true = (4, (mxI cz pz)) := by
            unfold toldK
            rw [if_neg (by simp), if_pos ⟨rfl, hl⟩]
          rw [htk] at hag
          conv => lhs; whnf
          repeat (first | refine go_dec hl ?_ | refine go_rd htop ?_ | refine go_D hD rfl ?_
                  conv => lhs; whnf)
          refine (hD _).2 ⟨by kernel_rfl, _, hT.map, wL_alike ⟨conn, 3, p⟩ ws, fun A2 hM ho _ => ?_⟩
          have hM : MapAt A2 m (delL (wKey ⟨conn, 3, p⟩) (wL ws)) := hM
          rw [wL_del] at hM
          have hend : bellAgainS.post ((⟨t, m, ws⟩ : TwG), ⟨conn, 3, p⟩, last, ⟨np, cz, mz, pz, ct, mt, ve, cv, ow, le, ki⟩, true) [] A1 (.tuple #[.agg #[.int .u8 4, .int .u8 3, .string p, .int .i64 (mxI cz pz)], .bool true]) A2 := by
            show _ = Value.tuple #[.agg (againW _ _ _ _ _).1.cells.toArray, .bool (againW _ _ _ _ _).2.1] ∧ TwTo A1 _ (againW _ _ _ _ _).2.2 A2
            rw [hag]
            exact ⟨rfl, .of_set hT hM ho (hT.nd.erase _)⟩
          conv => lhs; whnf
          exact (hD _).2 hend
        · have htk : toldK 3 last ⟨np, cz, mz, pz, ct, mt, ve, cv, ow, le, ki⟩ true = (0, 0) := by
            unfold toldK
            rw [if_neg (by simp), if_neg (fun h => hl h.2), if_neg (by omega), if_neg (by omega)]
          rw [htk] at hag
          conv => lhs; whnf
          repeat (first | refine no_dec hl ?_ | refine go_rd htop ?_ | refine go_D hD rfl ?_
                  conv => lhs; whnf)
          refine (hD _).2 ⟨((⟨t, m, ws⟩ : TwG), ⟨conn, 3, p⟩), ⟨rfl, hT⟩, fun v A2 hq => ?_⟩
          have hq : TwTo A1 ⟨t, m, ws⟩ (if mayD 3 p = true then wPut ⟨conn, 3, p⟩ ws else ws) A2 := hq
          rw [if_pos hm] at hq
          have hend : bellAgainS.post ((⟨t, m, ws⟩ : TwG), ⟨conn, 3, p⟩, last, ⟨np, cz, mz, pz, ct, mt, ve, cv, ow, le, ki⟩, true) [] A1 (.tuple #[.agg #[.int .u8 0, .int .u8 0, .string ⟨#[]⟩, .int .i64 0], .bool false]) A2 := by
            show _ = Value.tuple #[.agg (againW _ _ _ _ _).1.cells.toArray, .bool (againW _ _ _ _ _).2.1] ∧ TwTo A1 _ (againW _ _ _ _ _).2.2 A2
            rw [hag]
            exact ⟨rfl, hq⟩
          conv => lhs; whnf
          exact (hD _).2 hend
      · by_cases h2 : sort = 2
        · subst h2
          by_cases hc : last < cz
          · have htk : toldK 2 last ⟨np, cz, mz, pz, ct, mt, ve, cv, ow, le, ki⟩ true = (1, cz) := by
              unfold toldK
              rw [if_neg (by simp), if_neg (by omega), if_pos ⟨rfl, hc⟩]
            rw [htk] at hag
            conv => lhs; whnf
            repeat (first | refine go_dec hc ?_ | refine go_rd htop ?_ | refine go_D hD rfl ?_
                    conv => lhs; whnf)
            refine (hD _).2 ⟨by kernel_rfl, _, hT.map, wL_alike ⟨conn, 2, p⟩ ws, fun A2 hM ho _ => ?_⟩
            have hM : MapAt A2 m (delL (wKey ⟨conn, 2, p⟩) (wL ws)) := hM
            rw [wL_del] at hM
            have hend : bellAgainS.post ((⟨t, m, ws⟩ : TwG), ⟨conn, 2, p⟩, last, ⟨np, cz, mz, pz, ct, mt, ve, cv, ow, le, ki⟩, true) [] A1 (.tuple #[.agg #[.int .u8 1, .int .u8 2, .string p, .int .i64 cz], .bool true]) A2 := by
              show _ = Value.tuple #[.agg (againW _ _ _ _ _).1.cells.toArray, .bool (againW _ _ _ _ _).2.1] ∧ TwTo A1 _ (againW _ _ _ _ _).2.2 A2
              rw [hag]
              exact ⟨rfl, .of_set hT hM ho (hT.nd.erase _)⟩
            conv => lhs; whnf
            exact (hD _).2 hend
          · by_cases hl : last < mz
            · have htk : toldK 2 last ⟨np, cz, mz, pz, ct, mt, ve, cv, ow, le, ki⟩ true = (3, mz) := by
                unfold toldK
                rw [if_neg (by simp), if_neg (by omega), if_neg (fun h => hc h.2), if_pos ⟨by omega, hl⟩]
              rw [htk] at hag
              conv => lhs; whnf
              repeat (first | refine no_dec hc ?_ | refine go_dec hl ?_ | refine go_rd htop ?_ | refine go_D hD rfl ?_
                      conv => lhs; whnf)
              refine (hD _).2 ⟨by kernel_rfl, _, hT.map, wL_alike ⟨conn, 2, p⟩ ws, fun A2 hM ho _ => ?_⟩
              have hM : MapAt A2 m (delL (wKey ⟨conn, 2, p⟩) (wL ws)) := hM
              rw [wL_del] at hM
              have hend : bellAgainS.post ((⟨t, m, ws⟩ : TwG), ⟨conn, 2, p⟩, last, ⟨np, cz, mz, pz, ct, mt, ve, cv, ow, le, ki⟩, true) [] A1 (.tuple #[.agg #[.int .u8 3, .int .u8 2, .string p, .int .i64 mz], .bool true]) A2 := by
                show _ = Value.tuple #[.agg (againW _ _ _ _ _).1.cells.toArray, .bool (againW _ _ _ _ _).2.1] ∧ TwTo A1 _ (againW _ _ _ _ _).2.2 A2
                rw [hag]
                exact ⟨rfl, .of_set hT hM ho (hT.nd.erase _)⟩
              conv => lhs; whnf
              exact (hD _).2 hend
            · have htk : toldK 2 last ⟨np, cz, mz, pz, ct, mt, ve, cv, ow, le, ki⟩ true = (0, 0) := by
                unfold toldK
                rw [if_neg (by simp), if_neg (by omega), if_neg (fun h => hc h.2), if_neg (fun h => hl h.2)]
              rw [htk] at hag
              conv => lhs; whnf
              repeat (first | refine no_dec hc ?_ | refine no_dec hl ?_ | refine go_rd htop ?_ | refine go_D hD rfl ?_
                      conv => lhs; whnf)
              refine (hD _).2 ⟨((⟨t, m, ws⟩ : TwG), ⟨conn, 2, p⟩), ⟨rfl, hT⟩, fun v A2 hq => ?_⟩
              have hq : TwTo A1 ⟨t, m, ws⟩ (if mayD 2 p = true then wPut ⟨conn, 2, p⟩ ws else ws) A2 := hq
              rw [if_pos hm] at hq
              have hend : bellAgainS.post ((⟨t, m, ws⟩ : TwG), ⟨conn, 2, p⟩, last, ⟨np, cz, mz, pz, ct, mt, ve, cv, ow, le, ki⟩, true) [] A1 (.tuple #[.agg #[.int .u8 0, .int .u8 0, .string ⟨#[]⟩, .int .i64 0], .bool false]) A2 := by
                show _ = Value.tuple #[.agg (againW _ _ _ _ _).1.cells.toArray, .bool (againW _ _ _ _ _).2.1] ∧ TwTo A1 _ (againW _ _ _ _ _).2.2 A2
                rw [hag]
                exact ⟨rfl, hq⟩
              conv => lhs; whnf
              exact (hD _).2 hend
        · by_cases hl : last < mz
          · have htk : toldK sort last ⟨np, cz, mz, pz, ct, mt, ve, cv, ow, le, ki⟩ true = (3, mz) := by
              unfold toldK
              rw [if_neg (by simp), if_neg (fun h => h3 h.1), if_neg (fun h => h2 h.1), if_pos ⟨h3, hl⟩]
            rw [htk] at hag
            conv => lhs; whnf
            repeat (first | refine no_dec h2 ?_ | refine no_dec h3 ?_ | refine split_nd (fun h => absurd h h3) (fun _ => ?_) | refine go_dec hl ?_ | refine go_rd htop ?_ | refine go_D hD rfl ?_
                    conv => lhs; whnf)
            refine (hD _).2 ⟨by kernel_rfl, _, hT.map, wL_alike ⟨conn, sort, p⟩ ws, fun A2 hM ho _ => ?_⟩
            have hM : MapAt A2 m (delL (wKey ⟨conn, sort, p⟩) (wL ws)) := hM
            rw [wL_del] at hM
            have hend : bellAgainS.post ((⟨t, m, ws⟩ : TwG), ⟨conn, sort, p⟩, last, ⟨np, cz, mz, pz, ct, mt, ve, cv, ow, le, ki⟩, true) [] A1 (.tuple #[.agg #[.int .u8 3, .int .u8 sort, .string p, .int .i64 mz], .bool true]) A2 := by
              show _ = Value.tuple #[.agg (againW _ _ _ _ _).1.cells.toArray, .bool (againW _ _ _ _ _).2.1] ∧ TwTo A1 _ (againW _ _ _ _ _).2.2 A2
              rw [hag]
              exact ⟨rfl, .of_set hT hM ho (hT.nd.erase _)⟩
            conv => lhs; whnf
            exact (hD _).2 hend
          · have htk : toldK sort last ⟨np, cz, mz, pz, ct, mt, ve, cv, ow, le, ki⟩ true = (0, 0) := by
              unfold toldK
              rw [if_neg (by simp), if_neg (fun h => h3 h.1), if_neg (fun h => h2 h.1), if_neg (fun h => hl h.2)]
            rw [htk] at hag
            conv => lhs; whnf
            repeat (first | refine no_dec h2 ?_ | refine no_dec h3 ?_ | refine split_nd (fun h => absurd h h3) (fun _ => ?_) | refine no_dec hl ?_ | refine go_rd htop ?_ | refine go_D hD rfl ?_
                    conv => lhs; whnf)
            refine (hD _).2 ⟨((⟨t, m, ws⟩ : TwG), ⟨conn, sort, p⟩), ⟨rfl, hT⟩, fun v A2 hq => ?_⟩
            have hq : TwTo A1 ⟨t, m, ws⟩ (if mayD sort p = true then wPut ⟨conn, sort, p⟩ ws else ws) A2 := hq
            rw [if_pos hm] at hq
            have hend : bellAgainS.post ((⟨t, m, ws⟩ : TwG), ⟨conn, sort, p⟩, last, ⟨np, cz, mz, pz, ct, mt, ve, cv, ow, le, ki⟩, true) [] A1 (.tuple #[.agg #[.int .u8 0, .int .u8 0, .string ⟨#[]⟩, .int .i64 0], .bool false]) A2 := by
              show _ = Value.tuple #[.agg (againW _ _ _ _ _).1.cells.toArray, .bool (againW _ _ _ _ _).2.1] ∧ TwTo A1 _ (againW _ _ _ _ _).2.2 A2
              rw [hag]
              exact ⟨rfl, hq⟩
            conv => lhs; whnf
            exact (hD _).2 hend

end
end Go.Proofs.YtfpfjobknefedaaGreatDoor

namespace Go.Proofs.YtfpfjobknefedaaGreatDoor
open Go.Sx Go.RowKit
noncomputable section
open Classical

/-- The watch has not rung: its node is as its setting found it. -/
def UnrN (s : Int) (o : Option NodeD) (L : Int) : Prop := (s = 2 → o = none) ∧ (s ≠ 2 → o ≠ none) ∧ ∀ x, o = some x → (s = 1 → x.stat.mzxid ≤ L) ∧ (s = 3 → x.stat.czxid ≤ L ∧ x.stat.pzxid ≤ L)

/-- The watch has rung at F. -/
def RgN (s : Int) (o : Option NodeD) (F : Int) : Prop := ∀ x, o = some x → (s = 1 → F ≤ x.stat.mzxid) ∧ (s = 2 → F ≤ x.stat.czxid) ∧ (s = 3 → F ≤ x.stat.czxid ∨ F ≤ x.stat.pzxid)

theorem mark_form (h : DeedH) (z : Int) (q : ByteArray) (o : Option NodeD) : markF h z q o = o ∨ (q = parentP h.path ∧ ∃ x, o = some x ∧ markF h z q o = some (nodeMark z h.cver x)) := by
  unfold markF
  by_cases e : q = parentP h.path
  · rw [if_pos e]
    cases o with
    | none => exact .inl rfl
    | some x => exact .inr ⟨e, x, rfl, rfl⟩
  · rw [if_neg e]
    exact .inl rfl

theorem mark_none (h : DeedH) (z : Int) (q : ByteArray) : markF h z q none = none := by
  unfold markF
  split <;> rfl

theorem mark_some (h : DeedH) (z : Int) (q : ByteArray) (x : NodeD) : ∃ y, markF h z q (some x) = some y ∧ y.stat.czxid = x.stat.czxid ∧ y.stat.mzxid = x.stat.mzxid ∧ ((q = parentP h.path ∧ y.stat.pzxid = z) ∨ (q ≠ parentP h.path ∧ y.stat.pzxid = x.stat.pzxid)) := by
  unfold markF
  by_cases e : q = parentP h.path
  · rw [if_pos e]
    exact ⟨_, rfl, rfl, rfl, .inl ⟨e, rfl⟩⟩
  · rw [if_neg e]
    exact ⟨x, rfl, rfl, rfl, .inr ⟨e, rfl⟩⟩

/-- One change, one node. -/
theorem chg_view (h : DeedH) (z time : Int) (q : ByteArray) (o : Option NodeD) (hk : h.kind = 1 ∨ h.kind = 2 ∨ h.kind = 3) :
    (h.kind = 1 ∧ q = h.path ∧ ∃ y, chgF h z time q o = some y ∧ y.stat.czxid = z ∧ y.stat.mzxid = z ∧ y.stat.pzxid = z) ∨
    (h.kind = 2 ∧ q = h.path ∧ chgF h z time q o = none) ∨
    (h.kind = 3 ∧ q = h.path ∧ ((o = none ∧ chgF h z time q o = none) ∨ ∃ x y, o = some x ∧ chgF h z time q o = some y ∧ y.stat.czxid = x.stat.czxid ∧ y.stat.mzxid = z ∧ y.stat.pzxid = x.stat.pzxid)) ∨
    (h.kind ≠ 3 ∧ q ≠ h.path ∧ q = parentP h.path ∧ ((o = none ∧ chgF h z time q o = none) ∨ ∃ x y, o = some x ∧ chgF h z time q o = some y ∧ y.stat.czxid = x.stat.czxid ∧ y.stat.mzxid = x.stat.mzxid ∧ y.stat.pzxid = z)) ∨
    (q ≠ h.path ∧ (h.kind = 3 ∨ q ≠ parentP h.path) ∧ chgF h z time q o = o) := by
  unfold chgF
  rcases hk with hk | hk | hk
  · rw [hk, if_neg (by decide), if_pos rfl]
    by_cases e : q = h.path
    · rw [if_pos e]
      obtain ⟨y, h1, h2, h3, h4⟩ := mark_some h z q (nodeNew h z time)
      refine .inl ⟨rfl, e, y, h1, h2, h3, ?_⟩
      rcases h4 with ⟨_, h4⟩ | ⟨_, h4⟩ <;> exact h4
    · rw [if_neg e]
      by_cases e2 : q = parentP h.path
      · refine .inr (.inr (.inr (.inl ⟨by decide, e, e2, ?_⟩)))
        cases o with
        | none => exact .inl ⟨rfl, mark_none _ _ _⟩
        | some x =>
          obtain ⟨y, h1, h2, h3, h4⟩ := mark_some h z q x
          refine .inr ⟨x, y, rfl, h1, h2, h3, ?_⟩
          rcases h4 with ⟨_, h4⟩ | ⟨h4, _⟩
          · exact h4
          · exact absurd e2 h4
      · refine .inr (.inr (.inr (.inr ⟨e, .inr e2, ?_⟩)))
        unfold markF
        rw [if_neg e2]
  · rw [hk, if_neg (by decide), if_neg (by decide), if_pos rfl]
    by_cases e : q = h.path
    · rw [if_pos e]
      exact .inr (.inl ⟨rfl, e, mark_none _ _ _⟩)
    · rw [if_neg e]
      by_cases e2 : q = parentP h.path
      · refine .inr (.inr (.inr (.inl ⟨by decide, e, e2, ?_⟩)))
        cases o with
        | none => exact .inl ⟨rfl, mark_none _ _ _⟩
        | some x =>
          obtain ⟨y, h1, h2, h3, h4⟩ := mark_some h z q x
          refine .inr ⟨x, y, rfl, h1, h2, h3, ?_⟩
          rcases h4 with ⟨_, h4⟩ | ⟨h4, _⟩
          · exact h4
          · exact absurd e2 h4
      · refine .inr (.inr (.inr (.inr ⟨e, .inr e2, ?_⟩)))
        unfold markF
        rw [if_neg e2]
  · rw [hk, if_pos rfl]
    by_cases e : q = h.path
    · rw [if_pos e]
      refine .inr (.inr (.inl ⟨rfl, e, ?_⟩))
      cases o with
      | none => exact .inl ⟨rfl, rfl⟩
      | some x => exact .inr ⟨x, _, rfl, rfl, rfl, rfl, rfl⟩
    · rw [if_neg e]
      exact .inr (.inr (.inr (.inr ⟨e, .inl rfl, rfl⟩)))

theorem unr_step {h : DeedH} {z time s L : Int} {p : ByteArray} {o : Option NodeD} (hk : h.kind = 1 ∨ h.kind = 2 ∨ h.kind = 3) (hs : 1 ≤ s ∧ s ≤ 3) (hf : h.kind = 1 → p = h.path → o = none) (hu : UnrN s o L) :
    (rungK h.kind h.path ⟨4, s, p⟩ = 0 → UnrN s (chgF h z time p o) L) ∧ (rungK h.kind h.path ⟨4, s, p⟩ ≠ 0 → RgN s (chgF h z time p o) z) := by
  obtain ⟨u1, u2, u3⟩ := hu
  rcases chg_view h z time p o hk with ⟨k, e, y, h1, h2, h3, h4⟩ | ⟨k, e, h1⟩ | ⟨k, e, h1⟩ | ⟨k, e, e2, h1⟩ | ⟨e, e2, h1⟩
  · have ho := hf k e
    have hs2 : s = 2 := Classical.byContradiction fun hn => u2 hn ho
    refine ⟨fun hr => absurd hr ?_, fun _ => ?_⟩
    · unfold rungK
      rw [if_pos k, if_pos ⟨e, hs2⟩]
      decide
    · rw [h1]
      intro x hx
      injection hx with hx
      subst hx
      exact ⟨fun _ => by omega, fun _ => by omega, fun _ => .inl (by omega)⟩
  · refine ⟨fun hr => absurd hr ?_, fun _ => ?_⟩
    · unfold rungK
      rw [if_neg (by omega), if_pos k, if_pos e]
      decide
    · rw [h1]
      intro x hx
      cases hx
  · by_cases h3 : s = 3
    · subst h3
      refine ⟨fun _ => ?_, fun hr => absurd ?_ hr⟩
      · rcases h1 with ⟨ho, h1⟩ | ⟨x, y, ho, h1, c1, c2, c3⟩
        · exact absurd ho (u2 (by decide))
        · rw [h1]
          refine ⟨fun h => absurd h (by decide), fun _ h => (by cases h), fun x' hx' => ?_⟩
          injection hx' with hx'
          subst hx'
          have := (u3 x ho).2 rfl
          exact ⟨fun h => absurd h (by decide), fun _ => by omega⟩
      · unfold rungK
        rw [if_neg (by omega), if_neg (by omega), if_pos k, if_neg fun h => h.2 rfl]
    · refine ⟨fun hr => absurd hr ?_, fun _ => ?_⟩
      · unfold rungK
        rw [if_neg (by omega), if_neg (by omega), if_pos k, if_pos ⟨e, h3⟩]
        decide
      · rcases h1 with ⟨ho, h1⟩ | ⟨x, y, ho, h1, c1, c2, c3⟩
        · rw [h1]
          intro x hx
          cases hx
        · have hs1 : s = 1 := by
            by_cases h2 : s = 2
            · rw [u1 h2] at ho; cases ho
            · omega
          rw [h1]
          intro x' hx'
          injection hx' with hx'
          subst hx'
          exact ⟨fun _ => by omega, fun h => by omega, fun h => by omega⟩
  · by_cases h3 : s = 3
    · subst h3
      refine ⟨fun hr => absurd hr ?_, fun _ => ?_⟩
      · unfold rungK
        rcases hk with hk | hk | hk
        · rw [if_pos hk, if_neg fun h => absurd h.2 (show ¬ ((3 : Int) = 2) by decide), if_pos ⟨rfl, e2⟩]
          decide
        · rw [if_neg (by omega), if_pos hk, if_neg e, if_pos ⟨rfl, e2⟩]
          decide
        · exact absurd hk k
      · rcases h1 with ⟨ho, h1⟩ | ⟨x, y, ho, h1, c1, c2, c3⟩
        · rw [h1]
          intro x hx
          cases hx
        · rw [h1]
          intro x' hx'
          injection hx' with hx'
          subst hx'
          exact ⟨fun h => absurd h (by decide), fun h => absurd h (by decide), fun _ => .inr (by omega)⟩
    · refine ⟨fun _ => ?_, fun hr => absurd ?_ hr⟩
      · rcases h1 with ⟨ho, h1⟩ | ⟨x, y, ho, h1, c1, c2, c3⟩
        · rw [h1]
          rw [ho] at u1 u2 u3
          exact ⟨u1, u2, u3⟩
        · rw [h1]
          refine ⟨fun h => (by rw [u1 h] at ho; cases ho), fun _ h => (by cases h), fun x' hx' => ?_⟩
          injection hx' with hx'
          subst hx'
          have := (u3 x ho).1
          exact ⟨fun h => by have := this h; omega, fun h => absurd h h3⟩
      · unfold rungK
        rcases hk with hk | hk | hk
        · rw [if_pos hk, if_neg fun h => e h.1, if_neg fun h => h3 h.1]
        · rw [if_neg (by omega), if_pos hk, if_neg e, if_neg fun h => h3 h.1]
        · exact absurd hk k
  · rw [h1]
    refine ⟨fun _ => ⟨u1, u2, u3⟩, fun hr => absurd ?_ hr⟩
    unfold rungK
    rcases hk with hk | hk | hk
    · rw [if_pos hk, if_neg fun h => e h.1, if_neg fun h => ?_]
      rcases e2 with e2 | e2
      · omega
      · exact e2 h.2
    · rw [if_neg (by omega), if_pos hk, if_neg e, if_neg fun h => ?_]
      rcases e2 with e2 | e2
      · omega
      · exact e2 h.2
    · rw [if_neg (by omega), if_neg (by omega), if_pos hk, if_neg fun h => e h.1]

theorem rg_step {h : DeedH} {z time s F : Int} {p : ByteArray} {o : Option NodeD} (hk : h.kind = 1 ∨ h.kind = 2 ∨ h.kind = 3) (hF : F ≤ z) (hu : RgN s o F) : RgN s (chgF h z time p o) F := by
  rcases chg_view h z time p o hk with ⟨k, e, y, h1, h2, h3, h4⟩ | ⟨k, e, h1⟩ | ⟨k, e, h1⟩ | ⟨k, e, e2, h1⟩ | ⟨e, e2, h1⟩
  · rw [h1]
    intro x hx
    injection hx with hx
    subst hx
    exact ⟨fun _ => by omega, fun _ => by omega, fun _ => .inl (by omega)⟩
  · rw [h1]
    intro x hx
    cases hx
  · rcases h1 with ⟨ho, h1⟩ | ⟨x, y, ho, h1, c1, c2, c3⟩
    · rw [h1]
      intro x hx
      cases hx
    · rw [h1]
      obtain ⟨u1, u2, u3⟩ := hu x ho
      intro x' hx'
      injection hx' with hx'
      subst hx'
      exact ⟨fun _ => by omega, fun h => by rw [c1]; exact u2 h, fun h => by rw [c1, c3]; exact u3 h⟩
  · rcases h1 with ⟨ho, h1⟩ | ⟨x, y, ho, h1, c1, c2, c3⟩
    · rw [h1]
      intro x hx
      cases hx
    · rw [h1]
      obtain ⟨u1, u2, u3⟩ := hu x ho
      intro x' hx'
      injection hx' with hx'
      subst hx'
      exact ⟨fun h => by rw [c2]; exact u1 h, fun h => by rw [c1]; exact u2 h, fun _ => .inr (by omega)⟩
  · rw [h1]
    exact hu

/-- All zxids of a node. -/
def ZLe (o : Option NodeD) (L : Int) : Prop := ∀ x, o = some x → x.stat.czxid ≤ L ∧ x.stat.mzxid ≤ L ∧ x.stat.pzxid ≤ L

theorem zle_step {h : DeedH} {z time L : Int} {p : ByteArray} {o : Option NodeD} (hk : h.kind = 1 ∨ h.kind = 2 ∨ h.kind = 3) (hL : L ≤ z) (hu : ZLe o L) : ZLe (chgF h z time p o) z := by
  rcases chg_view h z time p o hk with ⟨k, e, y, h1, h2, h3, h4⟩ | ⟨k, e, h1⟩ | ⟨k, e, h1⟩ | ⟨k, e, e2, h1⟩ | ⟨e, e2, h1⟩
  · rw [h1]
    intro x hx
    injection hx with hx
    subst hx
    omega
  · rw [h1]
    intro x hx
    cases hx
  · rcases h1 with ⟨ho, h1⟩ | ⟨x, y, ho, h1, c1, c2, c3⟩
    · rw [h1]
      intro x hx
      cases hx
    · rw [h1]
      have := hu x ho
      intro x' hx'
      injection hx' with hx'
      subst hx'
      omega
  · rcases h1 with ⟨ho, h1⟩ | ⟨x, y, ho, h1, c1, c2, c3⟩
    · rw [h1]
      intro x hx
      cases hx
    · rw [h1]
      have := hu x ho
      intro x' hx'
      injection hx' with hx'
      subst hx'
      omega
  · rw [h1]
    intro x hx
    have := hu x hx
    omega

/-! ### The row of deeds and the trees between them -/

/-- What the deed that is picked may do there. -/
def FitN (h : DeedH) (N : ByteArray → Option NodeD) : Prop := (h.kind = 1 ∧ N h.path = none) ∨ h.kind = 2 ∨ h.kind = 3

structure HistD (ds : List DeedD) (N : Nat → ByteArray → Option NodeD) : Prop where
  zero : ∀ q, ZLe (N 0 q) 0
  fit : ∀ i (h : i < ds.length), ds[i].h.zxid = 5 + 2 * i ∧ RightD ds[i] ∧ FitN ds[i].h (N i) ∧ ∀ q, N (i + 1) q = chgF ds[i].h (5 + 2 * i) ds[i].h.time q (N i q)

def lastZ (i : Nat) : Int := if i = 0 then 0 else 3 + 2 * i

theorem FitN.kind {h : DeedH} {N : ByteArray → Option NodeD} (hf : FitN h N) : h.kind = 1 ∨ h.kind = 2 ∨ h.kind = 3 := by
  rcases hf with h | h | h
  · exact .inl h.1
  · exact .inr (.inl h)
  · exact .inr (.inr h)

theorem HistD.le {ds : List DeedD} {N : Nat → ByteArray → Option NodeD} (h : HistD ds N) : ∀ i, i ≤ ds.length → ∀ q, ZLe (N i q) (lastZ i)
  | 0, _, q => h.zero q
  | i + 1, hi, q => by
    obtain ⟨_, _, h3, h4⟩ := h.fit i (by omega)
    rw [h4]
    have h5 := zle_step (time := ds[i].h.time) (p := q) (z := 5 + 2 * (i : Int)) h3.kind (by unfold lastZ; split <;> omega) (h.le i (by omega) q)
    have h6 : lastZ (i + 1) = 5 + 2 * (i : Int) := by unfold lastZ; rw [if_neg (by omega)]; omega
    rw [h6]
    exact h5

theorem right_parts {d : DeedD} (hr : RightD d) (hk : d.h.kind = 1 ∨ d.h.kind = 2 ∨ d.h.kind = 3) : d.parts = [] := by
  have h8 : hasK d.h.kind 8 ∨ d.parts.length = 0 := hr.2.2.2.2.2.2.1.2.2.2.2.2.2.2.2.1
  rcases h8 with h8 | h8
  · exfalso
    rcases hk with hk | hk | hk <;> (rw [hk] at h8; revert h8; unfold hasK; decide)
  · exact List.length_eq_zero_iff.1 h8

/-- One watch, one change. -/
theorem ring_single {d : DeedD} (hr : RightD d) (hk : d.h.kind = 1 ∨ d.h.kind = 2 ∨ d.h.kind = 3) (w : WatchD) :
    ringsW d [w] = if rungK d.h.kind d.h.path w = 0 then ([], [w]) else ([ringOf (rungK d.h.kind d.h.path w) d.h.zxid w], []) := by
  unfold ringsW
  rw [if_pos hr, right_parts hr hk]
  show ([] ++ chRings _ _ _ [w], unrung _ _ [w]) = _
  unfold chRings rung unrung
  by_cases h : rungK d.h.kind d.h.path w = 0
  · rw [if_pos h, List.filter_cons_of_neg (by simp [h]), List.filter_cons_of_pos (by simp [h]), List.filter_nil, List.filter_nil, sortW_id .nil]
    rfl
  · rw [if_neg h, List.filter_cons_of_pos (by simp [h]), List.filter_cons_of_neg (by simp [h]), List.filter_nil, List.filter_nil, sortW_id (List.pairwise_singleton _ _)]
    rfl

theorem ring_empty {d : DeedD} (hr : RightD d) (hk : d.h.kind = 1 ∨ d.h.kind = 2 ∨ d.h.kind = 3) : ringsW d [] = ([], []) := by
  unfold ringsW
  rw [if_pos hr, right_parts hr hk]
  show ([] ++ chRings _ _ _ [], unrung _ _ []) = _
  unfold chRings rung unrung
  rw [List.filter_nil, List.filter_nil, sortW_id .nil]
  rfl

/-- The watch behind some of the deeds: not rung, or rung at F. -/
def StandB (s : Int) (p : ByteArray) (o : Option NodeD) (fr : Nat) (ws : List WatchD) (rung : Nat) (F : Int) : Prop :=
  (ws = [⟨4, s, p⟩] ∧ rung = 0 ∧ UnrN s o (lastZ fr)) ∨ (ws = [] ∧ rung = 1 ∧ RgN s o F ∧ lastZ fr < F)

theorem stand_step {ds : List DeedD} {N : Nat → ByteArray → Option NodeD} (hH : HistD ds N) {s F : Int} {p : ByteArray} {fr rung i : Nat} {ws : List WatchD} (hi : i < ds.length) (hfr : fr ≤ i) (hs : 1 ≤ s ∧ s ≤ 3) (hF : rung = 1 → F ≤ 5 + 2 * (i : Int)) (h : StandB s p (N i p) fr ws rung F) :
    ((ringsW ds[i] ws).1 = [] ∧ (ringsW ds[i] ws).2 = ws ∧ StandB s p (N (i + 1) p) fr ws rung F) ∨
    (rung = 0 ∧ ∃ k, (ringsW ds[i] ws).1 = [ringOf k (5 + 2 * (i : Int)) ⟨4, s, p⟩] ∧ (ringsW ds[i] ws).2 = [] ∧ StandB s p (N (i + 1) p) fr [] 1 (5 + 2 * (i : Int))) := by
  obtain ⟨h1, h2, h3, h4⟩ := hH.fit i hi
  have hk := h3.kind
  have hL : lastZ fr < 5 + 2 * (i : Int) := by unfold lastZ; split <;> omega
  rcases h with ⟨rfl, rfl, hu⟩ | ⟨rfl, rfl, hu, hl⟩
  · rw [ring_single h2 hk, h4]
    have hst := unr_step (p := p) (z := 5 + 2 * (i : Int)) (time := ds[i].h.time) hk hs (fun k1 e => by
      rcases h3 with ⟨_, h3⟩ | h3 | h3
      · subst e
        exact h3
      · omega
      · omega) hu
    by_cases e : rungK ds[i].h.kind ds[i].h.path ⟨4, s, p⟩ = 0
    · rw [if_pos e]
      exact .inl ⟨rfl, rfl, .inl ⟨rfl, rfl, hst.1 e⟩⟩
    · rw [if_neg e, h1]
      exact .inr ⟨rfl, _, rfl, rfl, .inr ⟨rfl, rfl, hst.2 e, hL⟩⟩
  · rw [ring_empty h2 hk, h4]
    exact .inl ⟨rfl, rfl, .inr ⟨rfl, rfl, rg_step hk (hF rfl) hu, hl⟩⟩

/-- A node as it is handed in. -/
def ndOf (p : ByteArray) (s : StatD) : NdD := ⟨p, s.czxid, s.mzxid, s.pzxid, s.ctime, s.mtime, s.ver, s.cver, s.owner, s.len, s.kids⟩

/-- What is told behind an absence, against what rang. -/
theorem told_end {s F : Int} {p : ByteArray} {o : Option NodeD} {fr : Nat} {ws : List WatchD} {rung : Nat} (hs : 1 ≤ s ∧ s ≤ 3) (h : StandB s p o fr ws rung F) (n : NdD) (hn : ∀ x, o = some x → n.czxid = x.stat.czxid ∧ n.mzxid = x.stat.mzxid ∧ n.pzxid = x.stat.pzxid) :
    (rung = 0 ∧ ws.length = 1 ∧ (toldK s (lastZ fr) n o.isSome).1 = 0) ∨
    (rung = 1 ∧ ws.length = 0 ∧ (((toldK s (lastZ fr) n o.isSome).1 ≠ 0 ∧ ((toldK s (lastZ fr) n o.isSome).2 = 0 ∨ F ≤ (toldK s (lastZ fr) n o.isSome).2)) ∨ ((toldK s (lastZ fr) n o.isSome).1 = 0 ∧ s = 2 ∧ o.isSome = false))) := by
  have mx : ∀ a b : Int, (mxI a b = a ∧ b ≤ a) ∨ (mxI a b = b ∧ a < b) := fun a b => by
    unfold mxI
    by_cases e : a < b
    · rw [decide_eq_true e]; exact .inr ⟨rfl, e⟩
    · rw [decide_eq_false e]; exact .inl ⟨rfl, by omega⟩
  rcases h with ⟨rfl, rfl, u1, u2, u3⟩ | ⟨rfl, rfl, hu, hl⟩
  · refine .inl ⟨rfl, rfl, ?_⟩
    cases o with
    | none =>
      have hs2 : s = 2 := Classical.byContradiction fun hn => u2 hn rfl
      show (toldK s (lastZ fr) n false).1 = 0
      unfold toldK
      rw [if_pos rfl, if_pos hs2]
    | some x =>
      obtain ⟨n1, n2, n3⟩ := hn x rfl
      obtain ⟨u3, u4⟩ := u3 x rfl
      have hs2 : s ≠ 2 := fun e => by have := u1 e; cases this
      have e1 : ¬ (s = 3 ∧ lastZ fr < mxI n.czxid n.pzxid) := fun h => by
        have := u4 h.1
        rcases mx n.czxid n.pzxid with e | e <;> omega
      have e2 : ¬ (s ≠ 3 ∧ lastZ fr < n.mzxid) := fun h => by
        have := u3 (by omega)
        omega
      show (toldK s (lastZ fr) n true).1 = 0
      unfold toldK
      rw [if_neg (by decide), if_neg e1, if_neg fun h => hs2 h.1, if_neg e2]
  · refine .inr ⟨rfl, rfl, ?_⟩
    cases o with
    | none =>
      show ((toldK s (lastZ fr) n false).1 ≠ 0 ∧ ((toldK s (lastZ fr) n false).2 = 0 ∨ F ≤ (toldK s (lastZ fr) n false).2)) ∨ ((toldK s (lastZ fr) n false).1 = 0 ∧ s = 2 ∧ false = false)
      unfold toldK
      rw [if_pos rfl]
      by_cases hs2 : s = 2
      · rw [if_pos hs2]
        exact .inr ⟨rfl, hs2, rfl⟩
      · rw [if_neg hs2]
        exact .inl ⟨by decide, .inl rfl⟩
    | some x =>
      obtain ⟨n1, n2, n3⟩ := hn x rfl
      obtain ⟨u1, u2, u3⟩ := hu x rfl
      refine .inl ?_
      show (toldK s (lastZ fr) n true).1 ≠ 0 ∧ ((toldK s (lastZ fr) n true).2 = 0 ∨ F ≤ (toldK s (lastZ fr) n true).2)
      unfold toldK
      rw [if_neg (by decide)]
      by_cases h3 : s = 3
      · have u3 := u3 h3
        rw [if_pos ⟨h3, by rcases mx n.czxid n.pzxid with e | e <;> omega⟩]
        exact ⟨show (4 : Int) ≠ 0 by decide, .inr (by rcases mx n.czxid n.pzxid with e | e <;> (show F ≤ mxI n.czxid n.pzxid; omega))⟩
      · rw [if_neg fun h => h3 h.1]
        by_cases h2 : s = 2
        · have u2 := u2 h2
          rw [if_pos ⟨h2, by omega⟩]
          exact ⟨show (1 : Int) ≠ 0 by decide, .inr (by show F ≤ n.czxid; omega)⟩
        · have u1 := u1 (by omega)
          rw [if_neg fun h => h2 h.1, if_pos ⟨h3, by omega⟩]
          exact ⟨show (3 : Int) ≠ 0 by decide, .inr (by show F ≤ n.mzxid; omega)⟩

end
end Go.Proofs.YtfpfjobknefedaaGreatDoor

namespace Go.Proofs.YtfpfjobknefedaaGreatDoor
open Go.Sx Go.RowKit
noncomputable section
open Classical

structure SeG where
  k : Nat
  A : Arena

def seatInv (A2 B : Arena) (O : Nat → Prop) (t m s : Nat) (ns : List (ByteArray × NodeD)) (E : List (ByteArray × Nat × NodeD)) (l : List SitD) : LInv :=
  { γ := SeG, G := fun g => g.k ≤ l.length ∧ TreeR g.A B O t ⟨ns, seatsOf (l.take g.k)⟩ m s E ∧ ∀ b, b ≠ s → g.A.blk b = A2.blk b,
    keepS := [0, 13, 14], keepB := [], sl := fun g => [(15, .v (.int .i64 g.k))], bl := fun _ => [], ar := fun g => g.A, mu := fun g => l.length - g.k }

def seatS : FSpec := ⟨TG × List SitD × Arena, fun g vs A => ∃ x, vs = [.pointer (some ⟨g.1.t, 0, none⟩), x] ∧ TreeAt A g.1.B g.1.O g.1.t g.1.T ∧ SlS g.2.2 x g.2.1 ∧ Aside A g.2.2 g.1.O,
  fun g _ A v A' => v = .tuple #[] ∧ StepTo A g.1.B g.1.O g.1.t ⟨g.1.T.nodes, seatsOf g.2.1⟩ A'⟩

set_option maxRecDepth 100000 in
set_option maxHeartbeats 0 in
theorem seat_ok : FOk Tryz.prog 31 seatS := by
  refine fok_v mixed fun ⟨⟨T, B, O, t⟩, l, C⟩ vs A hp => ?_
  obtain ⟨x, rfl, ⟨m, s, E, h⟩, ⟨⟨ao, c, rfl, hc, _, ha1, ha2, ha3⟩, hll⟩, hAs⟩ : ∃ x, vs = [.pointer (some ⟨t, 0, none⟩), x] ∧ TreeAt A B O t T ∧ SlS C x l ∧ Aside A C O := hp
  refine ⟨noC, tabO Tryz.prog noC noL 60 [(31, 0)], 60, noC_sound _, tabO_sound mixed (noC_sound _) (noL_sound _) _ _, fun blk os out tape D hD => ?_⟩
  have htop0 : A.rd t 0 1 = some [.map (some m)] := h.top.rd (o := 0) (n := 1) (by show 0 + 1 ≤ 2; omega)
  conv => lhs; whnf
  repeat (first | refine go_rd htop0 ?_ | refine go_D hD rfl ?_
          conv => lhs; whnf)
  refine (hD _).2 fun s' A1 hs' hA1 hM1 => ?_
  have hs' : A.blk s' = none := hs'
  have hA1 : ∀ k, k ≠ s' → A1.blk k = A.blk k := hA1
  obtain ⟨ot, hot⟩ := h.live t h.own.1
  have ts : t ≠ s' := fun e => by rw [e, hs'] at hot; cases hot
  have htop1 : CellsAt A1 t [.map (some m), .map (some s)] := h.top.sub fun o ho => by rw [hA1 t ts]; exact ho
  conv => lhs; whnf
  refine (hD _).2 ⟨htop1.room (o := 1) (n := 1) (by show 1 + 1 ≤ 2; omega), fun A2 hP2 => ?_⟩
  have hP2 : A1.Put A2 t 1 [.map (some s')] := hP2
  have htop2 : CellsAt A2 t [.map (some m), .map (some s')] := htop1.put hP2 (by show 1 + 1 ≤ 2; omega)
  have hA2 : ∀ k, k ≠ t → A2.blk k = A1.blk k := hP2.other
  have live_ne : ∀ {k : Nat}, O k → k ≠ s' := fun {k} hk e => by
    obtain ⟨o, ho⟩ := h.live k hk
    rw [e, hs'] at ho; cases ho
  have hold : ∀ k, k ≠ t → k ≠ s' → A2.blk k = A.blk k := fun k h1 h2 => by rw [hA2 k h1, hA1 k h2]
  have hBs : B.blk s' = none := by
    cases hB : B.blk s' with
    | none => rfl
    | some o => have := h.sub _ _ hB; rw [hs'] at this; cases this
  have hR2 : TreeR A2 B (fun k => O k ∨ k = s') t ⟨T.nodes, seatsOf (l.take 0)⟩ m s' E :=
    { nodes := h.nodes
      top := htop2
      nmap := h.nmap.sub fun o ho => by rw [hold m (Ne.symm h.top_ne.1) (live_ne h.own.2.1)]; exact ho
      smap := hM1.sub fun o ho => by rw [hA2 s' (Ne.symm ts)]; exact ho
      cells := fun e he => (h.cells e he).mono (hold _ (h.ne.2 e he) (live_ne (h.own.2.2.2 e he))) (Arena.Sub.refl _)
      keys := h.keys
      ptrs := h.ptrs
      skeys := by simp [seatsOf]
      sub := fun k o hk => by
        rw [hold k (fun e => by subst e; rw [h.off _ h.own.1] at hk; cases hk) (fun e => by subst e; rw [hBs] at hk; cases hk)]
        exact h.sub k o hk
      own := ⟨.inl h.own.1, .inl h.own.2.1, .inr rfl, fun e he => .inl (h.own.2.2.2 e he)⟩
      off := fun k hk => by
        rcases hk with hk | rfl
        · exact h.off k hk
        · exact hBs
      live := fun k hk => by
        by_cases e : k = t
        · subst e; exact htop2.dom
        · rcases hk with hk | rfl
          · rw [hold k e (live_ne hk)]; exact h.live k hk
          · rw [hA2 _ e]
            obtain ⟨es, cl, h1, _⟩ := hM1
            exact ⟨_, h1⟩
      ne := ⟨live_ne h.own.2.1, h.ne.2⟩ }
  have hend : ∀ Ak, TreeR Ak B (fun k => O k ∨ k = s') t ⟨T.nodes, seatsOf l⟩ m s' E → (∀ b, b ≠ s' → Ak.blk b = A2.blk b) → seatS.post (⟨T, B, O, t⟩, l, C) [.pointer (some ⟨t, 0, none⟩), .slice ao l.length c] A (.tuple #[]) Ak := fun Ak hR hk => by
    refine ⟨rfl, B, _, ⟨m, s', E, hR⟩, fun k o hk' hO => ?_, fun k hn => ?_, fun k hO => ?_, Arena.Sub.refl _, fun k o hb => .inl hb⟩
    · have n1 : k ≠ t := fun e => hO (e ▸ h.own.1)
      have n2 : k ≠ s' := fun e => by rw [e, hs'] at hk'; cases hk'
      rw [hk k n2, hold k n1 n2]; exact hk'
    · by_cases n2 : k = s'
      · rw [n2]; exact hs'
      · rw [hk k n2] at hn
        by_cases n1 : k = t
        · subst n1
          obtain ⟨o, ho⟩ := htop2.dom
          rw [ho] at hn; cases hn
        · rw [hold k n1 n2] at hn; exact hn
    · rcases hO with hO | rfl
      · exact .inl hO
      · exact .inr hs'
  conv => lhs; whnf
  refine (hD _).2 ⟨seatInv A2 B (fun k => O k ∨ k = s') t m s' T.nodes E l, ⟨(⟨0, A2⟩ : SeG), ⟨Nat.zero_le _, hR2, fun _ _ => rfl⟩, ⟨rfl, trivial⟩, trivial, rfl⟩, fun (sg : SeG) hG => ⟨⟨trivial, trivial⟩, trivial, ?_⟩⟩
  obtain ⟨k, Ak⟩ := sg
  obtain ⟨hk, hR, hkeep⟩ : k ≤ l.length ∧ TreeR Ak B (fun k => O k ∨ k = s') t ⟨T.nodes, seatsOf (l.take k)⟩ m s' E ∧ ∀ b, b ≠ s' → Ak.blk b = A2.blk b := hG
  conv => lhs; whnf
  refine split_dec (fun hlt => ?_) (fun hlt => ?_) <;> (conv => lhs; whnf)
  · have hlt : k < l.length := by
      have hlt : (k : Int) < (l.length : Int) := hlt
      omega
    obtain ⟨g, o, rfl, hra⟩ := Sl.at_ hc ha1 ha2 ha3 (by omega)
    have hrow := row_at (enc := sitC) (fun _ => rfl) hra k hlt rfl
    have hCk : C.Sub Ak := fun b o hb => by
      have h1 := hAs.1 b o hb
      have n2 : b ≠ s' := fun e => by rw [e, hs'] at h1; cases h1
      rw [hkeep b n2, hold b (fun e => hAs.2 b o hb (e ▸ h.own.1)) n2]
      exact h1
    have hrow := rd_sub hCk hrow
    obtain ⟨⟨sa, sb, sc⟩, hsv⟩ : ∃ x, x = l[k] := ⟨_, rfl⟩
    rw [← hsv] at hrow
    have hrow : Ak.rd g (o + k * 3) 3 = some [.int .i64 sa, .int .i64 sb, .int .i64 sc] := hrow
    have htk : l.take (k + 1) = l.take k ++ [⟨sa, sb, sc⟩] := by rw [List.take_succ_eq_append_getElem hlt, ← hsv]
    conv => lhs; whnf
    refine split_in (fun _ _ => ?_) (fun h => by omega)
    conv => lhs; whnf
    refine go_rd hrow ?_
    conv => lhs; whnf
    have htopk : Ak.rd t 1 1 = some [.map (some s')] := hR.top.rd (o := 1) (n := 1) (by show 1 + 1 ≤ 2; omega)
    refine split_dec (fun h1 => ?_) (fun h1 => ?_) <;> (conv => lhs; whnf)
    · have hone : seatsOf (l.take (k + 1)) = kPut sa ⟨sa, sb, sc⟩ (seatsOf (l.take k)) := by
        rw [htk, seatsOf_snoc, seatOne, if_neg (by show ¬ sa < 1; omega)]
      repeat (first | refine go_rd htopk ?_ | refine go_D hD rfl ?_
              conv => lhs; whnf)
      refine (hD _).2 ⟨_, hR.smap, intL_alike sitV sa _, fun A3 hm3 ho3 => ?_⟩
      have hm3 : MapAt A3 s' (Go.Sx.putL (.int .i64 sa) (sitV ⟨sa, sb, sc⟩) (intL sitV (seatsOf (l.take k)))) := hm3
      have ho3 : ∀ b, b ≠ s' → A3.blk b = Ak.blk b := ho3
      rw [intL_put] at hm3
      have hR3 := hR.sit ho3 hm3 (kPut_nodup hR.skeys)
      conv => lhs; whnf
      exact (hD _).2 ⟨(⟨k + 1, A3⟩ : SeG), ⟨⟨by show k + 1 ≤ l.length; omega, by rw [hone]; exact hR3, fun b hb => (ho3 b hb).trans (hkeep b hb)⟩, ⟨inc_slot (k := k) (by omega), trivial⟩, trivial, rfl⟩, by show l.length - (k + 1) < l.length - k; omega, ⟨rfl, rfl, rfl, trivial⟩, trivial⟩
    · have hone : seatsOf (l.take (k + 1)) = seatsOf (l.take k) := by
        rw [htk, seatsOf_snoc, seatOne, if_pos (by show sa < 1; omega)]
      exact (hD _).2 ⟨(⟨k + 1, Ak⟩ : SeG), ⟨⟨by show k + 1 ≤ l.length; omega, by rw [hone]; exact hR, hkeep⟩, ⟨inc_slot (k := k) (by omega), trivial⟩, trivial, rfl⟩, by show l.length - (k + 1) < l.length - k; omega, ⟨rfl, rfl, rfl, trivial⟩, trivial⟩
  · have e : k = l.length := by
      have hlt : ¬ (k : Int) < (l.length : Int) := hlt
      omega
    subst e
    rw [List.take_length] at hR
    exact (hD _).2 (hend Ak hR hkeep)

end
end Go.Proofs.YtfpfjobknefedaaGreatDoor

namespace Go.Proofs.YtfpfjobknefedaaGreatDoor
open Go.Sx Go.RowKit
noncomputable section
open Classical

abbrev strK (p : ByteArray) : Value := .string p
abbrev nodP (x : Nat × NodeD) : Value := ptrV x.1

structure CG where
  A : Arena
  B : Arena
  O : Nat → Prop
  sk : List (ByteArray × Nat × NodeD)

/-- What a copy's loop keeps. -/
structure CopyI (C W : Arena) (i m t' : Nat) (E : List (ByteArray × Nat × NodeD)) (g : CG) : Prop where
  walk : MWalk strK nodP C W g.A i m E g.sk
  tree : TreeAt g.A g.B g.O t' ⟨copyNodes g.sk, []⟩
  off : ∀ k, g.O k → C.blk k = none
  noti : ¬ g.O i
  bi : g.B.blk i = none
  fresh : ∀ k o, g.B.blk k = some o → C.blk k = none

def copyInv (C W : Arena) (i m t' : Nat) (E : List (ByteArray × Nat × NodeD)) : LInv :=
  { γ := CG, G := CopyI C W i m t' E, keepS := [0, 3, 14], keepB := [], sl := fun _ => [], bl := fun _ => [], ar := fun g => g.A, mu := fun g => E.length - g.sk.length }

def copyS : FSpec := ⟨TG, fun g vs A => vs = [.pointer (some ⟨g.t, 0, none⟩)] ∧ TreeAt A g.B g.O g.t g.T ∧ SeatsOk g.T ∧ g.T.seats.length ≤ 1000000,
  fun g _ A v A' => A.Sub A' ∧ ∃ t' B' O' E sk, v = .pointer (some ⟨t', 0, none⟩) ∧ TreeAt A' B' O' t' ⟨copyNodes sk, seatsOf (treeSits g.T)⟩ ∧ (∀ k, O' k → A.blk k = none) ∧ (∀ k o, B'.blk k = some o → A.blk k = none) ∧ g.T.nodes = kMap (·.2) E ∧ sk.Perm E⟩

set_option maxRecDepth 100000 in
set_option maxHeartbeats 0 in
theorem copy_ok : FOk Tryz.prog 18 copyS := by
  refine fok_a mixed alNode fun ⟨T, B0, O0, t⟩ vs A hp => ?_
  obtain ⟨rfl, ⟨m, s, E, h⟩, hok, hlen⟩ : vs = [.pointer (some ⟨t, 0, none⟩)] ∧ TreeAt A B0 O0 t T ∧ SeatsOk T ∧ T.seats.length ≤ 1000000 := hp
  have hCt : CTSound Tryz.prog (lookC [specE 17 newS, specE 30 cloneBytesS, specE 32 sittingsS, specE 31 seatS] noC) := lookC_sound (noC_sound _) (fun x hx => by
    simp only [List.mem_cons, List.not_mem_nil, or_false] at hx
    rcases hx with rfl | rfl | rfl | rfl
    · exact specE_ok new_ok
    · exact specE_ok cloneBytes_ok
    · exact specE_ok sittings_ok
    · exact specE_ok seat_ok)
  refine ⟨_, tabO Tryz.prog _ noL 60 [(18, 0)], 60, hCt, tabO_sound mixed hCt (noL_sound _) _ _, fun blk os out tape D hD => ?_⟩
  have htop : A.rd t 0 1 = some [.map (some m)] := h.top.rd (o := 0) (n := 1) (by show 0 + 1 ≤ 2; omega)
  conv => lhs; whnf
  repeat (first | refine go_rd htop ?_ | refine go_D hD rfl ?_
          conv => lhs; whnf)
  refine (hD _).2 ⟨(), rfl, fun v A1 hq => ?_⟩
  obtain ⟨t', O1, rfl, hT1, s1, hO1⟩ : ∃ t' O1, v = .pointer (some ⟨t', 0, none⟩) ∧ TreeAt A1 Arena.void O1 t' treeNew ∧ A.Sub A1 ∧ ∀ k, O1 k → A.blk k = none := hq
  have htop1 := rd_sub s1 htop
  conv => lhs; whnf
  repeat (first | refine go_rd htop1 ?_ | refine go_D hD rfl ?_
          conv => lhs; whnf)
  have hLE : strL ptrV (kMap (·.1) E) = E.map fun e => (strK e.1, nodP e.2) := by simp [strL, kMap]
  have hnm := h.nmap
  rw [hLE] at hnm
  have hnd := walk_nodup (kv := strK) (f := nodP) (fun a b e => by injection e) h.keys
  refine (hD _).2 ⟨_, hnm.sub fun o ho => s1 _ _ ho, hnd, fun i A2 hi hA2 hI => ?_⟩
  have hi : A1.blk i = none := hi
  have hA2 : ∀ k, k ≠ i → A2.blk k = A1.blk k := hA2
  have hW := MWalk.start' s1 (h.live m h.own.2.1) hi hA2 hI
  have hWd : ∀ k o, (Arena.of fun k => if k = i then A2.blk k else A.blk k).blk k = some o → k = i ∨ ∃ o', A.blk k = some o' := fun k o hk => by
    have hk : (if k = i then A2.blk k else A.blk k) = some o := hk
    by_cases e : k = i
    · exact .inl e
    · rw [if_neg e] at hk; exact .inr ⟨o, hk⟩
  generalize (Arena.of fun k => if k = i then A2.blk k else A.blk k) = W at hW hWd
  conv => lhs; whnf
  have hG0 : CopyI A W i m t' E ⟨A2, Arena.void, O1, []⟩ := by
    have hni : ¬ O1 i := fun hO => by
      obtain ⟨m1, s1', E1, h1⟩ := hT1
      obtain ⟨o, ho⟩ := h1.live i hO
      rw [hi] at ho; cases ho
    exact ⟨hW, hT1.frame (fun k hk => hA2 k fun e => hni (e ▸ hk)) (fun k o hk => by cases hk), hO1, hni, rfl, fun k o hk => by cases hk⟩
  refine (hD _).2 ⟨copyInv A W i m t' E, ⟨(⟨A2, Arena.void, O1, []⟩ : CG), hG0, trivial, trivial, rfl⟩, fun (sg : CG) hG => ⟨trivial, trivial, ?_⟩⟩
  obtain ⟨Ak, B, O, sk⟩ := sg
  obtain ⟨hw, hT, hoff, hni, hbi, hfr⟩ : CopyI A W i m t' E ⟨Ak, B, O, sk⟩ := hG
  dsimp only at hw hT hoff hni hbi hfr
  conv => lhs; whnf
  refine (hD _).2 (.inl ⟨m, _, _, hw.it, fun e he hn A3 hA3 hI3 hent => ?_, fun hall => ?_⟩)
  · obtain ⟨⟨p, g, n⟩, hx, rfl, hns, hM3, hlt⟩ := hw.next he hn hA3 hI3
    have hA3 : ∀ k, k ≠ i → A3.blk k = Ak.blk k := hA3
    have hent : A3.ent i = some (.tuple #[.string p, .pointer (some ⟨g, 0, none⟩)]) := hent
    obtain ⟨m', s', E', hR⟩ := hT.frame (A' := A3) (fun k hk => hA3 k fun e => hni (e ▸ hk)) (fun k o hk => by
      rw [hA3 k fun e => by subst e; rw [hbi] at hk; cases hk]
      obtain ⟨m1, s1', E1, h1⟩ := hT
      exact h1.sub k o hk)
    have htop' : A3.rd t' 0 1 = some [.map (some m')] := hR.top.rd (o := 0) (n := 1) (by show 0 + 1 ≤ 2; omega)
    obtain ⟨vn, hc, hs⟩ := h.cells _ hx
    obtain ⟨aw, kw, rfl⟩ := hs.1.form
    have hc3 : CellsAt A3 g (.slice aw n.data.length kw :: n.stat.cells) := hc.sub fun o ho => hM3.old _ _ ho
    have hs3 : SlB A3 (.slice aw n.data.length kw) n.data := (hs.sub h.sub).sub hM3.old
    have hrd : A3.rd g 0 1 = some [.slice aw n.data.length kw] := hc3.rd (o := 0) (n := 1) (by show 0 + 1 ≤ 11; omega)
    have hrs : A3.rd g 1 10 = some n.stat.cells := hc3.rd (o := 1) (n := 10) (by show 1 + 10 ≤ 11; omega)
    conv => lhs; whnf
    split
    rotate_left
    · rename_i hv
      exact absurd (hent.symm.trans hv) (by simp)
    rename_i v hv
    obtain rfl := Option.some.inj (hent.symm.trans hv)
    conv => lhs; whnf
    repeat (first | refine go_rd htop' ?_ | refine go_rd hrd ?_ | refine go_rd hrs ?_ | refine go_D hD rfl ?_
            conv => lhs; whnf)
    refine (hD _).2 ⟨n.data, ⟨_, rfl, hs3⟩, fun v A4 hq => ?_⟩
    obtain ⟨s4, b4⟩ : A3.Sub A4 ∧ SlB (A4.minus A3) v n.data := hq
    obtain ⟨ao, ko, rfl⟩ := b4.1.form
    have htop4 := rd_sub s4 htop'
    have hrd4 := rd_sub s4 hrd
    have hrs4 := rd_sub s4 hrs
    conv => lhs; whnf
    repeat (first | refine go_rd htop4 ?_ | refine go_rd hrd4 ?_ | refine go_rd hrs4 ?_ | refine go_D hD rfl ?_
            conv => lhs; whnf)
    refine (hD _).2 fun g' A5 hN => ?_
    have hN : A4.New A5 g' (.slice ao n.data.length ko :: n.stat.cells).toArray 84 := hN
    have htop5 := rd_sub hN.sub htop4
    have hrd5 := rd_sub hN.sub hrd4
    have hrs5 := rd_sub hN.sub hrs4
    conv => lhs; whnf
    repeat (first | refine go_rd htop5 ?_ | refine go_rd hrd5 ?_ | refine go_rd hrs5 ?_ | refine go_D hD rfl ?_
            conv => lhs; whnf)
    have hm5 := hR.nmap.sub (A' := A5) fun o ho => hN.sub _ _ (s4 _ _ ho)
    refine (hD _).2 ⟨_, hm5, strL_alike ptrV p _, fun A6 hm6 ho6 => ?_⟩
    obtain ⟨B6, O6, hT6, hS6⟩ : StepTo A3 B O t' ⟨kPut p n (copyNodes sk), []⟩ A6 := step_put hR s4 hN (by rfl) b4 hm6 ho6
    have hkeep : ∀ k o, A3.blk k = some o → ¬ O k → A6.blk k = some o := hS6.keep
    have hOld : ∀ k o, W.blk k = some o → ¬ O k := fun k o hk hO => by
      rcases hWd k o hk with rfl | ⟨o', ho'⟩
      · exact hni hO
      · rw [hoff k hO] at ho'; cases ho'
    have hM6 : MWalk strK nodP A W A6 i m E (sk ++ [(p, g, n)]) := hM3.more fun k o hk => by
      have h1 : ∃ o', A3.blk k = some o' := by
        cases h3 : A3.blk k with
        | some o' => exact ⟨o', rfl⟩
        | none => have := hM3.dom k h3; rw [hk] at this; cases this
      obtain ⟨o', h1⟩ := h1
      rw [h1]; exact hkeep k o' h1 (hOld k o hk)
    obtain ⟨oi, hoi⟩ : ∃ o, A3.blk i = some o := by
      cases h3 : A3.blk i with
      | some o' => exact ⟨o', rfl⟩
      | none =>
        obtain ⟨o, ho⟩ := hM3.iex
        have := hM3.dom i h3; rw [ho] at this; cases this
    have hnew : ∀ k, A3.blk k = none → A.blk k = none := hM3.dom1
    have hG6 : CopyI A W i m t' E ⟨A6, B6, O6, sk ++ [(p, g, n)]⟩ := by
      refine ⟨hM6, by rw [copyNodes_snoc]; exact hT6, fun k hk => ?_, fun hk => ?_, ?_, fun k o hk => ?_⟩
      · rcases hS6.own k hk with h1 | h1
        · exact hoff k h1
        · exact hnew k h1
      · rcases hS6.own i hk with h1 | h1
        · exact hni h1
        · rw [hoi] at h1; cases h1
      · cases hb : B6.blk i with
        | none => rfl
        | some o =>
          rcases hS6.new i o hb with h1 | h1
          · rw [hbi] at h1; cases h1
          · rw [hoi] at h1; cases h1
      · rcases hS6.new k o hk with h1 | h1
        · exact hfr k o h1
        · exact hnew k h1
    conv => lhs; whnf
    exact (hD _).2 ⟨(⟨A6, B6, O6, sk ++ [(p, g, n)]⟩ : CG), ⟨hG6, trivial, trivial, rfl⟩, by show E.length - (sk ++ [(p, g, n)]).length < E.length - sk.length; rw [List.length_append, List.length_singleton]; omega, ⟨rfl, rfl, rfl, trivial⟩, trivial⟩
  · have hperm : sk.Perm E := hw.done (fun a b e => by injection e) h.keys hall
    have hTk : TreeAt Ak B0 O0 t T := TreeAt_sub ⟨m, s, E, h⟩ hw.old
    have hdom := hw.dom1
    have hold := hw.old
    conv => lhs; whnf
    refine (hD _).2 ⟨⟨T, B0, O0, t⟩, ⟨rfl, hTk, hok, hlen⟩, fun v A7 hq => ?_⟩
    obtain ⟨s7, hS⟩ : Ak.Sub A7 ∧ Sl (A7.minus Ak) 3 (treeSits T).length v ((treeSits T).flatMap sitC) := hq
    have hsl : (treeSits T).length ≤ 140737488351232 := by
      rw [treeSits, List.length_map, sortI_length, List.length_map]; omega
    have hAs : Aside A7 (A7.minus Ak) O := ⟨minus_sub _ _, fun k o hk hO => by
      obtain ⟨m1, s1', E1, h1⟩ := hT
      obtain ⟨o', ho'⟩ := h1.live k hO
      rw [minus_none _ ho'] at hk; cases hk⟩
    obtain ⟨a7, c7, rfl⟩ := hS.form
    conv => lhs; whnf
    refine (hD _).2 ⟨(⟨⟨copyNodes sk, []⟩, B, O, t'⟩, treeSits T, A7.minus Ak), ⟨_, rfl, TreeAt_sub hT s7, ⟨hS, hsl⟩, hAs⟩, fun v A8 hq => ?_⟩
    obtain ⟨rfl, B8, O8, hT8, hS8⟩ : v = .tuple #[] ∧ StepTo A7 B O t' ⟨copyNodes sk, seatsOf (treeSits T)⟩ A8 := hq
    have hA8 : A.Sub A8 := hS8.stays (hold.trans s7) fun k o hk hO => by rw [hoff k hO] at hk; cases hk
    have hdom7 : ∀ k, A7.blk k = none → A.blk k = none := fun k hk => hdom k (by
      cases h8 : Ak.blk k with
      | none => rfl
      | some o => rw [s7 k o h8] at hk; cases hk)
    have hend : copyS.post ⟨T, B0, O0, t⟩ [.pointer (some ⟨t, 0, none⟩)] A (.pointer (some ⟨t', 0, none⟩)) A8 := by
      refine ⟨hA8, t', B8, O8, E, sk, rfl, hT8, fun k hk => ?_, fun k o hk => ?_, h.nodes, hperm⟩
      · rcases hS8.own k hk with h1 | h1
        · exact hoff k h1
        · exact hdom7 k h1
      · rcases hS8.new k o hk with h1 | h1
        · exact hfr k o h1
        · exact hdom7 k h1
    conv => lhs; whnf
    exact (hD _).2 hend

end
end Go.Proofs.YtfpfjobknefedaaGreatDoor

namespace Go.Proofs.YtfpfjobknefedaaGreatDoor
open Go.Sx Go.RowKit
noncomputable section

theorem conv_bytes {A : Arena} {w : World} (hA : ∀ k o, A.blk k = some o → w.heap[k]? = some o) {v : Value} {bs : List UInt8} (h : SlB A v bs) : (convert 30 9 v).run Tryz.prog w = .ok (.string ⟨bs.toArray⟩) w := by
  obtain ⟨⟨ao, c, rfl, hc, _, h1, h2, h3⟩, _⟩ := h
  rcases Nat.eq_zero_or_pos bs.length with hn | hn
  · obtain rfl : bs = [] := List.length_eq_zero_iff.1 hn
    rw [show ([] : List UInt8).length = 0 from rfl, run_convert_bytes_string w 30 9 5 _ 0 c Tryz.underlying30 Tryz.underlying5 Tryz.underlying9]
    cases ao <;> simp [Conv.bytesToString, loadCells]
    all_goals rfl
  · obtain ⟨g, o, rfl, hr⟩ := Sl.at_ hc h1 h2 h3 hn
    have hx : (bs.map fun b => (b.toNat : Int)).length = bs.length := List.length_map _
    have hcell : ∀ i, i < bs.length → w.cell? ⟨g, o + i, none⟩ = some (.int .u8 ((bs.map fun b => (b.toNat : Int)).getD i 0)) := fun i hi => by
      have h9 := byte_at hr i hi rfl
      rw [A.rdeq] at h9
      unfold rdOf at h9
      split at h9
      · rename_i cc tt fz hb
        split at h9
        · injection h9 with h9
          unfold World.cell?
          rw [hA _ _ hb]
          simp only [Option.isSome_none, Bool.false_eq_true, if_false]
          have h10 : ((cc.toList.drop (o + i * 1)).take 1)[0]? = ([bv bs[i]])[0]? := by rw [h9]
          rw [List.getElem?_take, if_pos (by omega), List.getElem?_drop, Nat.mul_one, Nat.add_zero] at h10
          rw [← Array.getElem?_toList, h10]
          simp [bv, hi]
        · cases h9
      · cases h9
    have := run_convert_bytes_arg (P := Tryz.prog) w 30 5 Tryz.underlying30 Tryz.underlying5 g o bs.length c _ hx hcell 9 Tryz.underlying9
    rw [this]
    have e : strOfNums (bs.map fun b => (b.toNat : Int)) = ⟨bs.toArray⟩ := by
      have hm : ∀ l : List UInt8, l.map ((fun n : Int => UInt8.ofNat n.toNat) ∘ fun b : UInt8 => (b.toNat : Int)) = l := fun l => by
        induction l with
        | nil => rfl
        | cons b l ih => rw [List.map_cons, ih, Function.comp_apply, Int.toNat_natCast, UInt8.ofNat_toNat]
      unfold strOfNums
      rw [List.map_map, hm]
    rw [e]

set_option maxHeartbeats 1000000 in
theorem equal_run (v1 v2 : Value) (t1 t2 : ByteArray) (w : World) (h1 : (convert 30 9 v1).run Tryz.prog w = .ok (.string t1) w) (h2 : (convert 30 9 v2).run Tryz.prog w = .ok (.string t2) w) :
    Calls Tryz.prog 36 #[v1, v2] w fun e w' => e = .returned (.bool (t1.toList == t2.toList)) ∧ w' = w := by
  go_enter Tryz.func36, Tryz.ntmps36
  go_wp2
  go_ret
  exact ⟨rfl, rfl⟩

def equalS : FSpec := ⟨List UInt8 × List UInt8, fun g vs A => ∃ x y, vs = [x, y] ∧ SlB A x g.1 ∧ SlB A y g.2, fun g _ A v A' => A' = A ∧ v = .bool (decide (g.1 = g.2))⟩

theorem equal_ok : FOk Tryz.prog 36 equalS := by
  intro ⟨xs, ys⟩ vs A w hA hp
  obtain ⟨x, y, rfl, hx, hy⟩ : ∃ x y, vs = [x, y] ∧ SlB A x xs ∧ SlB A y ys := hp
  refine goes_of_calls Tryz.func36 ⟨by kernel_rfl, by kernel_rfl⟩ ?_
  intro cs
  obtain ⟨e, w', fr, ⟨k1, k2⟩, k3⟩ := equal_run x y _ _ w (conv_bytes hA hx) (conv_bytes hA hy) cs
  subst k2
  refine ⟨e, w', fr, ⟨_, k1, A, ⟨rfl, ?_⟩, rfl, rfl, rfl, fun _ _ _ => rfl, hA, fun k o ho => .inl ⟨o, ho⟩⟩, k3⟩
  congr 1
  rw [Lib.toList_data, Lib.toList_data]
  by_cases h : xs = ys
  · subst h; simp
  · simp [h]

end
end Go.Proofs.YtfpfjobknefedaaGreatDoor

namespace Go.Proofs.YtfpfjobknefedaaGreatDoor
open Go.Sx Go.RowKit
noncomputable section
open Classical

def sameNodeS : FSpec := ⟨(ToldD × Value) × (ToldD × Value), fun g vs A => vs = [.agg (nodeC g.1).toArray, .agg (nodeC g.2).toArray] ∧ SlB A g.1.2 g.1.1.data ∧ SlB A g.2.2 g.2.1.data, fun g _ A v A' => A' = A ∧ v = .bool (decide (g.1.1 = g.2.1))⟩

set_option maxRecDepth 100000 in
set_option maxHeartbeats 0 in
theorem sameNode_ok : FOk Tryz.prog 35 sameNodeS := by
  refine fok_v mixed fun ⟨⟨⟨p, d, ⟨s1, s2, s3, s4, s5, s6, s7, s8, s9, s10⟩⟩, vd⟩, ⟨⟨q, e, ⟨u1, u2, u3, u4, u5, u6, u7, u8, u9, u10⟩⟩, ve⟩⟩ vs A hp => ?_
  obtain ⟨rfl, hd, he⟩ : vs = [.agg #[.string p, vd, .int .i64 s1, .int .i64 s2, .int .i64 s3, .int .i64 s4, .int .i64 s5, .int .i64 s6, .int .i64 s7, .int .i64 s8, .int .i64 s9, .int .i64 s10], .agg #[.string q, ve, .int .i64 u1, .int .i64 u2, .int .i64 u3, .int .i64 u4, .int .i64 u5, .int .i64 u6, .int .i64 u7, .int .i64 u8, .int .i64 u9, .int .i64 u10]] ∧ SlB A vd d ∧ SlB A ve e := hp
  obtain ⟨ad, cd, rfl⟩ := hd.1.form
  obtain ⟨ae, ce, rfl⟩ := he.1.form
  have hCt : CTSound Tryz.prog (lookC [specE 36 equalS] noC) := lookC_sound (noC_sound _) (fun x hx => by
    simp only [List.mem_singleton] at hx
    subst hx; exact specE_ok equal_ok)
  refine ⟨_, noL, 60, hCt, noL_sound _, fun blk os out tape D hD => ?_⟩
  have hend : ∀ b : Bool, (b = true ↔ ((p = q ∧ ((s1 = u1 ∧ s2 = u2 ∧ s3 = u3 ∧ s4 = u4 ∧ s5 = u5) ∧ s6 = u6 ∧ s7 = u7 ∧ s8 = u8 ∧ s9 = u9 ∧ s10 = u10)) ∧ d = e)) → sameNodeS.post ⟨⟨⟨p, d, ⟨s1, s2, s3, s4, s5, s6, s7, s8, s9, s10⟩⟩, .slice ad d.length cd⟩, ⟨⟨q, e, ⟨u1, u2, u3, u4, u5, u6, u7, u8, u9, u10⟩⟩, .slice ae e.length ce⟩⟩ [] A (.bool b) A := fun b hb => by
    refine ⟨rfl, ?_⟩
    congr 1
    rw [Bool.eq_iff_iff, hb, decide_eq_true_iff]
    simp only [ToldD.mk.injEq, StatD.mk.injEq]
    constructor
    · rintro ⟨⟨h1, ⟨h2, h3, h4, h5, h6⟩, h7⟩, h8⟩
      exact ⟨h1, h8, h2, h3, h4, h5, h6, h7⟩
    · rintro ⟨h1, h8, h2, h3, h4, h5, h6, h7⟩
      exact ⟨⟨h1, ⟨h2, h3, h4, h5, h6⟩, h7⟩, h8⟩
  conv => lhs; whnf
  refine split_b (fun hb => ?_) (fun hb => ?_) <;> (conv => lhs; whnf)
  rotate_left
  · exact (hD _).2 (hend false ⟨fun h => (by cases h), fun h => absurd (congrArg (fun x : ByteArray => x.data.toList) h.1.1) (beqL_ff.1 hb)⟩)
  have hpq : p = q := bytes_ext (beqL_iff.1 hb)
  refine go_D hD (by kernel_rfl) ?_
  conv => lhs; whnf
  refine split_b (fun h1 => ?_) (fun h1 => ?_) <;> (conv => lhs; whnf)
  rotate_left
  · exact (hD _).2 (hend false ⟨fun h => (by cases h), fun h => (by
      obtain ⟨⟨_, ⟨rfl, rfl, rfl, rfl, rfl⟩, rfl, rfl, rfl, rfl, rfl⟩, _⟩ := h
      simp at h1)⟩)
  refine (hD _).2 ⟨(d, e), ⟨_, _, rfl, hd, he⟩, fun v A' hq => ?_⟩
  obtain ⟨hA, rfl⟩ : A = A' ∧ v = .bool (decide (d = e)) := ⟨hq.1.symm, hq.2⟩
  subst hA
  have hall : (s1 = u1 ∧ s2 = u2 ∧ s3 = u3 ∧ s4 = u4 ∧ s5 = u5) ∧ s6 = u6 ∧ s7 = u7 ∧ s8 = u8 ∧ s9 = u9 ∧ s10 = u10 := by
    simp at h1
    omega
  conv => lhs; whnf
  exact (hD _).2 (hend _ (by show decide (d = e) = true ↔ _; rw [decide_eq_true_iff]; exact ⟨fun h => ⟨⟨hpq, hall⟩, h⟩, fun h => h.2⟩))

def eqNodeV : Value := .func (.func 35) #[] #[]

def eqNodesS : FSpec := ⟨List (ToldD × Value) × List (ToldD × Value), fun g vs A => ∃ x y, vs = [x, y, eqNodeV] ∧ NodesR A x g.1 ∧ NodesR A y g.2 ∧ g.1.length ≤ 1000000 ∧ g.2.length ≤ 1000000, fun g _ A v A' => A' = A ∧ v = .bool (decide (g.1.map (·.1) = g.2.map (·.1)))⟩

set_option maxRecDepth 100000 in
set_option maxHeartbeats 0 in
theorem eqNodes_ok : FOk Tryz.prog 37 eqNodesS := by
  refine fok_v mixed fun ⟨ls, bs⟩ vs A hp => ?_
  obtain ⟨x, y, rfl, ⟨⟨ao, c, rfl, hc, _, ha1, ha2, ha3⟩, hda⟩, ⟨⟨bo, d, rfl, hd, _, hb1, hb2, hb3⟩, hdb⟩, hl1, hl2⟩ : ∃ x y, vs = [x, y, eqNodeV] ∧ NodesR A x ls ∧ NodesR A y bs ∧ ls.length ≤ 1000000 ∧ bs.length ≤ 1000000 := hp
  have hCt : CTSound Tryz.prog (lookC [specE 35 sameNodeS] noC) := lookC_sound (noC_sound _) (fun x hx => by
    simp only [List.mem_singleton] at hx
    subst hx; exact specE_ok sameNode_ok)
  refine ⟨_, tabO Tryz.prog _ noL 60 [(37, 0)], 60, hCt, tabO_sound mixed hCt (noL_sound _) _ _, fun blk os out tape D hD => ?_⟩
  have hend : ∀ b : Bool, (b = true ↔ ls.map (·.1) = bs.map (·.1)) → eqNodesS.post (ls, bs) [] A (.bool b) A := fun b hb => by
    refine ⟨rfl, ?_⟩
    congr 1
    rw [Bool.eq_iff_iff, hb, decide_eq_true_iff]
  conv => lhs; whnf
  refine split_b (fun hb => ?_) (fun hb => ?_) <;> (conv => lhs; whnf)
  · refine (hD _).2 (hend false ⟨fun h => (by cases h), fun e => ?_⟩)
    have e1 := congrArg List.length e
    simp at e1
    rw [e1] at hb
    simp at hb
  · have hlen : ls.length = bs.length := by
      have : (ls.length : Int) = bs.length := by simpa using hb
      omega
    refine (hD _).2 ⟨cnt A 17 [1, 2, 15, 16] [] ls.length fun k => (ls.take k).map (·.1) = (bs.take k).map (·.1), ⟨(0 : Nat), ⟨Nat.zero_le _, rfl⟩, ⟨rfl, trivial⟩, trivial, rfl⟩, fun (k : Nat) hk => ⟨⟨trivial, trivial⟩, trivial, ?_⟩⟩
    simp only [cnt] at hk
    conv => lhs; whnf
    refine split_dec (fun hlt => ?_) (fun hlt => ?_) <;> (conv => lhs; whnf)
    · have hkl : k < ls.length := by omega
      obtain ⟨g, o, rfl, hra⟩ := Sl.at_ hc ha1 ha2 ha3 (by omega)
      obtain ⟨g', o', rfl, hrb⟩ := Sl.at_ hd hb1 hb2 hb3 (by omega)
      have r1 := row_at (enc := nodeC) (fun _ => rfl) hra k hkl rfl
      have r2 := row_at (enc := nodeC) (fun _ => rfl) hrb k (by omega) rfl
      obtain ⟨⟨⟨p1, e1, ⟨a1, a2, a3, a4, a5, a6, a7, a8, a9, a10⟩⟩, v1⟩, hn1⟩ : ∃ n1, n1 = ls[k] := ⟨_, rfl⟩
      obtain ⟨⟨⟨p2, e2, ⟨b1, b2, b3, b4, b5, b6, b7, b8, b9, b10⟩⟩, v2⟩, hn2⟩ : ∃ n2, n2 = bs[k] := ⟨_, rfl⟩
      have d1 : SlB A v1 e1 := hda (((⟨p1, e1, ⟨a1, a2, a3, a4, a5, a6, a7, a8, a9, a10⟩⟩ : ToldD), v1)) (by rw [hn1]; exact List.getElem_mem _)
      have d2 : SlB A v2 e2 := hdb (((⟨p2, e2, ⟨b1, b2, b3, b4, b5, b6, b7, b8, b9, b10⟩⟩ : ToldD), v2)) (by rw [hn2]; exact List.getElem_mem _)
      have t1 : (ls.take (k + 1)).map (·.1) = (ls.take k).map (·.1) ++ [(⟨p1, e1, ⟨a1, a2, a3, a4, a5, a6, a7, a8, a9, a10⟩⟩ : ToldD)] := by rw [List.take_succ_eq_append_getElem hkl, List.map_append, ← hn1]; rfl
      have t2 : (bs.take (k + 1)).map (·.1) = (bs.take k).map (·.1) ++ [(⟨p2, e2, ⟨b1, b2, b3, b4, b5, b6, b7, b8, b9, b10⟩⟩ : ToldD)] := by rw [List.take_succ_eq_append_getElem (by omega), List.map_append, ← hn2]; rfl
      rw [← hn1] at r1
      rw [← hn2] at r2
      obtain ⟨x1, c1, rfl⟩ := d1.1.form
      obtain ⟨x2, c2, rfl⟩ := d2.1.form
      have r1 : A.rd g (o + k * 12) 12 = some [.string p1, .slice x1 e1.length c1, .int .i64 a1, .int .i64 a2, .int .i64 a3, .int .i64 a4, .int .i64 a5, .int .i64 a6, .int .i64 a7, .int .i64 a8, .int .i64 a9, .int .i64 a10] := r1
      have r2 : A.rd g' (o' + k * 12) 12 = some [.string p2, .slice x2 e2.length c2, .int .i64 b1, .int .i64 b2, .int .i64 b3, .int .i64 b4, .int .i64 b5, .int .i64 b6, .int .i64 b7, .int .i64 b8, .int .i64 b9, .int .i64 b10] := r2
      conv => lhs; whnf
      refine go_in ⟨by show (0 : Int) ≤ (k : Int); omega, by show (k : Int) < (ls.length : Int); omega⟩ ?_
      conv => lhs; whnf
      refine go_rd r1 ?_
      conv => lhs; whnf
      refine go_in ⟨by show (0 : Int) ≤ (k : Int); omega, by show (k : Int) < (bs.length : Int); omega⟩ ?_
      conv => lhs; whnf
      refine go_rd r2 ?_
      conv => lhs; whnf
      refine (hD _).2 ⟨(((⟨p1, e1, ⟨a1, a2, a3, a4, a5, a6, a7, a8, a9, a10⟩⟩ : ToldD), .slice x1 e1.length c1), ((⟨p2, e2, ⟨b1, b2, b3, b4, b5, b6, b7, b8, b9, b10⟩⟩ : ToldD), .slice x2 e2.length c2)), ⟨rfl, d1, d2⟩, fun v A' hq => ?_⟩
      obtain ⟨hA, rfl⟩ : A = A' ∧ v = .bool (decide ((⟨p1, e1, ⟨a1, a2, a3, a4, a5, a6, a7, a8, a9, a10⟩⟩ : ToldD) = (⟨p2, e2, ⟨b1, b2, b3, b4, b5, b6, b7, b8, b9, b10⟩⟩ : ToldD))) := ⟨hq.1.symm, hq.2⟩
      subst hA
      conv => lhs; whnf
      refine split_b (fun he => ?_) (fun he => ?_) <;> (conv => lhs; whnf)
      · refine (hD _).2 (hend false ⟨fun h => (by cases h), fun e => ?_⟩)
        have e3 := congrArg (List.take (k + 1)) e
        rw [← List.map_take, ← List.map_take, t1, t2, hk.2] at e3
        have e4 := List.append_cancel_left e3
        injection e4 with e4
        simp [e4] at he
      · have he : (⟨p1, e1, ⟨a1, a2, a3, a4, a5, a6, a7, a8, a9, a10⟩⟩ : ToldD) = (⟨p2, e2, ⟨b1, b2, b3, b4, b5, b6, b7, b8, b9, b10⟩⟩ : ToldD) := by simpa using he
        refine (hD _).2 ⟨(k + 1 : Nat), ⟨⟨by omega, ?_⟩, ⟨inc_slot (by omega), trivial⟩, trivial, rfl⟩, ?_, ⟨rfl, rfl, rfl, rfl, trivial⟩, trivial⟩
        · show (ls.take (k + 1)).map (·.1) = (bs.take (k + 1)).map (·.1)
          rw [t1, t2, hk.2, he]
        · show ls.length - (k + 1) < ls.length - k
          omega
    · have e : k = ls.length := by omega
      refine (hD _).2 (hend true ⟨fun _ => ?_, fun _ => rfl⟩)
      have h := hk.2
      rw [e, List.take_length, hlen, List.take_length] at h
      exact h

def eqSitsS : FSpec := ⟨List SitD × List SitD, fun g vs A => ∃ x y, vs = [x, y] ∧ Sl A 3 g.1.length x (g.1.flatMap sitC) ∧ Sl A 3 g.2.length y (g.2.flatMap sitC) ∧ g.1.length ≤ 1000000 ∧ g.2.length ≤ 1000000, fun g _ A v A' => A' = A ∧ v = .bool (decide (g.1 = g.2))⟩

set_option maxRecDepth 100000 in
set_option maxHeartbeats 0 in
theorem eqSits_ok : FOk Tryz.prog 39 eqSitsS := by
  refine fok_v mixed fun ⟨ls, bs⟩ vs A hp => ?_
  obtain ⟨x, y, rfl, ⟨ao, c, rfl, hc, _, ha1, ha2, ha3⟩, ⟨bo, d, rfl, hd, _, hb1, hb2, hb3⟩, hl1, hl2⟩ : ∃ x y, vs = [x, y] ∧ Sl A 3 ls.length x (ls.flatMap sitC) ∧ Sl A 3 bs.length y (bs.flatMap sitC) ∧ ls.length ≤ 1000000 ∧ bs.length ≤ 1000000 := hp
  refine ⟨noC, tabO Tryz.prog noC noL 60 [(39, 0)], 60, noC_sound _, tabO_sound mixed (noC_sound _) (noL_sound _) _ _, fun blk os out tape D hD => ?_⟩
  have hend : ∀ b : Bool, (b = true ↔ ls = bs) → eqSitsS.post (ls, bs) [] A (.bool b) A := fun b hb => by
    refine ⟨rfl, ?_⟩
    congr 1
    rw [Bool.eq_iff_iff, hb, decide_eq_true_iff]
  conv => lhs; whnf
  refine split_b (fun hb => ?_) (fun hb => ?_) <;> (conv => lhs; whnf)
  · refine (hD _).2 (hend false ⟨fun h => (by cases h), fun e => ?_⟩)
    have e1 := congrArg List.length e
    rw [e1] at hb
    simp at hb
  · have hlen : ls.length = bs.length := by
      have : (ls.length : Int) = bs.length := by simpa using hb
      omega
    refine (hD _).2 ⟨cnt A 13 [0, 1, 11, 12] [] ls.length fun k => ls.take k = bs.take k, ⟨(0 : Nat), ⟨Nat.zero_le _, rfl⟩, ⟨rfl, trivial⟩, trivial, rfl⟩, fun (k : Nat) hk => ⟨⟨trivial, trivial⟩, trivial, ?_⟩⟩
    simp only [cnt] at hk
    conv => lhs; whnf
    refine split_dec (fun hlt => ?_) (fun hlt => ?_) <;> (conv => lhs; whnf)
    · have hkl : k < ls.length := by omega
      obtain ⟨g, o, rfl, hra⟩ := Sl.at_ hc ha1 ha2 ha3 (by omega)
      obtain ⟨g', o', rfl, hrb⟩ := Sl.at_ hd hb1 hb2 hb3 (by omega)
      have r1 := row_at (enc := sitC) (fun _ => rfl) hra k hkl rfl
      have r2 := row_at (enc := sitC) (fun _ => rfl) hrb k (by omega) rfl
      have t1 : ls.take (k + 1) = ls.take k ++ [ls[k]] := by rw [List.take_succ_eq_append_getElem hkl]
      have t2 : bs.take (k + 1) = bs.take k ++ [bs[k]] := by rw [List.take_succ_eq_append_getElem (by omega)]
      obtain ⟨⟨a1, a2, a3⟩, hn1⟩ : ∃ n1, n1 = ls[k] := ⟨_, rfl⟩
      obtain ⟨⟨b1, b2, b3⟩, hn2⟩ : ∃ n2, n2 = bs[k] := ⟨_, rfl⟩
      rw [← hn1] at r1 t1
      rw [← hn2] at r2 t2
      have r1 : A.rd g (o + k * 3) 3 = some [.int .i64 a1, .int .i64 a2, .int .i64 a3] := r1
      have r2 : A.rd g' (o' + k * 3) 3 = some [.int .i64 b1, .int .i64 b2, .int .i64 b3] := r2
      conv => lhs; whnf
      have i1 : (0 : Int) ≤ (k : Int) ∧ (k : Int) < (ls.length : Int) := by omega
      have i2 : (0 : Int) ≤ (k : Int) ∧ (k : Int) < (bs.length : Int) := by omega
      repeat (first | refine go_in i1 ?_ | refine go_in i2 ?_ | refine go_rd r1 ?_ | refine go_rd r2 ?_ | refine go_D hD rfl ?_ | refine go_D hD (by kernel_rfl) ?_
              conv => lhs; whnf)
      refine split_b (fun he => ?_) (fun he => ?_) <;> (conv => lhs; whnf)
      · refine (hD _).2 (hend false ⟨fun h => (by cases h), fun e => ?_⟩)
        have e3 := congrArg (List.take (k + 1)) e
        rw [t1, t2, hk.2] at e3
        have e4 := List.append_cancel_left e3
        injection e4 with e4
        injection e4 with h1 h2 h3
        subst h1 h2 h3
        simp at he
      · have he : (⟨a1, a2, a3⟩ : SitD) = ⟨b1, b2, b3⟩ := by
          simp at he
          rw [he.1, he.2.1, he.2.2]
        refine (hD _).2 ⟨(k + 1 : Nat), ⟨⟨by omega, ?_⟩, ⟨inc_slot (by omega), trivial⟩, trivial, rfl⟩, ?_, ⟨rfl, rfl, rfl, rfl, trivial⟩, trivial⟩
        · show ls.take (k + 1) = bs.take (k + 1)
          rw [t1, t2, hk.2, he]
        · show ls.length - (k + 1) < ls.length - k
          omega
    · have e : k = ls.length := by omega
      refine (hD _).2 (hend true ⟨fun _ => ?_, fun _ => rfl⟩)
      have h := hk.2
      rw [e, List.take_length, hlen, List.take_length] at h
      exact h

def sameS : FSpec := ⟨TG × TG, fun g vs A => vs = [.pointer (some ⟨g.1.t, 0, none⟩), .pointer (some ⟨g.2.t, 0, none⟩)] ∧ TreeAt A g.1.B g.1.O g.1.t g.1.T ∧ TreeAt A g.2.B g.2.O g.2.t g.2.T ∧ TFits g.1.T ∧ TFits g.2.T,
  fun g _ A v A' => A.Sub A' ∧ v = .bool (decide (TSame g.1.T g.2.T))⟩

set_option maxRecDepth 100000 in
set_option maxHeartbeats 0 in
theorem same_ok : FOk Tryz.prog 21 sameS := by
  refine fok_v mixed fun ⟨⟨T, B, O, t⟩, ⟨U, B', O', t'⟩⟩ vs A hp => ?_
  obtain ⟨rfl, hT, hU, ⟨fT1, fT2, fT3⟩, ⟨fU1, fU2, fU3⟩⟩ : vs = [.pointer (some ⟨t, 0, none⟩), .pointer (some ⟨t', 0, none⟩)] ∧ TreeAt A B O t T ∧ TreeAt A B' O' t' U ∧ TFits T ∧ TFits U := hp
  have hCt : CTSound Tryz.prog (lookC [specE 38 allS, specE 32 sittingsS, specE 37 eqNodesS, specE 39 eqSitsS] noC) := lookC_sound (noC_sound _) (fun x hx => by
    simp only [List.mem_cons, List.not_mem_nil, or_false] at hx
    rcases hx with rfl | rfl | rfl | rfl
    · exact specE_ok all_ok
    · exact specE_ok sittings_ok
    · exact specE_ok eqNodes_ok
    · exact specE_ok eqSits_ok)
  refine ⟨_, noL, 60, hCt, noL_sound _, fun blk os out tape D hD => ?_⟩
  have htop : ∃ m, A.rd t 0 1 = some [.map (some m)] := by
    obtain ⟨m, s, E, h⟩ := hT
    exact ⟨m, h.top.rd (o := 0) (n := 1) (by show 0 + 1 ≤ 2; omega)⟩
  have htop' : ∃ m, A.rd t' 0 1 = some [.map (some m)] := by
    obtain ⟨m, s, E, h⟩ := hU
    exact ⟨m, h.top.rd (o := 0) (n := 1) (by show 0 + 1 ≤ 2; omega)⟩
  obtain ⟨m, htop⟩ := htop
  obtain ⟨m', htop'⟩ := htop'
  conv => lhs; whnf
  repeat (first | refine go_rd htop ?_ | refine go_rd htop' ?_ | refine go_D hD rfl ?_
          conv => lhs; whnf)
  refine (hD _).2 ⟨⟨T, B, O, t⟩, ⟨rfl, hT, fT2⟩, fun v A1 hq => ?_⟩
  obtain ⟨s1, hN1⟩ : A.Sub A1 ∧ NodesS (A1.minus A) v (treeAll T) := hq
  obtain ⟨a1, c1, rfl⟩ := hN1.choose_spec.2.1.form
  conv => lhs; whnf
  refine (hD _).2 ⟨⟨U, B', O', t'⟩, ⟨rfl, TreeAt_sub hU s1, fU2⟩, fun v A2 hq => ?_⟩
  obtain ⟨s2, hN2⟩ : A1.Sub A2 ∧ NodesS (A2.minus A1) v (treeAll U) := hq
  obtain ⟨a2, c2, rfl⟩ := hN2.choose_spec.2.1.form
  obtain ⟨l1, hl1, hR1⟩ := nodesR_of hN1 ((minus_sub A A1).trans s2)
  obtain ⟨l2, hl2, hR2⟩ := nodesR_of hN2 (minus_sub A1 A2)
  have e1 : l1.length = (treeAll T).length := by rw [← hl1, List.length_map]
  have e2 : l2.length = (treeAll U).length := by rw [← hl2, List.length_map]
  conv => lhs; whnf
  refine (hD _).2 ⟨(l1, l2), ⟨_, _, rfl, hR1, hR2, by show l1.length ≤ _; rw [e1, treeAll_len]; exact fT2, by show l2.length ≤ _; rw [e2, treeAll_len]; exact fU2⟩, fun v A3 hq => ?_⟩
  obtain ⟨hA3, rfl⟩ : A2 = A3 ∧ v = .bool (decide (l1.map (·.1) = l2.map (·.1))) := ⟨hq.1.symm, hq.2⟩
  subst hA3
  rw [hl1, hl2]
  conv => lhs; whnf
  have hend : ∀ (b : Bool) Ak, A.Sub Ak → (b = true ↔ TSame T U) → sameS.post (⟨T, B, O, t⟩, ⟨U, B', O', t'⟩) [.pointer (some ⟨t, 0, none⟩), .pointer (some ⟨t', 0, none⟩)] A (.bool b) Ak := fun b Ak hk hb => by
    refine ⟨hk, ?_⟩
    congr 1
    rw [Bool.eq_iff_iff, hb, decide_eq_true_iff]
  refine split_dec (fun hall => ?_) (fun hall => ?_) <;> (conv => lhs; whnf)
  rotate_left
  · exact (hD _).2 (hend false A2 (s1.trans s2) ⟨fun h => (by cases h), fun h => absurd h.1 hall⟩)
  refine (hD _).2 ⟨⟨T, B, O, t⟩, ⟨rfl, TreeAt_sub hT (s1.trans s2), fT1, fT3⟩, fun v A4 hq => ?_⟩
  obtain ⟨s4, hS4⟩ : A2.Sub A4 ∧ Sl (A4.minus A2) 3 (treeSits T).length v ((treeSits T).flatMap sitC) := hq
  obtain ⟨a4, c4, rfl⟩ := hS4.form
  conv => lhs; whnf
  refine (hD _).2 ⟨⟨U, B', O', t'⟩, ⟨rfl, TreeAt_sub hU (s1.trans (s2.trans s4)), fU1, fU3⟩, fun v A5 hq => ?_⟩
  obtain ⟨s5, hS5⟩ : A4.Sub A5 ∧ Sl (A5.minus A4) 3 (treeSits U).length v ((treeSits U).flatMap sitC) := hq
  obtain ⟨a5, c5, rfl⟩ := hS5.form
  conv => lhs; whnf
  refine (hD _).2 ⟨(treeSits T, treeSits U), ⟨_, _, rfl, hS4.sub ((minus_sub A2 A4).trans s5), hS5.sub (minus_sub A4 A5), by show (treeSits T).length ≤ _; rw [treeSits_len]; exact fT3, by show (treeSits U).length ≤ _; rw [treeSits_len]; exact fU3⟩, fun v A6 hq => ?_⟩
  obtain ⟨hA6, rfl⟩ : A5 = A6 ∧ v = .bool (decide (treeSits T = treeSits U)) := ⟨hq.1.symm, hq.2⟩
  subst hA6
  conv => lhs; whnf
  exact (hD _).2 (hend _ A5 (s1.trans (s2.trans (s4.trans s5))) (by show decide (treeSits T = treeSits U) = true ↔ _; rw [decide_eq_true_iff]; exact ⟨fun h => ⟨hall, h⟩, fun h => h.2⟩))

end
end Go.Proofs.YtfpfjobknefedaaGreatDoor

namespace Go.Proofs.YtfpfjobknefedaaGreatDoor
open Go.Sx Go.RowKit
noncomputable section
open Classical

/-! ### Whose blocks -/

def RvB (v : Value) (k : Nat) : Prop := ∃ o l c, v = .slice (some ⟨k, o, none⟩) l c

theorem rv_nil {k n c : Nat} : ¬ RvB (.slice none n c) k := fun ⟨_, _, _, h⟩ => by cases h

theorem grow_own {A1 A : Arena} {es n : Nat} {e : TypeId} {v : Value} {cs : List Value} (h : GrowR A1 A es e n v cs) {k : Nat} (hk : RvB v k) : (∃ o, A.blk k = some o) ∧ A1.blk k = none := by
  obtain ⟨o, l, c, hv⟩ := hk
  obtain ⟨h1, ⟨_, h2⟩ | ⟨g, nc, c', h3, h4, h4', h5, h6, h7⟩⟩ := h
  · rw [hv] at h2; cases h2
  · rw [hv] at h3
    injection h3 with h3 _ _
    injection h3 with h3
    injection h3 with h3 _ _
    subst h3
    exact ⟨⟨_, h6⟩, h5⟩

def restA (A : Arena) (P : Nat → Prop) : Arena := Arena.of fun k => if P k then none else A.blk k

theorem rest_sub (A : Arena) (P : Nat → Prop) : (restA A P).Sub A := fun k o h => by
  have h : (if P k then none else A.blk k) = some o := h
  split at h
  · cases h
  · exact h

theorem rest_at {A : Arena} {P : Nat → Prop} {k : Nat} (h : ¬ P k) : (restA A P).blk k = A.blk k := if_neg h
theorem rest_no {A : Arena} {P : Nat → Prop} {k : Nat} (h : P k) : (restA A P).blk k = none := if_pos h

/-- An append to one row: what it leaves. -/
theorem grow_put {A0 A : Arena} {es n c : Nat} {e : TypeId} {base : Option (Nat × Nat)} {cs : List Value} (h : GrowR A0 A es e n (.slice (addrA base) n c) cs) (h0 : A0.Sub A) {m : Nat} {ys : List Value} {v' : Value} {A' : Arena} (hy : ys.length = m * es) (ha : Appended A base n c es e cs ys m v' A') :
    GrowR A0 A' es e (n + m) v' (cs ++ ys) ∧ (∀ k o, A.blk k = some o → ¬ RvB (.slice (addrA base) n c) k → A'.blk k = some o) ∧ ∀ k, RvB v' k → RvB (.slice (addrA base) n c) k ∨ A.blk k = none := by
  have hX : GrowR (restA A (RvB (.slice (addrA base) n c))) A es e n (.slice (addrA base) n c) cs := by
    obtain ⟨h1, h2 | ⟨g, nc, c', h3, h4, h4', h5, h6, h7⟩⟩ := h
    · exact ⟨h1, .inl h2⟩
    · exact ⟨h1, .inr ⟨g, nc, c', h3, h4, h4', rest_no ⟨_, _, _, h3⟩, h6, h7⟩⟩
  obtain ⟨h1, h2⟩ := hX.formB.2 m ys v' A' hy (fun k hk => by
    by_cases hr : RvB (.slice (addrA base) n c) k
    · exact rest_no hr
    · rw [rest_at hr]; exact hk) ha
  refine ⟨(h.formB.2 m ys v' A' hy (fun k hk => ?_) ha).1, fun k o hk hr => ?_, fun k hk => ?_⟩
  · cases h9 : A0.blk k with
    | none => rfl
    | some o => rw [h0 k o h9] at hk; cases hk
  · rw [h2 k o (by rw [rest_at hr]; exact hk)]
    exact hk
  · have h3 := (grow_own h1 hk).2
    by_cases hr : RvB (.slice (addrA base) n c) k
    · exact .inl hr
    · rw [rest_at hr] at h3
      exact .inr h3

theorem grow_keepV {A0 A A' : Arena} {es n : Nat} {e : TypeId} {v : Value} {cs : List Value} (h : GrowR A0 A es e n v cs) (hk : ∀ k o, A.blk k = some o → RvB v k → A'.blk k = some o) : GrowR A0 A' es e n v cs := by
  obtain ⟨h1, h2 | ⟨g, nc, c, h3, h4, h4', h5, h6, h7⟩⟩ := h
  · exact ⟨h1, .inl h2⟩
  · exact ⟨h1, .inr ⟨g, nc, c, h3, h4, h4', h5, hk g _ h6 ⟨_, _, _, h3⟩, h7⟩⟩

theorem Aside.sub {A A' C : Arena} {O : Nat → Prop} (h : Aside A C O) (hs : A.Sub A') : Aside A' C O := ⟨h.1.trans hs, h.2⟩

/-- A tree that changes, and one that was made of it just ahead. -/
theorem was_step {A A' B1 B1' B2 : Arena} {O1 O1' O2 : Nat → Prop} {t1 t2 : Nat} {T1 T2 : TreeD} {A0 : Arena} (h1 : TreeAt A0 B1 O1 t1 T1) (h2 : TreeAt A B2 O2 t2 T2) (hO : ∀ k, O2 k → A0.blk k = none) (hB : ∀ k o, B2.blk k = some o → A0.blk k = none) (s : Step A B1 O1 A' B1' O1') : TreeAt A' B2 O2 t2 T2 := by
  obtain ⟨m, s', E, h⟩ := h2
  obtain ⟨m1, s1, E1, g⟩ := h1
  refine ⟨m, s', E, h.frame (fun k hk => ?_) (s.stays h.sub fun k o hb h1 => ?_)⟩
  · obtain ⟨o, ho⟩ := h.live k hk
    rw [ho, s.keep k o ho fun h1 => ?_]
    obtain ⟨o', ho'⟩ := g.live k h1
    rw [hO k hk] at ho'; cases ho'
  · obtain ⟨o', ho'⟩ := g.live k h1
    rw [hB k o hb] at ho'; cases ho'

/-! ### Sizes of copies -/

theorem kPut_fold_len {κ α : Type} [BEq κ] : ∀ (l m : List (κ × α)), (l.foldl (fun m e => kPut e.1 e.2 m) m).length ≤ m.length + l.length
  | [], m => by simp
  | e :: l, m => by
    have h1 := kPut_fold_len l (kPut e.1 e.2 m)
    have h2 := kPut_len e.1 e.2 m
    rw [List.foldl_cons, List.length_cons]
    omega

theorem seat_fold_len : ∀ (l : List SitD) (m : List (Int × SitD)), (l.foldl seatOne m).length ≤ m.length + l.length
  | [], m => by simp
  | x :: l, m => by
    have h1 := seat_fold_len l (seatOne m x)
    have h2 : (seatOne m x).length ≤ m.length + 1 := by
      unfold seatOne
      split
      · omega
      · exact kPut_len _ _ _
    rw [List.foldl_cons, List.length_cons]
    omega

theorem copy_len {T : TreeD} {E sk : List (ByteArray × Nat × NodeD)} (hE : T.nodes = kMap (·.2) E) (hp : sk.Perm E) {n m : Nat} (hn : T.nodes.length ≤ n) (hm : T.seats.length ≤ m) : (copyNodes sk).length ≤ n + 1 ∧ (seatsOf (treeSits T)).length ≤ m := by
  constructor
  · have h1 : copyNodes sk = (kMap (·.2) sk).foldl (fun m e => kPut e.1 e.2 m) treeNew.nodes := by
      unfold copyNodes kMap
      rw [List.foldl_map]
    have h2 := kPut_fold_len (kMap (·.2) sk) treeNew.nodes
    have h3 : (kMap (·.2) sk).length = T.nodes.length := by rw [hE, kMap, kMap, List.length_map, List.length_map, hp.length_eq]
    have h4 : treeNew.nodes.length = 1 := rfl
    rw [h1]; omega
  · have h2 := seat_fold_len (treeSits T) []
    rw [treeSits_len] at h2
    show ((treeSits T).foldl seatOne []).length ≤ m
    simp only [List.length_nil] at h2
    omega

theorem seatsOk_of {T U : TreeD} (h : TEq T U) (hT : TOk T) (hU : ND U) : SeatsOk U := fun e he => by
  have h1 := (kGet_some hU.2).2 (show (e.1, e.2) ∈ U.seats from he)
  rw [← h.2] at h1
  exact (hT.ses _ _ h1).1

/-! ### What all of a tree tells of one node -/

theorem all_mem {T : TreeD} (x : ToldD) : x ∈ treeAll T ↔ ∃ q n, kGet q T.nodes = some n ∧ x = ⟨q, n.data, { n.stat with len := n.data.length, kids := kidsN T q }⟩ := by
  unfold treeAll
  rw [List.mem_map]
  constructor
  · rintro ⟨l, hl, rfl⟩
    obtain ⟨n, hn⟩ := all_get hl
    exact ⟨_, n, hn, told_some hn⟩
  · rintro ⟨q, n, hn, rfl⟩
    obtain ⟨e, he, h1⟩ := List.mem_map.1 (kGet_iff.1 (show kGet q T.nodes ≠ none by rw [hn]; simp))
    refine ⟨pathL q, (sortL_perm _).mem_iff.2 (List.mem_map.2 ⟨e, he, by rw [h1]⟩), ?_⟩
    rw [bytesOf_pathL, told_some hn]

/-- Where both tell the same, a node is there in both, and was set last at the same time. -/
theorem same_get {T U : TreeD} (h : TSame T U) {q : ByteArray} {x : NodeD} (hx : kGet q T.nodes = some x) : ∃ y, kGet q U.nodes = some y ∧ y.stat.mzxid = x.stat.mzxid := by
  have hm := (all_mem (T := T) _).2 ⟨q, x, hx, rfl⟩
  rw [h.1] at hm
  obtain ⟨q', n, hn, he⟩ := (all_mem _).1 hm
  injection he with e1 e2 e3
  injection e3 with _ e4
  rw [← e1] at hn
  exact ⟨n, hn, e4.symm⟩

/-- A change that fits is seen, if it is right. -/
theorem change_seen {T W : TreeD} {d : DeedD} {L : Int} (hW : TEq T W) (hn : ND T) (hr : RightD d) (hL : ∀ q, ZLe (kGet q T.nodes) L) (hz : L < d.h.zxid) (hf : FitN d.h fun q => kGet q T.nodes) (h2 : d.h.kind = 2 ∨ d.h.kind = 3 → kGet d.h.path T.nodes ≠ none) : ¬ TSame W (treeApply T d) := fun hs => by
  obtain ⟨_, h1, _⟩ := apply_all hn d
  have h1 := h1 d.h.path
  have hdo : doF d d.h.path (kGet d.h.path T.nodes) = chgF d.h d.h.zxid d.h.time d.h.path (kGet d.h.path T.nodes) := if_pos hf.kind
  rw [if_pos hr, hdo] at h1
  have hs' : TSame (treeApply T d) W := ⟨hs.1.symm, hs.2.symm⟩
  rcases chg_view d.h d.h.zxid d.h.time d.h.path (kGet d.h.path T.nodes) hf.kind with ⟨k, _, y, e1, e2, e3, e4⟩ | ⟨k, _, e1⟩ | ⟨k, _, e1⟩ | ⟨k, e, _⟩ | ⟨e, _⟩
  · rw [e1] at h1
    obtain ⟨y', hy, _⟩ := same_get hs' h1
    rw [← hW.1] at hy
    rcases hf with ⟨_, hf⟩ | hf | hf
    · have hf : kGet d.h.path T.nodes = none := hf
      rw [hf] at hy; cases hy
    · omega
    · omega
  · rw [e1] at h1
    obtain ⟨x, hx⟩ := Option.ne_none_iff_exists'.1 (h2 (.inl k))
    have hx' := hx
    rw [hW.1] at hx'
    obtain ⟨y, hy, _⟩ := same_get hs hx'
    rw [h1] at hy; cases hy
  · rcases e1 with ⟨e1, _⟩ | ⟨x, y, e1, e2, _, e3, _⟩
    · exact h2 (.inr k) e1
    · rw [e2] at h1
      have hx' := e1
      rw [hW.1] at hx'
      obtain ⟨y', hy, he⟩ := same_get hs hx'
      rw [h1] at hy
      injection hy with hy
      subst hy
      have := (hL _ x e1).2.1
      omega
  · exact absurd rfl e
  · exact absurd rfl e

/-- What is not right changes nothing. -/
theorem unseen {T W : TreeD} {d : DeedD} (hW : TEq T W) (hn : ND T) (hw : ND W) (hr : ¬ RightD d) : TSame W (treeApply T d) := by
  have e : treeApply T d = T := by unfold treeApply; rw [if_neg hr]
  rw [e]
  exact TEq.same ⟨fun q => (hW.1 q).symm, fun s => (hW.2 s).symm⟩ hw hn

/-! ### A get, in explicit cells -/

theorem got_form {A A' : Arena} {T : TreeD} {p : ByteArray} {v : Value} (h : GotV A A' T p v) : ∃ (n : NdD) (ad : Option Addr) (ld cd : Nat), v = .tuple #[.agg (n.cells (.slice ad ld cd)).toArray, .bool (kGet p T.nodes).isSome] ∧ ∀ x, kGet p T.nodes = some x → n.czxid = x.stat.czxid ∧ n.mzxid = x.stat.mzxid ∧ n.pzxid = x.stat.pzxid := by
  unfold GotV at h
  cases hk : kGet p T.nodes with
  | none =>
    rw [hk] at h
    exact ⟨⟨⟨#[]⟩, 0, 0, 0, 0, 0, 0, 0, 0, 0, 0⟩, none, 0, 0, h, fun _ h => by cases h⟩
  | some n =>
    rw [hk] at h
    obtain ⟨vd, hv, hd⟩ := h
    obtain ⟨ad, cd, rfl⟩ := hd.1.form
    exact ⟨⟨p, n.stat.czxid, n.stat.mzxid, n.stat.pzxid, n.stat.ctime, n.stat.mtime, n.stat.ver, n.stat.cver, n.stat.owner, n.data.length, (treeKids T p).length⟩, ad, _, cd, hv, fun x hx => by
      injection hx with hx
      subst hx
      exact ⟨rfl, rfl, rfl⟩⟩

/-! ### fits -/

def FitT (h : DeedH) (T : TreeD) : Prop := (h.kind = 1 ∧ kGet h.path T.nodes = none) ∨ ((h.kind = 2 ∨ h.kind = 3) ∧ kGet h.path T.nodes ≠ none)

theorem FitT.n {h : DeedH} {T : TreeD} (hf : FitT h T) : FitN h fun q => kGet q T.nodes := by
  rcases hf with h | ⟨h | h, _⟩
  · exact .inl h
  · exact .inr (.inl h)
  · exact .inr (.inr h)

def fit19S : FSpec := ⟨TG × DeedH, fun g vs A => ∃ a1 l1 k1 a2 l2 k2 a3 l3 k3, vs = [.pointer (some ⟨g.1.t, 0, none⟩), deedV (g.2.cells (.slice a1 l1 k1) (.slice a2 l2 k2) (.slice a3 l3 k3))] ∧ TreeAt A g.1.B g.1.O g.1.t g.1.T ∧ g.1.T.nodes.length ≤ 1000000,
  fun g _ A v A' => A.Sub A' ∧ ∃ b, v = .bool b ∧ (b = true → FitT g.2 g.1.T)⟩

set_option maxRecDepth 100000 in
set_option maxHeartbeats 0 in
theorem fit19_ok : FOk Tryz.prog 19 fit19S := by
  refine fok_v mixed fun ⟨⟨T, B, O, t⟩, ⟨zxid, kind, ses, turn, xid, dtime, path, data, owner, ver, cver, tmo, err, cfg, mem⟩⟩ vs A hp => ?_
  obtain ⟨a1, l1, k1, a2, l2, k2, a3, l3, k3, rfl, hT, hlen⟩ : ∃ a1 l1 k1 a2 l2 k2 a3 l3 k3, vs = [.pointer (some ⟨t, 0, none⟩), deedV (DeedH.cells ⟨zxid, kind, ses, turn, xid, dtime, path, data, owner, ver, cver, tmo, err, cfg, mem⟩ (.slice a1 l1 k1) (.slice a2 l2 k2) (.slice a3 l3 k3))] ∧ TreeAt A B O t T ∧ T.nodes.length ≤ 1000000 := hp
  have hC : CTSound Tryz.prog (lookC [specE 8 getS, specE 33 parentS] noC) := lookC_sound (noC_sound _) (fun x hx => by
    simp only [List.mem_cons, List.not_mem_nil, or_false] at hx
    rcases hx with rfl | rfl
    · exact specE_ok get_ok
    · exact specE_ok parent_ok)
  refine ⟨_, noL, 60, hC, noL_sound _, fun blk os' out tape D hD => ?_⟩
  conv => lhs; whnf
  refine (hD _).2 ⟨((⟨T, B, O, t⟩ : TG), path), ⟨rfl, hT, hlen⟩, fun v A1 hq => ?_⟩
  obtain ⟨s1, hg⟩ : A.Sub A1 ∧ GotV A A1 T path v := hq
  obtain ⟨⟨q1, q2, q3, q4, q5, q6, q7, q8, q9, q10, q11⟩, ad, ld, cd, hv, _⟩ := got_form hg
  subst hv
  have hT1 := TreeAt_sub hT s1
  obtain ⟨b1, hb1⟩ : ∃ b, (kGet path T.nodes).isSome = b := ⟨_, rfl⟩
  rw [hb1]
  conv => lhs; whnf
  refine (hD _).2 ⟨path, rfl, fun v A2 hq => ?_⟩
  obtain ⟨h9, hv⟩ : A2 = A1 ∧ v = .string (parentP path) := hq
  subst h9; subst hv
  conv => lhs; whnf
  refine (hD _).2 ⟨((⟨T, B, O, t⟩ : TG), parentP path), ⟨rfl, hT1, hlen⟩, fun v A3 hq => ?_⟩
  obtain ⟨s3, hg3⟩ : A2.Sub A3 ∧ GotV A2 A3 T (parentP path) v := hq
  obtain ⟨⟨r1, r2, r3, r4, r5, r6, r7, r8, r9, r10, r11⟩, ae, le, ce, hv, _⟩ := got_form hg3
  subst hv
  obtain ⟨b2, hb2⟩ : ∃ b, (kGet (parentP path) T.nodes).isSome = b := ⟨_, rfl⟩
  rw [hb2]
  have hend : ∀ b, (b = true → FitT ⟨zxid, kind, ses, turn, xid, dtime, path, data, owner, ver, cver, tmo, err, cfg, mem⟩ T) → fit19S.post ((⟨T, B, O, t⟩ : TG), ⟨zxid, kind, ses, turn, xid, dtime, path, data, owner, ver, cver, tmo, err, cfg, mem⟩) [] A (.bool b) A3 := fun b h => ⟨s1.trans s3, b, rfl, h⟩
  have hnone : b1 = false → kGet path T.nodes = none := fun h => by
    rw [h] at hb1
    exact Option.not_isSome_iff_eq_none.1 (by rw [hb1]; decide)
  have hsome : b1 = true → kGet path T.nodes ≠ none := fun h hn => by
    rw [h, hn] at hb1
    cases hb1
  cases b1 <;> cases b2 <;> (conv => lhs; whnf)
  all_goals (refine split_dec (fun c1 => ?_) (fun c1 => ?_) <;> (conv => lhs; whnf))
  all_goals (try exact (hD _).2 (hend _ fun h => absurd h (by decide)))
  all_goals (try exact (hD _).2 (hend _ fun _ => .inl ⟨c1, hnone rfl⟩))
  all_goals (refine split_dec (fun c2 => ?_) (fun c2 => ?_) <;> (conv => lhs; whnf))
  all_goals (try exact (hD _).2 (hend _ fun h => absurd h (by decide)))
  all_goals (try exact (hD _).2 (hend _ fun _ => .inr ⟨.inl c2, hsome rfl⟩))
  all_goals (refine split_dec (fun c3 => ?_) (fun c3 => ?_) <;> (conv => lhs; whnf))
  all_goals (try exact (hD _).2 (hend _ fun h => absurd h (by decide)))
  all_goals (try exact (hD _).2 (hend _ fun _ => .inr ⟨.inr c3, hsome rfl⟩))

end
end Go.Proofs.YtfpfjobknefedaaGreatDoor

namespace Go.Proofs.YtfpfjobknefedaaGreatDoor
open Go.Sx Go.RowKit
noncomputable section
open Classical

theorem DeedsR.snoc {B : Arena} : ∀ {ds : List DeedD} {rows : List (List Value)} {d : DeedD} {r : List Value}, DeedsR B ds rows → DeedR B d r → DeedsR B (ds ++ [d]) (rows ++ [r])
  | [], rows, d, r, h, hd => by
    obtain rfl : rows = [] := h
    exact ⟨r, [], rfl, hd, rfl⟩
  | x :: ds, rows, d, r, h, hd => by
    obtain ⟨r0, rs, rfl, h1, h2⟩ := h
    exact ⟨r0, rs ++ [r], rfl, h1, DeedsR.snoc h2 hd⟩

/-- Trees that stay. -/
def CopiesR (C : Arena) (ts : List Nat) (N : Nat → ByteArray → Option NodeD) : Prop := ∀ i (h : i < ts.length), ∃ B O T, TreeAt C B O ts[i] T ∧ T.nodes.length ≤ 1000000 ∧ ∀ q, kGet q T.nodes = N i q

theorem CopiesR.sub {C C' : Arena} {ts : List Nat} {N : Nat → ByteArray → Option NodeD} (h : CopiesR C ts N) (hs : C.Sub C') : CopiesR C' ts N := fun i hi => by
  obtain ⟨B, O, T, h1, h2, h3⟩ := h i hi
  exact ⟨B, O, T, TreeAt_sub h1 hs, h2, h3⟩

theorem CopiesR.snoc {C : Arena} {ts : List Nat} {N N' : Nat → ByteArray → Option NodeD} {t : Nat} (h : CopiesR C ts N) (hN : ∀ i, i < ts.length → ∀ q, N' i q = N i q) (ht : ∃ B O T, TreeAt C B O t T ∧ T.nodes.length ≤ 1000000 ∧ ∀ q, kGet q T.nodes = N' ts.length q) : CopiesR C (ts ++ [t]) N' := fun i hi => by
  rw [List.length_append, List.length_singleton] at hi
  by_cases hl : i < ts.length
  · obtain ⟨B, O, T, h1, h2, h3⟩ := h i hl
    rw [List.getElem_append_left hl]
    exact ⟨B, O, T, h1, h2, fun q => by rw [h3, hN i hl]⟩
  · have e : i = ts.length := by omega
    subst e
    rw [List.getElem_append_right (by omega)]
    simpa using ht

/-- The memory: the tree that changes, the row of deeds, the row of copies. -/
structure FtM (A0 A B C : Arena) (O : Nat → Prop) (t : Nat) (T : TreeD) (dv tv : Value) (nd nt : Nat) (fl ps : List Value) : Prop where
  sub : A0.Sub C
  tree : TreeAt A B O t T
  aside : Aside A C O
  drow : GrowR A0 A 16 53 nd dv fl
  trow : GrowR A0 A 1 37 nt tv ps
  dO : ∀ k, RvB dv k → ¬ O k ∧ C.blk k = none ∧ B.blk k = none ∧ ¬ RvB tv k
  tO : ∀ k, RvB tv k → ¬ O k ∧ C.blk k = none ∧ B.blk k = none

theorem FtM.more {A0 A B C A' : Arena} {O : Nat → Prop} {t : Nat} {T : TreeD} {dv tv : Value} {nd nt : Nat} {fl ps : List Value} (h : FtM A0 A B C O t T dv tv nd nt fl ps) (hs : A.Sub A') : FtM A0 A' B C O t T dv tv nd nt fl ps :=
  ⟨h.sub, TreeAt_sub h.tree hs, h.aside.sub hs, h.drow.sub hs, h.trow.sub hs, h.dO, h.tO⟩

theorem FtM.step {A0 A B C A' B' : Arena} {O O' : Nat → Prop} {t : Nat} {T T' : TreeD} {dv tv : Value} {nd nt : Nat} {fl ps : List Value} (h : FtM A0 A B C O t T dv tv nd nt fl ps) (hT : TreeAt A' B' O' t T') (s : Step A B O A' B' O') : FtM A0 A' B' C O' t T' dv tv nd nt fl ps := by
  have key : ∀ {es n : Nat} {e : TypeId} {v : Value} {cs : List Value}, GrowR A0 A es e n v cs → (∀ k, RvB v k → ¬ O k ∧ C.blk k = none ∧ B.blk k = none) → GrowR A0 A' es e n v cs ∧ ∀ k, RvB v k → ¬ O' k ∧ C.blk k = none ∧ B'.blk k = none := fun {es n e v cs} hg hv => by
    refine ⟨grow_keepV hg fun k o ho hk => s.keep k o ho (hv k hk).1, fun k hk => ?_⟩
    obtain ⟨⟨o, ho⟩, -⟩ := grow_own hg hk
    obtain ⟨h1, h2, h3⟩ := hv k hk
    refine ⟨fun h9 => ?_, h2, ?_⟩
    · rcases s.own k h9 with h9 | h9
      · exact h1 h9
      · rw [ho] at h9; cases h9
    · cases hb : B'.blk k with
      | none => rfl
      | some o' =>
        rcases s.new k o' hb with h9 | h9
        · rw [h3] at h9; cases h9
        · rw [ho] at h9; cases h9
  obtain ⟨d1, d2⟩ := key h.drow fun k hk => ⟨(h.dO k hk).1, (h.dO k hk).2.1, (h.dO k hk).2.2.1⟩
  obtain ⟨t1, t2⟩ := key h.trow h.tO
  exact ⟨h.sub, hT, h.aside.step s, d1, t1, fun k hk => ⟨(d2 k hk).1, (d2 k hk).2.1, (d2 k hk).2.2, (h.dO k hk).2.2.2⟩, t2⟩

theorem FtM.live {A0 A B C : Arena} {O : Nat → Prop} {t : Nat} {T : TreeD} {dv tv : Value} {nd nt : Nat} {fl ps : List Value} (h : FtM A0 A B C O t T dv tv nd nt fl ps) {k : Nat} (hk : A.blk k = none) : ¬ O k ∧ C.blk k = none ∧ B.blk k = none ∧ ¬ RvB tv k ∧ ¬ RvB dv k := by
  obtain ⟨m, s', E, hR⟩ := h.tree
  refine ⟨fun h9 => ?_, ?_, ?_, fun h9 => ?_, fun h9 => ?_⟩
  · obtain ⟨o, ho⟩ := hR.live k h9
    rw [hk] at ho; cases ho
  · cases hc : C.blk k with
    | none => rfl
    | some o => rw [h.aside.1 k o hc] at hk; cases hk
  · cases hc : B.blk k with
    | none => rfl
    | some o => rw [hR.sub k o hc] at hk; cases hk
  · obtain ⟨⟨o, ho⟩, -⟩ := grow_own h.trow h9
    rw [hk] at ho; cases ho
  · obtain ⟨⟨o, ho⟩, -⟩ := grow_own h.drow h9
    rw [hk] at ho; cases ho

theorem FtM.a0 {A0 A B C : Arena} {O : Nat → Prop} {t : Nat} {T : TreeD} {dv tv : Value} {nd nt : Nat} {fl ps : List Value} (h : FtM A0 A B C O t T dv tv nd nt fl ps) : A0.Sub A := h.sub.trans h.aside.1

/-- A deed more. -/
theorem FtM.pushD {A0 A B C A' : Arena} {O : Nat → Prop} {t : Nat} {T : TreeD} {base : Option (Nat × Nat)} {c : Nat} {tv v' : Value} {nd nt : Nat} {fl ps row : List Value} (h : FtM A0 A B C O t T (.slice (addrA base) nd c) tv nd nt fl ps) (hrow : row.length = 16) (ha : Appended A base nd c 16 53 fl row 1 v' A') : FtM A0 A' B C O t T v' tv (nd + 1) nt (fl ++ row) ps := by
  obtain ⟨h1, h2, h3⟩ := grow_put h.drow h.a0 (by rw [hrow]) ha
  have hR := h.tree
  obtain ⟨m, s', E, hR⟩ := hR
  refine ⟨h.sub, h.tree.frame (fun k hk => ?_) (fun k o hb => ?_), ⟨fun k o hc => ?_, h.aside.2⟩, h1, grow_keepV h.trow fun k o ho hk => ?_, fun k hk => ?_, h.tO⟩
  · obtain ⟨o, ho⟩ := hR.live k hk
    rw [ho, h2 k o ho fun h9 => (h.dO k h9).1 hk]
  · exact h2 k o (hR.sub k o hb) fun h9 => by rw [(h.dO k h9).2.2.1] at hb; cases hb
  · exact h2 k o (h.aside.1 k o hc) fun h9 => by rw [(h.dO k h9).2.1] at hc; cases hc
  · exact h2 k o ho fun h9 => (h.dO k h9).2.2.2 hk
  · rcases h3 k hk with h9 | h9
    · exact h.dO k h9
    · obtain ⟨l1, l2, l3, l4, _⟩ := h.live h9
      exact ⟨l1, l2, l3, l4⟩

/-- A copy more. -/
theorem FtM.pushT {A0 A B C A' B1 : Arena} {O O1 : Nat → Prop} {t t1 : Nat} {T T1 : TreeD} {base : Option (Nat × Nat)} {c : Nat} {dv v' : Value} {nd : Nat} {ts : List Nat} {fl : List Value} {N N' : Nat → ByteArray → Option NodeD} (h : FtM A0 A B C O t T dv (.slice (addrA base) ts.length c) nd ts.length fl (ts.map ptrV)) (hcop : CopiesR C ts N)
    (h1 : TreeAt A B1 O1 t1 T1) (hO1 : ∀ k, O1 k → ¬ O k ∧ ¬ RvB dv k ∧ ¬ RvB (.slice (addrA base) ts.length c) k) (hB1 : ∀ k o, B1.blk k = some o → ¬ O k ∧ ¬ RvB dv k ∧ ¬ RvB (.slice (addrA base) ts.length c) k)
    (hN : ∀ i, i < ts.length → ∀ q, N' i q = N i q) (hN1 : ∀ q, kGet q T1.nodes = N' ts.length q) (hl1 : T1.nodes.length ≤ 1000000)
    (ha : Appended A base ts.length c 1 37 (ts.map ptrV) [ptrV t1] 1 v' A') :
    ∃ C', FtM A0 A' B C' O t T dv v' nd (ts.length + 1) fl ((ts ++ [t1]).map ptrV) ∧ CopiesR C' (ts ++ [t1]) N' := by
  obtain ⟨g1, g2, g3⟩ := grow_put h.trow h.a0 rfl ha
  have hR := h.tree
  obtain ⟨m, s', E, hR⟩ := hR
  have hfr : ∀ k o, A.blk k = some o → ¬ O k → ¬ RvB dv k → ¬ RvB (.slice (addrA base) ts.length c) k → (restA A' fun k => O k ∨ RvB dv k ∨ RvB v' k).blk k = some o := fun k o ho n1 n2 n3 => by
    rw [rest_at]
    · exact g2 k o ho n3
    · rintro (h9 | h9 | h9)
      · exact n1 h9
      · exact n2 h9
      · rcases g3 k h9 with h9 | h9
        · exact n3 h9
        · rw [ho] at h9; cases h9
  have hCs : C.Sub (restA A' fun k => O k ∨ RvB dv k ∨ RvB v' k) := fun k o hc =>
    hfr k o (h.aside.1 k o hc) (h.aside.2 k o hc) (fun h9 => by rw [(h.dO k h9).2.1] at hc; cases hc) fun h9 => by rw [(h.tO k h9).2.1] at hc; cases hc
  refine ⟨restA A' fun k => O k ∨ RvB dv k ∨ RvB v' k, ⟨h.sub.trans hCs, h.tree.frame (fun k hk => ?_) (fun k o hb => ?_), ⟨rest_sub _ _, fun k o hc hk => ?_⟩, grow_keepV h.drow fun k o ho hk => ?_, ?_, fun k hk => ?_, fun k hk => ?_⟩, (hcop.sub hCs).snoc hN ⟨B1, O1, T1, ?_, hl1, hN1⟩⟩
  · obtain ⟨o, ho⟩ := hR.live k hk
    rw [ho, g2 k o ho fun h9 => (h.tO k h9).1 hk]
  · exact g2 k o (hR.sub k o hb) fun h9 => by rw [(h.tO k h9).2.2] at hb; cases hb
  · rw [rest_no (.inl hk)] at hc; cases hc
  · exact g2 k o ho (h.dO k hk).2.2.2
  · rw [List.map_append]
    exact g1
  · obtain ⟨d1, d2, d3, d4⟩ := h.dO k hk
    refine ⟨d1, rest_no (.inr (.inl hk)), d3, fun h9 => ?_⟩
    rcases g3 k h9 with h9 | h9
    · exact d4 h9
    · exact (h.live h9).2.2.2.2 hk
  · rcases g3 k hk with h9 | h9
    · obtain ⟨d1, d2, d3⟩ := h.tO k h9
      exact ⟨d1, rest_no (.inr (.inr hk)), d3⟩
    · obtain ⟨d1, d2, d3, _⟩ := h.live h9
      exact ⟨d1, rest_no (.inr (.inr hk)), d3⟩
  · have h1' := h1
    obtain ⟨m1, s1, E1, gR⟩ := h1'
    refine h1.frame (fun k hk => ?_) (fun k o hb => ?_)
    · obtain ⟨o, ho⟩ := gR.live k hk
      obtain ⟨n1, n2, n3⟩ := hO1 k hk
      rw [ho, hfr k o ho n1 n2 n3]
    · obtain ⟨n1, n2, n3⟩ := hB1 k o hb
      exact hfr k o (gR.sub k o hb) n1 n2 n3

/-- The plain side. -/
structure FtP (T : TreeD) (ds : List DeedD) (nt : Nat) (N : Nat → ByteArray → Option NodeD) : Prop where
  ok : TOk T
  tlen : nt = ds.length + 1
  d40 : ds.length ≤ 40
  hist : HistD ds N
  now : ∀ q, kGet q T.nodes = N ds.length q
  nlen : T.nodes.length ≤ 1 + ds.length
  slen : T.seats.length ≤ 2 * ds.length

theorem zle_new (q : ByteArray) : ZLe (kGet q treeNew.nodes) 0 := fun x hx => by
  simp only [treeNew, kGet] at hx
  cases hb : (q == rootS) with
  | true =>
    rw [hb] at hx
    injection hx with hx
    subst hx
    exact ⟨Int.le_refl _, Int.le_refl _, Int.le_refl _⟩
  | false =>
    rw [hb] at hx
    cases hx

theorem ftp_new : FtP treeNew [] 1 (fun _ q => kGet q treeNew.nodes) := ⟨tok_new, rfl, Nat.zero_le _, ⟨fun q => zle_new q, fun i hi => by cases hi⟩, fun _ => rfl, Nat.le_refl _, Nat.le_refl _⟩

theorem FtP.next {T : TreeD} {ds : List DeedD} {nt : Nat} {N : Nat → ByteArray → Option NodeD} (h : FtP T ds nt N) {d : DeedD} (hz : d.h.zxid = 5 + 2 * (ds.length : Int)) (hr : RightD d) (hf : FitT d.h T) (hl : ds.length < 40) :
    FtP (treeApply T d) (ds ++ [d]) (nt + 1) (fun i q => if i ≤ ds.length then N i q else kGet q (treeApply T d).nodes) := by
  obtain ⟨k1, k2, k3⟩ := apply_all h.ok.nd d
  have hfn := hf.n
  refine ⟨h.ok.apply d, by rw [List.length_append, List.length_singleton, h.tlen], by rw [List.length_append, List.length_singleton]; omega, ⟨fun q => ?_, fun i hi => ?_⟩, fun q => ?_, ?_, ?_⟩
  · show ZLe (if 0 ≤ ds.length then N 0 q else _) 0
    rw [if_pos (Nat.zero_le _)]
    exact h.hist.zero q
  · rw [List.length_append, List.length_singleton] at hi
    by_cases hil : i < ds.length
    · obtain ⟨a1, a2, a3, a4⟩ := h.hist.fit i hil
      rw [List.getElem_append_left hil]
      refine ⟨a1, a2, ?_, fun q => ?_⟩
      · show FitN _ fun q => if i ≤ ds.length then N i q else _
        have : (fun q => if i ≤ ds.length then N i q else kGet q (treeApply T d).nodes) = N i := by
          funext q
          rw [if_pos (by omega)]
        rw [this]
        exact a3
      · rw [if_pos (by omega), if_pos (by omega)]
        exact a4 q
    · have e : i = ds.length := by omega
      subst e
      rw [List.getElem_append_right (by omega)]
      simp only [Nat.sub_self, List.getElem_cons_zero]
      refine ⟨hz, hr, ?_, fun q => ?_⟩
      · have : (fun q => if ds.length ≤ ds.length then N ds.length q else kGet q (treeApply T d).nodes) = fun q => kGet q T.nodes := by
          funext q
          rw [if_pos (Nat.le_refl _), h.now]
        rw [this]
        exact hfn
      · rw [if_neg (by omega), if_pos (Nat.le_refl _), k2, if_pos hr, ← h.now, ← hz]
        exact if_pos hfn.kind
  · show _ = if (ds ++ [d]).length ≤ ds.length then _ else _
    rw [if_neg (by rw [List.length_append, List.length_singleton]; omega)]
  · have := apply_len T d
    rw [right_parts hr hfn.kind] at this
    have h0 : ([] : List DeedD).length = 0 := rfl
    have := h.nlen
    rw [List.length_append, List.length_singleton]
    omega
  · have := apply_slen T d
    have := h.slen
    rw [List.length_append, List.length_singleton]
    omega

end
end Go.Proofs.YtfpfjobknefedaaGreatDoor
