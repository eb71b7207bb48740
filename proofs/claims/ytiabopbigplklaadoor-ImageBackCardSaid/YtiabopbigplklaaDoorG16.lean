/-
  A closed run as a contract.
  Chapter 12's examples: the law is awake.
  Contracts: two rows of bytes: are they the same?
  Contracts: are two nodes the same?
  Contracts: are rows of nodes, of sittings the same?
  Contracts: two rows of members: are they the same?
  Contracts: beadlekit.Pick.
  Lifting: what a row's arguments are in memory, as plain data of an arena that holds all that lay.
  Members as plain data, out of what a row's arguments are.
  An image as plain data, out of what a row's arguments are.
  Plain: what is read as a number is what is put for it; a state's rest.
  Plain: a CRC tells two rows of bytes that differ in one byte.
  Plain: what is an image's bytes is a frame; a frame that is changed, cut or longer is none.
  Plain: an image's bytes are read as this image.
  Plain: an image's bytes are read as this image, whole.
  Plain: an image's bytes are got as this image.
  Plain: what is got of bytes is put as just these.
  Rows of rows: what lies at the front of one, and behind.
  Contracts: beadlekit.CopyBytes; a row in a list of its own, of which one cell is stored anew.
  Contracts: beadlekit.CopyNodes.
-/
import Derived.Test.YtiabopbigplklaaDoorG07
import Derived.Test.YtiabopbigplklaaDoorG12
import Derived.ChangeArms
import Derived.DataReads
import Derived.SizedLaws
import Derived.Test.YtiabopbigplklaaDoorG08
import Derived.Test.YtiabopbigplklaaDoorG09
namespace Go.Proofs.YtiabopbigplklaaDoor
open Go.Sx Go.RowKit
noncomputable section
open Classical

/-- A closed run that gives true changes nothing that lay. -/
theorem fok_closed {P : Program} (hm : P.follows .mixedOrders = true) {C : FuncId → Option CT} (hC : CTSound P C) {Λ : LTab} (hΛ : LTSound P Λ) {n : Nat} {f : FuncId} (hk : ∀ w : World, sxTop P C Λ n f [] ⟨.e, 0, memOf w⟩ (fun r _ => isT r) = true) :
    FOk P f ⟨Unit, fun _ vs _ => vs = [], fun _ _ A v A' => A' = A ∧ v = .bool true⟩ := by
  intro _ vs A w hA hvs
  simp only at hvs
  subst hvs
  have R : HRel (fun _ => ⟨0, 0, 0⟩) ⟨.e, 0, memOf w⟩ w := by
    refine ⟨rfl, rfl, rfl, fun k o hk => hk, fun b B hb => ?_, fun b b' B B' hb => ?_, fun b B hb => ?_, fun k o hk => (by cases hk), fun b B hb => ?_, fun k o hk => (by cases hk)⟩ <;> (rw [T.get_e] at hb; cases hb)
  refine (sxTop_sound hm hC hΛ n f [] _ _ (hk w) _ w R (fun x hx => by cases hx)).mono (fun v w' ⟨z, h', ρ', hz, hv, hl, R', _, _, hle⟩ => ?_) fun _ _ h => h
  have old : ∀ k o, w.heap[k]? = some o → w'.heap[k]? = some o := fun k o hk => R'.mem k o (hle.1 k o hk)
  refine ⟨A, ⟨rfl, ?_⟩, R'.os.trans hle.2.1, R'.out.trans hle.2.2.1, R'.tape.trans hle.2.2.2, fun k hk hlt => ?_, fun k o hk => old k o (hA k o hk), fun k o ho => .inl ⟨o, ho⟩⟩
  · rw [hv]
    cases z with
    | v x => cases x with
      | bool b => simp only [isT] at hz; subst hz; rfl
      | _ => simp [isT] at hz
    | _ => simp [isT] at hz
  · have h0 : w.heap[k]? = some w.heap[k] := Array.getElem?_eq_getElem hlt
    rw [old k _ h0, h0]

end
end Go.Proofs.YtiabopbigplklaaDoor

namespace Go.Proofs.YtiabopbigplklaaDoor
open Go.Sx Go.RowKit
noncomputable section
open Classical

def C1 : FuncId → Option CT := fun f => bif Nat.beq f 31 then some (deferCT Tryd.prog C0 noL 400 31) else C0 f

theorem C1_sound : CTSound Tryd.prog C1 := by
  intro f ct h args h0 K hk ρ w H hargs
  unfold C1 at h
  cases h1 : Nat.beq f 31 with
  | true =>
    rw [h1] at h
    have := Nat.eq_of_beq_eq_true h1
    subst this
    simp only [cond_true, Option.some.injEq] at h
    subst h
    exact deferCT_goes mixed C0_sound (noL_sound _) hk H hargs
  | false =>
    rw [h1] at h
    exact C0_sound f ct h args h0 K hk ρ w H hargs

set_option maxRecDepth 100000 in
theorem awake_run (w : World) : sxTop Tryd.prog C1 noL 400 4 [] ⟨.e, 0, memOf w⟩ (fun r _ => isT r) = true := by kernel_rfl

def awakeS : FSpec := ⟨Unit, fun _ vs _ => vs = [], fun _ _ A v A' => A' = A ∧ v = .bool true⟩

theorem awake_ok : FOk Tryd.prog 4 awakeS := fok_closed mixed C1_sound (noL_sound _) awake_run

end
end Go.Proofs.YtiabopbigplklaaDoor

namespace Go.Proofs.YtiabopbigplklaaDoor
open Go.Sx Go.RowKit
noncomputable section
open Classical

/-! ### Bytes -/

def sameBytesS : FSpec := ⟨List UInt8 × List UInt8, fun g vs A => ∃ x y, vs = [x, y] ∧ SlB A x g.1 ∧ SlB A y g.2, fun g _ A v A' => A' = A ∧ v = .bool (decide (g.1 = g.2))⟩

set_option maxRecDepth 100000 in
set_option maxHeartbeats 0 in
theorem sameBytes_ok : FOk Tryd.prog 12 sameBytesS := by
  refine fok_v mixed fun ⟨ls, bs⟩ vs A hp => ?_
  simp only [sameBytesS] at hp
  obtain ⟨x, y, rfl, ⟨⟨ao, c, rfl, hc, _, ha1, ha2, ha3⟩, hxl⟩, ⟨bo, d, rfl, hd, _, hb1, hb2, hb3⟩, hyl⟩ := hp
  refine ⟨noC, tabO Tryd.prog noC noL 60 [(12, 0)], 60, noC_sound _, tabO_sound mixed (noC_sound _) (noL_sound _) _ _, fun blk os out tape D hD => ?_⟩
  conv => lhs; whnf
  refine split_b (fun hb => ?_) (fun hb => ?_) <;> (conv => lhs; whnf)
  · refine (hD _).2 ⟨rfl, ?_⟩
    have : ls ≠ bs := fun e => by subst e; simp at hb
    simp [this]
  · have hlen : ls.length = bs.length := by
      have : (ls.length : Int) = bs.length := by simpa using hb
      omega
    refine (hD _).2 ⟨cnt A 5 [0, 1] [] ls.length fun k => ls.take k = bs.take k, ⟨(0 : Nat), ⟨Nat.zero_le _, rfl⟩, ⟨rfl, trivial⟩, trivial, rfl⟩, fun (k : Nat) hk => ⟨⟨trivial, trivial⟩, trivial, ?_⟩⟩
    simp only [cnt] at hk
    conv => lhs; whnf
    refine split_dec (fun hlt => ?_) (fun hb => ?_) <;> (conv => lhs; whnf)
    · have hlt : k < ls.length := by omega
      obtain ⟨g, o, rfl, hra⟩ := Sl.at_ hc ha1 ha2 ha3 (by omega)
      obtain ⟨g', o', rfl, hrb⟩ := Sl.at_ hd hb1 hb2 hb3 (by omega)
      conv => lhs; whnf
      refine split_in (fun _ _ => ?_) (fun h => by omega)
      conv => lhs; whnf
      refine go_rd (byte_at hra k hlt rfl) ?_
      conv => lhs; whnf
      refine split_in (fun _ _ => ?_) (fun h => by omega)
      conv => lhs; whnf
      refine go_rd (byte_at hrb k (by omega) rfl) ?_
      conv => lhs; whnf
      refine split_b (fun hb => ?_) (fun hb => ?_) <;> (conv => lhs; whnf)
      · refine (hD _).2 ⟨rfl, ?_⟩
        have : ls ≠ bs := fun e => by subst e; simp at hb
        simp [this]
      · have he : ls[k] = bs[k] := by
          have : (ls[k].toNat : Int) = bs[k].toNat := by simpa using hb
          exact UInt8.toNat_inj.1 (by omega)
        refine (hD _).2 ⟨(k + 1 : Nat), ⟨⟨by omega, ?_⟩, ⟨inc_slot (by omega), trivial⟩, trivial, rfl⟩, ?_, ⟨rfl, rfl, trivial⟩, trivial⟩
        · show ls.take (k + 1) = bs.take (k + 1)
          rw [List.take_succ_eq_append_getElem hlt, List.take_succ_eq_append_getElem (by omega), hk.2, he]
        · show ls.length - (k + 1) < ls.length - k
          omega
    · refine (hD _).2 ⟨rfl, ?_⟩
      have h1 : k = ls.length := by omega
      have : ls = bs := by
        have := hk.2
        rw [h1, List.take_length, hlen, List.take_length] at this
        exact this
      simp [this]

end
end Go.Proofs.YtiabopbigplklaaDoor

namespace Go.Proofs.YtiabopbigplklaaDoor
open Go.Sx Go.RowKit
noncomputable section
open Classical

def sameNode2S : FSpec := ⟨(ToldD × Value) × (ToldD × Value), fun g vs A => vs = [.agg (nodeC g.1).toArray, .agg (nodeC g.2).toArray] ∧ SlB A g.1.2 g.1.1.data ∧ SlB A g.2.2 g.2.1.data, fun g _ A v A' => A' = A ∧ v = .bool (decide (g.1.1 = g.2.1))⟩

set_option maxRecDepth 100000 in
set_option maxHeartbeats 0 in
theorem sameNode2_ok : FOk Tryd.prog 32 sameNode2S := by
  refine fok_v mixed fun ⟨⟨⟨p, d, ⟨s1, s2, s3, s4, s5, s6, s7, s8, s9, s10⟩⟩, vd⟩, ⟨⟨q, e, ⟨u1, u2, u3, u4, u5, u6, u7, u8, u9, u10⟩⟩, ve⟩⟩ vs A hp => ?_
  obtain ⟨rfl, hd, he⟩ : vs = [.agg #[.string p, vd, .int .i64 s1, .int .i64 s2, .int .i64 s3, .int .i64 s4, .int .i64 s5, .int .i64 s6, .int .i64 s7, .int .i64 s8, .int .i64 s9, .int .i64 s10], .agg #[.string q, ve, .int .i64 u1, .int .i64 u2, .int .i64 u3, .int .i64 u4, .int .i64 u5, .int .i64 u6, .int .i64 u7, .int .i64 u8, .int .i64 u9, .int .i64 u10]] ∧ SlB A vd d ∧ SlB A ve e := hp
  obtain ⟨ad, cd, rfl⟩ := hd.1.form
  obtain ⟨ae, ce, rfl⟩ := he.1.form
  have hCt : CTSound Tryd.prog (lookC [specE 12 sameBytesS] noC) := lookC_sound (noC_sound _) (fun x hx => by
    simp only [List.mem_singleton] at hx
    subst hx; exact specE_ok sameBytes_ok)
  refine ⟨_, noL, 60, hCt, noL_sound _, fun blk os out tape D hD => ?_⟩
  have hend : ∀ b : Bool, (b = true ↔ ((p = q ∧ d = e) ∧ ((s1 = u1 ∧ s2 = u2 ∧ s3 = u3 ∧ s4 = u4 ∧ s5 = u5) ∧ s6 = u6 ∧ s7 = u7 ∧ s8 = u8 ∧ s9 = u9 ∧ s10 = u10))) → sameNode2S.post ⟨⟨⟨p, d, ⟨s1, s2, s3, s4, s5, s6, s7, s8, s9, s10⟩⟩, .slice ad d.length cd⟩, ⟨⟨q, e, ⟨u1, u2, u3, u4, u5, u6, u7, u8, u9, u10⟩⟩, .slice ae e.length ce⟩⟩ [] A (.bool b) A := fun b hb => by
    refine ⟨rfl, ?_⟩
    congr 1
    rw [Bool.eq_iff_iff, hb, decide_eq_true_iff]
    simp only [ToldD.mk.injEq, StatD.mk.injEq]
    constructor
    · rintro ⟨⟨h1, h8⟩, ⟨h2, h3, h4, h5, h6⟩, h7⟩
      exact ⟨h1, h8, h2, h3, h4, h5, h6, h7⟩
    · rintro ⟨h1, h8, h2, h3, h4, h5, h6, h7⟩
      exact ⟨⟨h1, h8⟩, ⟨h2, h3, h4, h5, h6⟩, h7⟩
  conv => lhs; whnf
  refine split_b (fun hb => ?_) (fun hb => ?_) <;> (conv => lhs; whnf)
  rotate_left
  · exact (hD _).2 (hend false ⟨fun h => (by cases h), fun h => absurd (congrArg (fun x : ByteArray => x.data.toList) h.1.1) (beqL_ff.1 hb)⟩)
  have hpq : p = q := bytes_ext (beqL_iff.1 hb)
  refine (hD _).2 ⟨(d, e), ⟨_, _, rfl, hd, he⟩, fun v A' hq => ?_⟩
  obtain ⟨hA, rfl⟩ : A = A' ∧ v = .bool (decide (d = e)) := ⟨hq.1.symm, hq.2⟩
  subst hA
  conv => lhs; whnf
  refine split_dec (fun hde => ?_) (fun hde => ?_) <;> (conv => lhs; whnf)
  rotate_left
  · exact (hD _).2 (hend false ⟨fun h => (by cases h), fun h => absurd h.1.2 hde⟩)
  refine go_D hD (by kernel_rfl) ?_
  conv => lhs; whnf
  exact (hD _).2 (hend _ (by
    simp only [cond_true, Bool.and_eq_true, decide_eq_true_iff]
    constructor
    · intro h
      exact ⟨⟨hpq, hde⟩, by simp at h; omega⟩
    · rintro ⟨-, ⟨rfl, rfl, rfl, rfl, rfl⟩, rfl, rfl, rfl, rfl, rfl⟩
      simp))

end
end Go.Proofs.YtiabopbigplklaaDoor

namespace Go.Proofs.YtiabopbigplklaaDoor
open Go.Sx Go.RowKit
noncomputable section
open Classical

def sameNodesS : FSpec := ⟨List (ToldD × Value) × List (ToldD × Value), fun g vs A => ∃ x y, vs = [x, y] ∧ NodesR A x g.1 ∧ NodesR A y g.2 ∧ g.1.length ≤ 1000000 ∧ g.2.length ≤ 1000000,
  fun g _ A v A' => A' = A ∧ v = .bool (decide (g.1.map (·.1) = g.2.map (·.1)))⟩

set_option maxRecDepth 100000 in
set_option maxHeartbeats 0 in
theorem sameNodes_ok : FOk Tryd.prog 18 sameNodesS := by
  refine fok_v mixed fun ⟨ls, bs⟩ vs A hp => ?_
  obtain ⟨x, y, rfl, ⟨⟨ao, c, rfl, hc, _, ha1, ha2, ha3⟩, hda⟩, ⟨⟨bo, d, rfl, hd, _, hb1, hb2, hb3⟩, hdb⟩, hl1, hl2⟩ : ∃ x y, vs = [x, y] ∧ NodesR A x ls ∧ NodesR A y bs ∧ ls.length ≤ 1000000 ∧ bs.length ≤ 1000000 := hp
  have hC : CTSound Tryd.prog (lookC [specE 32 sameNode2S] noC) := lookC_sound (noC_sound _) (fun x hx => by
    simp only [List.mem_singleton] at hx
    subst hx; exact specE_ok sameNode2_ok)
  refine ⟨_, tabO Tryd.prog _ noL 60 [(18, 0)], 60, hC, tabO_sound mixed hC (noL_sound _) _ _, fun blk os out tape D hD => ?_⟩
  conv => lhs; whnf
  refine split_b (fun hb => ?_) (fun hb => ?_) <;> (conv => lhs; whnf)
  · refine (hD _).2 ⟨rfl, ?_⟩
    have : ls.map (·.1) ≠ bs.map (·.1) := fun e => by
      have e2 := congrArg List.length e
      rw [List.length_map, List.length_map] at e2
      simp [e2] at hb
    simp [this]
  · have hlen : ls.length = bs.length := by
      have : (ls.length : Int) = bs.length := by simpa using hb
      omega
    refine (hD _).2 ⟨cnt A 5 [0, 1] [] ls.length fun k => (ls.take k).map (·.1) = (bs.take k).map (·.1), ⟨(0 : Nat), ⟨Nat.zero_le _, rfl⟩, ⟨rfl, trivial⟩, trivial, rfl⟩, fun (k : Nat) hk => ⟨⟨trivial, trivial⟩, trivial, ?_⟩⟩
    simp only [cnt] at hk
    conv => lhs; whnf
    refine split_dec (fun hlt => ?_) (fun hb => ?_) <;> (conv => lhs; whnf)
    · have hlt : k < ls.length := by omega
      have hlt2 : k < bs.length := by omega
      obtain ⟨g, o, rfl, hra⟩ := Sl.at_ hc ha1 ha2 ha3 (by omega)
      obtain ⟨g', o', rfl, hrb⟩ := Sl.at_ hd hb1 hb2 hb3 (by omega)
      have r1 := row_at (enc := nodeC) (fun _ => rfl) hra k hlt rfl
      have r2 := row_at (enc := nodeC) (fun _ => rfl) hrb k hlt2 rfl
      have d1 := hda ls[k] (List.getElem_mem hlt)
      have d2 := hdb bs[k] (List.getElem_mem hlt2)
      have i1 : (0 : Int) ≤ (k : Int) ∧ (k : Int) < (ls.length : Int) := by omega
      have i2 : (0 : Int) ≤ (k : Int) ∧ (k : Int) < (bs.length : Int) := by omega
      have hx : ∃ x, x = ls[k] := ⟨_, rfl⟩
      have hy : ∃ y, y = bs[k] := ⟨_, rfl⟩
      obtain ⟨⟨⟨p, e, ⟨s1, s2, s3, s4, s5, s6, s7, s8, s9, s10⟩⟩, vd⟩, hx⟩ := hx
      obtain ⟨⟨⟨q, f, ⟨u1, u2, u3, u4, u5, u6, u7, u8, u9, u10⟩⟩, ve⟩, hy⟩ := hy
      rw [← hx] at r1 d1
      rw [← hy] at r2 d2
      have r1 : A.rd g (o + k * 12) 12 = some [.string p, vd, .int .i64 s1, .int .i64 s2, .int .i64 s3, .int .i64 s4, .int .i64 s5, .int .i64 s6, .int .i64 s7, .int .i64 s8, .int .i64 s9, .int .i64 s10] := r1
      have r2 : A.rd g' (o' + k * 12) 12 = some [.string q, ve, .int .i64 u1, .int .i64 u2, .int .i64 u3, .int .i64 u4, .int .i64 u5, .int .i64 u6, .int .i64 u7, .int .i64 u8, .int .i64 u9, .int .i64 u10] := r2
      dsimp only at d1 d2
      obtain ⟨ad, cd, rfl⟩ := d1.1.form
      obtain ⟨ae, ce, rfl⟩ := d2.1.form
      conv => lhs; whnf
      repeat (first | refine go_in i1 ?_ | refine go_in i2 ?_ | refine go_rd r1 ?_ | refine go_rd r2 ?_
              conv => lhs; whnf)
      refine (hD _).2 ⟨((⟨p, e, ⟨s1, s2, s3, s4, s5, s6, s7, s8, s9, s10⟩⟩, .slice ad e.length cd), (⟨q, f, ⟨u1, u2, u3, u4, u5, u6, u7, u8, u9, u10⟩⟩, .slice ae f.length ce)), ⟨rfl, d1, d2⟩, fun v A9 hq => ?_⟩
      obtain ⟨h9, hv⟩ : A = A9 ∧ v = .bool (decide ((⟨p, e, ⟨s1, s2, s3, s4, s5, s6, s7, s8, s9, s10⟩⟩ : ToldD) = ⟨q, f, ⟨u1, u2, u3, u4, u5, u6, u7, u8, u9, u10⟩⟩)) := ⟨hq.1.symm, hq.2⟩
      subst h9
      have hx1 : ls[k].1 = ⟨p, e, ⟨s1, s2, s3, s4, s5, s6, s7, s8, s9, s10⟩⟩ := by rw [← hx]
      have hy1 : bs[k].1 = ⟨q, f, ⟨u1, u2, u3, u4, u5, u6, u7, u8, u9, u10⟩⟩ := by rw [← hy]
      by_cases he : (⟨p, e, ⟨s1, s2, s3, s4, s5, s6, s7, s8, s9, s10⟩⟩ : ToldD) = ⟨q, f, ⟨u1, u2, u3, u4, u5, u6, u7, u8, u9, u10⟩⟩
      · have hv : v = .bool true := by rw [hv, decide_eq_true he]
        subst hv
        conv => lhs; whnf
        refine (hD _).2 ⟨(k + 1 : Nat), ⟨⟨by omega, ?_⟩, ⟨inc_slot (by omega), trivial⟩, trivial, rfl⟩, ?_, ⟨same1 rfl rfl, same1 rfl rfl, trivial⟩, trivial⟩
        · show (ls.take (k + 1)).map (·.1) = (bs.take (k + 1)).map (·.1)
          rw [List.take_succ_eq_append_getElem hlt, List.take_succ_eq_append_getElem hlt2, List.map_append, List.map_append, hk.2, List.map_singleton, List.map_singleton, hx1, hy1, he]
        · show ls.length - (k + 1) < ls.length - k
          omega
      · have hv : v = .bool false := by rw [hv, decide_eq_false he]
        subst hv
        have hend : sameNodesS.post (ls, bs) [] A (.bool false) A := by
          refine ⟨rfl, ?_⟩
          have : ls.map (·.1) ≠ bs.map (·.1) := fun e2 => he (by
            have h1 : (ls.map (·.1))[k]? = (bs.map (·.1))[k]? := by rw [e2]
            rw [List.getElem?_map, List.getElem?_map, List.getElem?_eq_getElem hlt, List.getElem?_eq_getElem hlt2, Option.map_some, Option.map_some, hx1, hy1] at h1
            injection h1)
          show Value.bool false = .bool (decide (ls.map (·.1) = bs.map (·.1)))
          rw [decide_eq_false this]
        conv => lhs; whnf
        exact (hD _).2 hend
    · refine (hD _).2 ⟨rfl, ?_⟩
      have h1 : k = ls.length := by omega
      have : ls.map (·.1) = bs.map (·.1) := by
        have := hk.2
        rw [h1, List.take_length, hlen, List.take_length] at this
        exact this
      simp [this]

def sameSitsS : FSpec := ⟨List SitD × List SitD, fun g vs A => ∃ x y, vs = [x, y] ∧ Sl A 3 g.1.length x (g.1.flatMap sitC) ∧ Sl A 3 g.2.length y (g.2.flatMap sitC) ∧ g.1.length ≤ 1000000 ∧ g.2.length ≤ 1000000,
  fun g _ A v A' => A' = A ∧ v = .bool (decide (g.1 = g.2))⟩

set_option maxRecDepth 100000 in
set_option maxHeartbeats 0 in
theorem sameSits_ok : FOk Tryd.prog 19 sameSitsS := by
  refine fok_v mixed fun ⟨ls, bs⟩ vs A hp => ?_
  obtain ⟨x, y, rfl, ⟨ao, c, rfl, hc, _, ha1, ha2, ha3⟩, ⟨bo, d, rfl, hd, _, hb1, hb2, hb3⟩, hl1, hl2⟩ : ∃ x y, vs = [x, y] ∧ Sl A 3 ls.length x (ls.flatMap sitC) ∧ Sl A 3 bs.length y (bs.flatMap sitC) ∧ ls.length ≤ 1000000 ∧ bs.length ≤ 1000000 := hp
  refine ⟨noC, tabO Tryd.prog noC noL 60 [(19, 0)], 60, noC_sound _, tabO_sound mixed (noC_sound _) (noL_sound _) _ _, fun blk os out tape D hD => ?_⟩
  conv => lhs; whnf
  refine split_b (fun hb => ?_) (fun hb => ?_) <;> (conv => lhs; whnf)
  · refine (hD _).2 ⟨rfl, ?_⟩
    have : ls ≠ bs := fun e => by subst e; simp at hb
    simp [this]
  · have hlen : ls.length = bs.length := by
      have : (ls.length : Int) = bs.length := by simpa using hb
      omega
    refine (hD _).2 ⟨cnt A 5 [0, 1] [] ls.length fun k => ls.take k = bs.take k, ⟨(0 : Nat), ⟨Nat.zero_le _, rfl⟩, ⟨rfl, trivial⟩, trivial, rfl⟩, fun (k : Nat) hk => ⟨⟨trivial, trivial⟩, trivial, ?_⟩⟩
    simp only [cnt] at hk
    conv => lhs; whnf
    refine split_dec (fun hlt => ?_) (fun hb => ?_) <;> (conv => lhs; whnf)
    · have hlt : k < ls.length := by omega
      have hlt2 : k < bs.length := by omega
      obtain ⟨g, o, rfl, hra⟩ := Sl.at_ hc ha1 ha2 ha3 (by omega)
      obtain ⟨g', o', rfl, hrb⟩ := Sl.at_ hd hb1 hb2 hb3 (by omega)
      have r1 := row_at (enc := sitC) (fun _ => rfl) hra k hlt rfl
      have r2 := row_at (enc := sitC) (fun _ => rfl) hrb k hlt2 rfl
      have i1 : (0 : Int) ≤ (k : Int) ∧ (k : Int) < (ls.length : Int) := by omega
      have i2 : (0 : Int) ≤ (k : Int) ∧ (k : Int) < (bs.length : Int) := by omega
      obtain ⟨⟨s1, s2, s3⟩, hx⟩ : ∃ x, x = ls[k] := ⟨_, rfl⟩
      obtain ⟨⟨u1, u2, u3⟩, hy⟩ : ∃ y, y = bs[k] := ⟨_, rfl⟩
      rw [← hx] at r1
      rw [← hy] at r2
      have r1 : A.rd g (o + k * 3) 3 = some [.int .i64 s1, .int .i64 s2, .int .i64 s3] := r1
      have r2 : A.rd g' (o' + k * 3) 3 = some [.int .i64 u1, .int .i64 u2, .int .i64 u3] := r2
      conv => lhs; whnf
      repeat (first | refine go_in i1 ?_ | refine go_in i2 ?_ | refine go_rd r1 ?_ | refine go_rd r2 ?_ | refine go_D hD (by kernel_rfl) ?_
              conv => lhs; whnf)
      refine split_b (fun hb => ?_) (fun hb => ?_) <;> (conv => lhs; whnf)
      · refine (hD _).2 ⟨rfl, ?_⟩
        have hne : ls ≠ bs := fun e => by
          subst e
          rw [← hx] at hy
          injection hy with e1 e2 e3
          subst e1; subst e2; subst e3
          simp at hb
        show Value.bool false = .bool (decide (ls = bs))
        rw [decide_eq_false hne]
      · have he : s1 = u1 ∧ s2 = u2 ∧ s3 = u3 := by
          simp at hb
          omega
        obtain ⟨e1, e2, e3⟩ := he
        subst e1; subst e2; subst e3
        refine (hD _).2 ⟨(k + 1 : Nat), ⟨⟨by omega, ?_⟩, ⟨inc_slot (by omega), trivial⟩, trivial, rfl⟩, ?_, ⟨same1 rfl rfl, same1 rfl rfl, trivial⟩, trivial⟩
        · show ls.take (k + 1) = bs.take (k + 1)
          rw [List.take_succ_eq_append_getElem hlt, List.take_succ_eq_append_getElem hlt2, hk.2, ← hx, ← hy]
        · show ls.length - (k + 1) < ls.length - k
          omega
    · refine (hD _).2 ⟨rfl, ?_⟩
      have h1 : k = ls.length := by omega
      have : ls = bs := by
        have := hk.2
        rw [h1, List.take_length, hlen, List.take_length] at this
        exact this
      simp [this]

end
end Go.Proofs.YtiabopbigplklaaDoor

namespace Go.Proofs.YtiabopbigplklaaDoor
open Go.Sx Go.RowKit
noncomputable section
open Classical

/-! ### Members -/

def sameMembersS : FSpec := ⟨List MemD × List MemD, fun g vs A => ∃ x y, vs = [x, y] ∧ MemR A x g.1 ∧ MemR A y g.2, fun g _ A v A' => A' = A ∧ v = .bool (decide (g.1 = g.2))⟩

theorem mem_at2 {A : Arena} {g o n : Nat} {l : List MemD} (h : A.rd g o (n * 4) = some (memCells l)) (k : Nat) (hk : k < l.length) (hn : n = l.length) : A.rd g (o + k * 4) 4 = some [.int .i64 l[k].id, .int .u8 l[k].role, .int .i64 l[k].weight, .int .i64 l[k].group] := by
  have := rows_at (rows := l.map MemD.cells) h (memCells_rows l) k (by simpa using hk) (by simpa using hn)
  simpa [MemD.cells] using this

set_option maxRecDepth 100000 in
set_option maxHeartbeats 0 in
theorem sameMembers_ok : FOk Tryd.prog 33 sameMembersS := by
  refine fok_v mixed fun ⟨ls, bs⟩ vs A hp => ?_
  simp only [sameMembersS] at hp
  obtain ⟨x, y, rfl, ⟨⟨ao, c, rfl, hc, _, ha1, ha2, ha3⟩, hxl⟩, ⟨bo, d, rfl, hd, _, hb1, hb2, hb3⟩, hyl⟩ := hp
  refine ⟨noC, tabO Tryd.prog noC noL 60 [(33, 0)], 60, noC_sound _, tabO_sound mixed (noC_sound _) (noL_sound _) _ _, fun blk os out tape D hD => ?_⟩
  conv => lhs; whnf
  refine split_b (fun hb => ?_) (fun hb => ?_) <;> (conv => lhs; whnf)
  · refine (hD _).2 ⟨rfl, ?_⟩
    have : ls ≠ bs := fun e => by subst e; simp at hb
    simp [this]
  · have hlen : ls.length = bs.length := by
      have : (ls.length : Int) = bs.length := by simpa using hb
      omega
    refine (hD _).2 ⟨cnt A 5 [0, 1] [] ls.length fun k => ls.take k = bs.take k, ⟨(0 : Nat), ⟨Nat.zero_le _, rfl⟩, ⟨rfl, trivial⟩, trivial, rfl⟩, fun (k : Nat) hk => ⟨⟨trivial, trivial⟩, trivial, ?_⟩⟩
    simp only [cnt] at hk
    conv => lhs; whnf
    refine split_dec (fun hlt => ?_) (fun hb => ?_) <;> (conv => lhs; whnf)
    · have hlt : k < ls.length := by omega
      obtain ⟨g, o, rfl, hra⟩ := Sl.at_ hc ha1 ha2 ha3 (by omega)
      obtain ⟨g', o', rfl, hrb⟩ := Sl.at_ hd hb1 hb2 hb3 (by omega)
      conv => lhs; whnf
      refine split_in (fun _ _ => ?_) (fun h => by omega)
      conv => lhs; whnf
      refine go_rd (mem_at2 hra k hlt rfl) ?_
      conv => lhs; whnf
      refine split_in (fun _ _ => ?_) (fun h => by omega)
      conv => lhs; whnf
      refine go_rd (mem_at2 hrb k (by omega) rfl) ?_
      conv => lhs; whnf
      refine go_D hD (by kernel_rfl) ?_
      conv => lhs; whnf
      refine split_b (fun hb => ?_) (fun hb => ?_) <;> (conv => lhs; whnf)
      · refine (hD _).2 ⟨rfl, ?_⟩
        have : ls ≠ bs := fun e => by subst e; simp at hb
        simp [this]
      · have he : ls[k] = bs[k] := by
          simp only [Bool.not_eq_false', Bool.and_eq_true, decide_eq_true_eq, Bool.and_true] at hb
          obtain ⟨h1, h2, h3, h4⟩ := hb
          cases hl : ls[k]; cases hr : bs[k]
          simp only [hl, hr] at h1 h2 h3 h4
          subst h1 h2 h3 h4; rfl
        refine (hD _).2 ⟨(k + 1 : Nat), ⟨⟨by omega, ?_⟩, ⟨inc_slot (by omega), trivial⟩, trivial, rfl⟩, ?_, ⟨rfl, rfl, trivial⟩, trivial⟩
        · show ls.take (k + 1) = bs.take (k + 1)
          rw [List.take_succ_eq_append_getElem hlt, List.take_succ_eq_append_getElem (by omega), hk.2, he]
        · show ls.length - (k + 1) < ls.length - k
          omega
    · refine (hD _).2 ⟨rfl, ?_⟩
      have h1 : k = ls.length := by omega
      have : ls = bs := by
        have := hk.2
        rw [h1, List.take_length, hlen, List.take_length] at this
        exact this
      simp [this]

end
end Go.Proofs.YtiabopbigplklaaDoor

namespace Go.Proofs.YtiabopbigplklaaDoor
open Go.Sx Go.RowKit
noncomputable section
open Classical

/-- Pick: a number below n. -/
def pickS : FSpec := ⟨Int × Nat, fun g vs _ => vs = [.int .i64 g.1, .int .i64 g.2] ∧ 1 ≤ g.2 ∧ g.2 ≤ 1000000000, fun g _ A v A' => A' = A ∧ ∃ k : Nat, k < g.2 ∧ v = .int .i64 k⟩

set_option maxRecDepth 100000 in
set_option maxHeartbeats 0 in
theorem pick_ok : FOk Tryd.prog 9 pickS := by
  refine fok_v mixed fun ⟨x, n⟩ vs A hp => ?_
  obtain ⟨rfl, h1, h2⟩ : vs = [.int .i64 x, .int .i64 n] ∧ 1 ≤ n ∧ n ≤ 1000000000 := hp
  refine ⟨noC, noL, 60, noC_sound _, noL_sound _, fun blk os out tape D hD => ?_⟩
  conv => lhs; whnf
  refine split_dec (fun h => ?_) (fun h => ?_) <;> (conv => lhs; whnf)
  · omega
  have hn0 : ¬ (n : Int) = 0 := by omega
  have hlo : -(n : Int) < Int.tmod x n := by
    have := Int.lt_tmod_of_pos x (b := (n : Int)) (by omega)
    omega
  have hhi : Int.tmod x n < n := Int.tmod_lt_of_pos x (by omega)
  have hend : ∀ z : Int, 0 ≤ z → z < n → pickS.post (x, n) [.int .i64 x, .int .i64 n] A (.int .i64 z) A := fun z h0 h1 => ⟨rfl, z.toNat, by show z.toNat < n; omega, by rw [Int.toNat_of_nonneg h0]⟩
  refine split_b (fun _ => ?_) (fun hb => absurd hb (by rw [decide_eq_false hn0]; decide)) <;> (conv => lhs; whnf)
  refine split_dec (fun h0 => ?_) (fun h0 => ?_) <;> (conv => lhs; whnf)
  · have hend1 := hend (IntKind.i64.wrap (Int.tmod x n + n)) (by rw [Sx.wrap_i64 (by omega) (by omega)]; omega) (by rw [Sx.wrap_i64 (by omega) (by omega)]; omega)
    exact (hD _).2 hend1
  · exact (hD _).2 (hend (Int.tmod x n) (by omega) hhi)

end
end Go.Proofs.YtiabopbigplklaaDoor

namespace Go.Sx
noncomputable section
open Go.RowKit Go.ChangeShapes Go.WideShapes

theorem list1 {α : Type} {l : List α} (h : l.length = 1) : ∃ v0, l = [v0] := by
  match l, h with
  | [v0], _ => exact ⟨v0, rfl⟩

theorem list2 {α : Type} {l : List α} (h : l.length = 2) : ∃ v0 v1, l = [v0, v1] := by
  match l, h with
  | [v0, v1], _ => exact ⟨v0, v1, rfl⟩

theorem list3 {α : Type} {l : List α} (h : l.length = 3) : ∃ v0 v1 v2, l = [v0, v1, v2] := by
  match l, h with
  | [v0, v1, v2], _ => exact ⟨v0, v1, v2, rfl⟩

theorem list4 {α : Type} {l : List α} (h : l.length = 4) : ∃ v0 v1 v2 v3, l = [v0, v1, v2, v3] := by
  match l, h with
  | [v0, v1, v2, v3], _ => exact ⟨v0, v1, v2, v3, rfl⟩

theorem list5 {α : Type} {l : List α} (h : l.length = 5) : ∃ v0 v1 v2 v3 v4, l = [v0, v1, v2, v3, v4] := by
  match l, h with
  | [v0, v1, v2, v3, v4], _ => exact ⟨v0, v1, v2, v3, v4, rfl⟩

theorem list6 {α : Type} {l : List α} (h : l.length = 6) : ∃ v0 v1 v2 v3 v4 v5, l = [v0, v1, v2, v3, v4, v5] := by
  match l, h with
  | [v0, v1, v2, v3, v4, v5], _ => exact ⟨v0, v1, v2, v3, v4, v5, rfl⟩

theorem list7 {α : Type} {l : List α} (h : l.length = 7) : ∃ v0 v1 v2 v3 v4 v5 v6, l = [v0, v1, v2, v3, v4, v5, v6] := by
  match l, h with
  | [v0, v1, v2, v3, v4, v5, v6], _ => exact ⟨v0, v1, v2, v3, v4, v5, v6, rfl⟩

theorem list8 {α : Type} {l : List α} (h : l.length = 8) : ∃ v0 v1 v2 v3 v4 v5 v6 v7, l = [v0, v1, v2, v3, v4, v5, v6, v7] := by
  match l, h with
  | [v0, v1, v2, v3, v4, v5, v6, v7], _ => exact ⟨v0, v1, v2, v3, v4, v5, v6, v7, rfl⟩

theorem list15 {α : Type} {l : List α} (h : l.length = 15) : ∃ v0 v1 v2 v3 v4 v5 v6 v7 v8 v9 v10 v11 v12 v13 v14, l = [v0, v1, v2, v3, v4, v5, v6, v7, v8, v9, v10, v11, v12, v13, v14] := by
  match l, h with
  | [v0, v1, v2, v3, v4, v5, v6, v7, v8, v9, v10, v11, v12, v13, v14], _ => exact ⟨v0, v1, v2, v3, v4, v5, v6, v7, v8, v9, v10, v11, v12, v13, v14, rfl⟩

theorem list16 {α : Type} {l : List α} (h : l.length = 16) : ∃ v0 v1 v2 v3 v4 v5 v6 v7 v8 v9 v10 v11 v12 v13 v14 v15, l = [v0, v1, v2, v3, v4, v5, v6, v7, v8, v9, v10, v11, v12, v13, v14, v15] := by
  match l, h with
  | [v0, v1, v2, v3, v4, v5, v6, v7, v8, v9, v10, v11, v12, v13, v14, v15], _ => exact ⟨v0, v1, v2, v3, v4, v5, v6, v7, v8, v9, v10, v11, v12, v13, v14, v15, rfl⟩

theorem list18 {α : Type} {l : List α} (h : l.length = 18) : ∃ v0 v1 v2 v3 v4 v5 v6 v7 v8 v9 v10 v11 v12 v13 v14 v15 v16 v17, l = [v0, v1, v2, v3, v4, v5, v6, v7, v8, v9, v10, v11, v12, v13, v14, v15, v16, v17] := by
  match l, h with
  | [v0, v1, v2, v3, v4, v5, v6, v7, v8, v9, v10, v11, v12, v13, v14, v15, v16, v17], _ => exact ⟨v0, v1, v2, v3, v4, v5, v6, v7, v8, v9, v10, v11, v12, v13, v14, v15, v16, v17, rfl⟩

/-- All memory that lay, as an arena. -/
def allOf (W : World) : Arena := Arena.of fun k => W.heap[k]?

theorem cells_spot {W : World} {a : Addr} {n : Nat} {cs : List Value} (h : W.cells? 0 a n = some cs) (hn : 0 < n) : a.spot = none := by
  unfold World.cells? at h
  rw [if_pos (Nat.zero_le _)] at h
  have h1 := mapM_some_get h 0 0 (by simp [hn])
  have hl := mapM_some_length h
  rw [List.length_range] at hl
  have h2 : cs[0]? = some cs[0] := List.getElem?_eq_getElem (by omega)
  rw [h2] at h1
  unfold World.cell? Addr.add at h1
  simp only [if_true] at h1
  split at h1
  · split at h1
    · cases h1
    · rename_i h3
      cases hs : a.spot with
      | none => rfl
      | some s => rw [hs] at h3; simp at h3
  · cases h1

theorem cells_rd {W : World} {g o : Nat} {n : Nat} {cs : List Value} (h : W.cells? 0 ⟨g, o, none⟩ n = some cs) (hn : 0 < n) : (allOf W).rd g o n = some cs := by
  unfold World.cells? at h
  rw [if_pos (Nat.zero_le _)] at h
  have hl := mapM_some_length h
  rw [List.length_range] at hl
  have key : ∀ i, i < n → ∃ c t fz, W.heap[g]? = some (.cells c t fz) ∧ c[o + i]? = cs[i]? := fun i hi => by
    have h1 := mapM_some_get h i i (by simp [hi])
    have h2 : cs[i]? = some cs[i] := List.getElem?_eq_getElem (by omega)
    rw [h2] at h1
    unfold World.cell? at h1
    rw [add_none] at h1
    simp only at h1
    split at h1
    · rename_i c t fz hb
      simp only [Option.isSome_none, Bool.false_eq_true, if_false] at h1
      exact ⟨c, t, fz, hb, by rw [h1, h2]⟩
    · cases h1
  obtain ⟨c, t, fz, hb, _⟩ := key 0 hn
  have hle : o + n ≤ c.size := by
    obtain ⟨c', t', fz', hb', h3⟩ := key (n - 1) (by omega)
    rw [hb] at hb'
    injection hb' with hb'
    injection hb' with e1 e2 e3
    subst e1
    have h4 : cs[n - 1]? = some cs[n - 1] := List.getElem?_eq_getElem (by omega)
    rw [h4] at h3
    have := (Array.getElem?_eq_some_iff.1 h3).1
    omega
  rw [rd_mk (A := allOf W) (c := c) (t := t) (fz := fz) hb hle]
  congr 1
  refine List.ext_getElem? fun i => ?_
  by_cases hi : i < n
  · obtain ⟨c', t', fz', hb', h3⟩ := key i hi
    rw [hb] at hb'
    injection hb' with hb'
    injection hb' with e1 e2 e3
    subst e1
    rw [List.getElem?_take_of_lt hi, List.getElem?_drop, Array.getElem?_toList, h3]
  · rw [List.getElem?_eq_none (by simp; omega), List.getElem?_eq_none (by omega)]

theorem rd_join {A : Arena} {g o n m : Nat} {xs ys : List Value} (h1 : A.rd g o n = some xs) (h2 : A.rd g (o + n) m = some ys) : A.rd g o (n + m) = some (xs ++ ys) := by
  obtain ⟨c, t, fz, hb, hle, rfl⟩ := rd_some h1
  obtain ⟨c', t', fz', hb', hle', rfl⟩ := rd_some h2
  rw [hb] at hb'
  injection hb' with hb'
  injection hb' with e1 e2 e3
  subst e1
  rw [rd_mk hb (by omega), List.take_add, List.drop_drop]

section
variable {H : Type} {enc : TypeId × Value → H} {P : Program} {W : World}

/-- How cells are read here. -/
abbrev trodA (enc : TypeId × Value → H) (P : Program) (W : World) (n : Nat) (t : TypeId) (cs : List Value) : Option (DataW H × List MemPlace) := DataW.trod enc P W 0 (fun _ => true) true n t cs

/-- No row in it is longer than what can be reached. -/
def RFits (P : Program) (t : TypeId) (d : DataW H) : Prop := ∀ z ∈ d.weights P t, z ≤ 140737488351232

theorem weightsAll_mem {e : TypeId} : ∀ {l : List (DataW H)} {d : DataW H}, d ∈ l → ∀ z ∈ d.weights P e, z ∈ DataW.weightsAll P e l
  | [], d, h => by cases h
  | x :: l, d, h => fun z hz => by
    simp only [DataW.weightsAll, List.mem_append]
    rcases List.mem_cons.1 h with rfl | h
    · exact .inl hz
    · exact .inr (weightsAll_mem h z hz)

theorem weightsEach_mem : ∀ {ts : List TypeId} {l : List (DataW H)} {i : Nat} {t : TypeId} {d : DataW H}, ts[i]? = some t → l[i]? = some d → ∀ z ∈ d.weights P t, z ∈ DataW.weightsEach P ts l
  | [], _, _, _, _, h1, _ => by simp at h1
  | _ :: _, [], _, _, _, _, h2 => by simp at h2
  | t' :: ts, d' :: l, 0, t, d, h1, h2 => fun z hz => by
    simp only [List.getElem?_cons_zero, Option.some.injEq] at h1 h2
    subst h1; subst h2
    simp only [DataW.weightsEach, List.mem_append]
    exact .inl hz
  | t' :: ts, d' :: l, i + 1, t, d, h1, h2 => fun z hz => by
    simp only [List.getElem?_cons_succ] at h1 h2
    simp only [DataW.weightsEach, List.mem_append]
    exact .inr (weightsEach_mem h1 h2 z hz)

theorem rfits_at {ts : List TypeId} {l : List (DataW H)} (h : (DataW.weightsEach P ts l).all (· ≤ reachBytes) = true) (i : Nat) {t : TypeId} {d : DataW H} (h1 : ts[i]? = some t) (h2 : l[i]? = some d) : RFits P t d := fun z hz => by
  have h3 := List.all_eq_true.1 h z (weightsEach_mem h1 h2 z hz)
  have h4 : z ≤ reachBytes := by simpa using h3
  exact h4

/-- A slice's cell. -/
theorem slice_cell {t e : TypeId} (ht : P.underlying t = some (.slice e)) {r : Reach} {b : Nat} {v : Value} (h : Value.okWide P W r b t v) : v.cells.toList = [v] := by
  unfold Value.okWide at h
  rw [ht] at h
  simp only [Cell.okWide, Cell.ok, ht] at h
  cases v with
  | slice a l c => rfl
  | _ => exact h.elim

/-- A slice: its row, and each of its elements. -/
theorem slice_up {t e : TypeId} {es B : Nat} (ht : P.underlying t = some (.slice e)) (hes : P.cellsOf e = es) (hes0 : 0 < es) (hB : P.bytesOf e = B) {n : Nat} {x : DataW H × List MemPlace} {v : Value} (h : trodA enc P W n t [v] = some x) (hw : RFits P t x.1) :
    ∃ rows : List (List Value), Sl (allOf W) es rows.length v rows.flatten ∧ rows.length * B ≤ 140737488351232 ∧ ∀ r ∈ rows, r.length = es ∧ ∃ m y, m < n ∧ trodA enc P W m e r = some y ∧ RFits P e y.1 := by
  rcases DataW.trod_slice ht h with ⟨hn, _⟩ | ⟨a, len, cap, elems, rest, m, hm, hn, hx, _, hle, _, hel, hrd, hsp, _⟩
  · obtain rfl : v = .slice none 0 0 := by simpa using hn
    exact ⟨[], Sl.nil _ _, by simp, by simp⟩
  · obtain rfl : v = .slice (some a) len cap := by simpa using hn
    obtain ⟨hr1, hr2⟩ := hsp rfl
    subst hes
    have hone : ∀ i, i < len → ∃ cs y, W.cells? 0 (a.add (i * P.cellsOf e)) (P.cellsOf e) = some cs ∧ trodA enc P W m e cs = some y ∧ elems[i]? = some y := fun i hi => by
      have h1 := hrd i hi
      have h2 : elems[i]? = some elems[i] := List.getElem?_eq_getElem (by omega)
      rw [h2, Option.bind_eq_some_iff] at h1
      obtain ⟨cs, h3, h4⟩ := h1
      exact ⟨cs, _, h3, h4, h2⟩
    have hspot : 0 < cap → a.spot = none := fun hc => by
      by_cases h0 : 0 < len
      · obtain ⟨cs, y, h1, _⟩ := hone 0 h0
        rw [Nat.zero_mul] at h1
        exact cells_spot (a := a) (by simpa [Addr.add] using h1) hes0
      · have h1 := hr2 0 (by omega)
        have h2 : rest[0]? = some rest[0] := List.getElem?_eq_getElem (by omega)
        rw [h2, Option.bind_eq_some_iff] at h1
        obtain ⟨cs, h3, _⟩ := h1
        have h0 : len = 0 := by omega
        subst h0
        exact cells_spot (a := a) (by simpa [Addr.add] using h3) hes0
    have hfit : ∀ y ∈ elems, RFits P e y.1 := fun y hy z hz => by
      refine hw z ?_
      rw [hx]
      simp only [DataW.weights, ht, List.mem_cons, List.mem_append]
      exact .inr (.inl (weightsAll_mem (List.mem_map.2 ⟨y, hy, rfl⟩) z hz))
    have hrows : ∀ k, k ≤ len → ∃ rows : List (List Value), rows.length = k ∧ (0 < k → (allOf W).rd a.block a.off (k * P.cellsOf e) = some rows.flatten) ∧ ∀ r ∈ rows, r.length = P.cellsOf e ∧ ∃ m y, m < n ∧ trodA enc P W m e r = some y ∧ RFits P e y.1 := fun k => by
      induction k with
      | zero => exact fun _ => ⟨[], rfl, fun h => (by omega), by simp⟩
      | succ k ih =>
        intro hk
        obtain ⟨rows, r1, r2, r3⟩ := ih (by omega)
        obtain ⟨cs, y, h1, h2, h3⟩ := hone k (by omega)
        obtain ⟨g, o, s⟩ := a
        have hs := hspot (by omega)
        simp only at hs
        subst hs
        rw [add_none] at h1
        have h4 := cells_rd h1 hes0
        refine ⟨rows ++ [cs], by simp [r1], fun _ => ?_, fun r hr => ?_⟩
        · rw [List.flatten_append, Nat.succ_mul]
          simp only [List.flatten_cons, List.flatten_nil, List.append_nil]
          by_cases h0 : 0 < k
          · exact rd_join (r2 h0) h4
          · have h0 : k = 0 := by omega
            subst h0
            have : rows = [] := List.length_eq_zero_iff.1 r1
            subst this
            simpa using h4
        · rcases List.mem_append.1 hr with hr | hr
          · exact r3 r hr
          · rw [List.mem_singleton] at hr
            subst hr
            exact ⟨rd_len h4, m, y, by omega, h2, hfit y (List.mem_of_getElem? h3)⟩
    obtain ⟨rows, r1, r2, r3⟩ := hrows len (Nat.le_refl _)
    refine ⟨rows, ⟨some a, cap, by rw [r1], by omega, ?_, fun h => (by cases h), fun b hb hc => (by injection hb with hb; subst hb; exact hspot hc), fun h0 b hb => (by injection hb with hb; subst hb; rw [r1]; exact r2 (by omega))⟩, ?_, r3⟩
    · clear r1 r2
      induction rows with
      | nil => simp
      | cons r rows ih =>
        rw [List.flatten_cons, List.length_append, ih (fun x hx => r3 x (List.mem_cons_of_mem _ hx)), (r3 r (by simp)).1, List.length_cons, Nat.succ_mul]; omega
    · have h1 : (elems.length + rest.length) * P.bytesOf e ≤ 140737488351232 := by
        refine hw _ ?_
        rw [hx]
        simp [DataW.weights, ht]
      rw [hB] at h1
      refine Nat.le_trans (Nat.mul_le_mul_right B ?_) h1
      omega

/-- A struct: each of its fields. -/
theorem fields_up {t : TypeId} {fs : Array Field} (ht : P.underlying t = some (.struct fs)) {n : Nat} {x : DataW H × List MemPlace} {cs : List Value} (h : trodA enc P W n t cs = some x) (hw : RFits P t x.1) :
    cs.length = P.cellsOf t ∧ ∃ m, m < n ∧ ∀ (i : Nat) (f : Field), fs[i]? = some f → ∃ y, trodA enc P W m f.type ((cs.drop f.offset).take (P.cellsOf f.type)) = some y ∧ RFits P f.type y.1 := by
  obtain ⟨xs, m, hm, hx, hl, hlen, hf⟩ := DataW.trod_struct ht h
  refine ⟨hl, m, by omega, fun i f hi => ?_⟩
  have hi' : i < fs.size := (Array.getElem?_eq_some_iff.1 hi).1
  have h2 : xs[i]? = some xs[i] := List.getElem?_eq_getElem (by omega)
  refine ⟨xs[i], (hf i f hi).trans h2, fun z hz => hw z ?_⟩
  rw [hx]
  simp only [DataW.weights, ht]
  exact weightsEach_mem (i := i) (t := f.type) (d := xs[i].1) (by simp [hi]) (by simp [h2]) z hz

variable {n : Nat} {t : TypeId} {v : Value} {l : List Value}

/-- A field of one cell. -/
theorem up_one (hc : P.cellsOf t = 1) (h : ∃ y, trodA enc P W n t ((v :: l).take (P.cellsOf t)) = some y ∧ RFits P t y.1) : ∃ y, trodA enc P W n t [v] = some y ∧ RFits P t y.1 := by
  rw [hc] at h
  exact h

theorem up_int {k : IntKind} (ht : P.underlying t = some (.int k)) (hc : P.cellsOf t = 1) (h : ∃ y, trodA enc P W n t ((v :: l).take (P.cellsOf t)) = some y ∧ RFits P t y.1) : ∃ x, v = .int k x ∧ (Lit.int k x).wf = true := by
  obtain ⟨y, h, _⟩ := up_one hc h
  obtain ⟨x, hx, _, hw⟩ := DataW.trod_int ht h
  exact ⟨x, by simpa using hx, hw⟩

theorem up_bool (ht : P.underlying t = some .bool) (hc : P.cellsOf t = 1) (h : ∃ y, trodA enc P W n t ((v :: l).take (P.cellsOf t)) = some y ∧ RFits P t y.1) : ∃ x, v = .bool x := by
  obtain ⟨y, h, _⟩ := up_one hc h
  obtain ⟨x, hx, _⟩ := DataW.trod_bool ht h
  exact ⟨x, by simpa using hx⟩

theorem up_string (ht : P.underlying t = some .string) (hc : P.cellsOf t = 1) (h : ∃ y, trodA enc P W n t ((v :: l).take (P.cellsOf t)) = some y ∧ RFits P t y.1) : ∃ x : ByteArray, v = .string x ∧ x.data.toList.length ≤ 140737488351232 := by
  obtain ⟨y, h, hf⟩ := up_one hc h
  obtain ⟨x, hx, hy, _⟩ := DataW.trod_string ht h
  refine ⟨x, by simpa using hx, hf _ ?_⟩
  rw [hy]
  simp [DataW.weights]

theorem up_bytes {e : TypeId} (ht : P.underlying t = some (.slice e)) (he : P.underlying e = some (.int .u8)) (hc : P.cellsOf e = 1) (hb : P.bytesOf e = 1) (ht1 : P.cellsOf t = 1) (h : ∃ y, trodA enc P W n t ((v :: l).take (P.cellsOf t)) = some y ∧ RFits P t y.1) : ∃ bs, SlB (allOf W) v bs := by
  obtain ⟨y, h, hf⟩ := up_one ht1 h
  obtain ⟨rows, h1, h2, h3⟩ := slice_up ht hc (by omega) hb h hf
  have key : ∀ rows : List (List Value), (∀ r ∈ rows, r.length = 1 ∧ ∃ m y, m < n ∧ trodA enc P W m e r = some y ∧ RFits P e y.1) → ∃ bs : List UInt8, rows.flatten = bs.map bv ∧ bs.length = rows.length := by
    intro rows
    induction rows with
    | nil => exact fun _ => ⟨[], rfl, rfl⟩
    | cons r rows ih =>
      intro h
      obtain ⟨bs, k1, k2⟩ := ih fun x hx => h x (List.mem_cons_of_mem _ hx)
      obtain ⟨_, m, y, _, h5, _⟩ := h r (by simp)
      obtain ⟨x, hx, _, hwf⟩ := DataW.trod_int he h5
      have hr : 0 ≤ x ∧ x < 256 := by
        simp only [Lit.wf, Bool.and_eq_true, decide_eq_true_eq] at hwf
        have h8 : IntKind.u8.min = 0 := rfl
        have h9 : IntKind.u8.max = 255 := rfl
        omega
      refine ⟨UInt8.ofNat x.toNat :: bs, ?_, by simp [k2]⟩
      rw [List.flatten_cons, k1, hx, List.map_cons]
      simp only [bv, List.cons_append, List.nil_append, List.cons.injEq, and_true]
      congr 1
      simp only [UInt8.toNat_ofNat']
      omega
  obtain ⟨bs, k1, k2⟩ := key rows h3
  refine ⟨bs, ?_, by omega⟩
  rw [k2, ← k1]
  exact h1

end

/-- A contract whose arena is all that lay: what lay lies as it lay. -/
theorem below_of_moves {A' : Arena} {w w' : World} (hs : (allOf w).Sub A') (hm : Moves (allOf w) A' w w') : Below w.heap.size w w' := by
  have hb : ∀ k, k < w.heap.size → w'.heap[k]? = w.heap[k]? := fun k hk => by
    have h0 : w.heap[k]? = some w.heap[k] := Array.getElem?_eq_getElem hk
    rw [hm.sub k _ (hs k _ h0)]
    exact h0.symm
  refine ⟨hm.os, hm.tape, hm.out, ?_, hb⟩
  rcases Nat.eq_zero_or_pos w.heap.size with h0 | h0
  · omega
  · have h1 := hb (w.heap.size - 1) (by omega)
    have h2 : (w.heap[w.heap.size - 1]?) = some w.heap[w.heap.size - 1] := Array.getElem?_eq_getElem (by omega)
    rw [h2] at h1
    have := (Array.getElem?_eq_some_iff.1 h1).1
    omega

/-- A contract, as what a call shows. -/
theorem calls_of_fok {P : Program} {f : FuncId} {S : FSpec} (h : FOk P f S) {fn : Func} (hf : P.funcs[f]? = some fn) (hn : (fn.name == "runtime.NumGoroutine") = false) (hb : fn.body.isSome = true) (g : S.γ) (vs : List Value) (w : World) (hp : S.pre g vs (allOf w))
    (hs : ∀ v A', S.post g vs (allOf w) v A' → (allOf w).Sub A') : Calls P f vs.toArray w fun e w' => ∃ v, e = .returned v ∧ (∃ A', S.post g vs (allOf w) v A') ∧ Below w.heap.size w w' :=
  (calls_of_goes (h g vs (allOf w) w (fun _ _ h => h) hp) hf hn hb).mono fun _ _ ⟨v, he, A', h1, h2⟩ => ⟨v, he, ⟨A', h1⟩, below_of_moves (hs v A' h1) h2⟩

end
end Go.Sx

namespace Go.Proofs.YtiabopbigplklaaDoor
open Go.Sx Go.RowKit Go.ChangeShapes Go.WideShapes
noncomputable section

section
variable {H : Type} {enc : TypeId × Value → H} {W : World}

theorem member_up {n : Nat} {cs : List Value} (h : ∃ y, trodA enc Tryd.prog W n 62 cs = some y ∧ RFits Tryd.prog 62 y.1) : ∃ m : MemD, cs = m.cells := by
  obtain ⟨y, h, hf⟩ := h
  obtain ⟨hl, m, _, hx⟩ := fields_up (P := Tryd.prog) Tryd.underlying62 h hf
  have hl : cs.length = 4 := hl.trans (by kernel_rfl)
  obtain ⟨v0, v1, v2, v3, rfl⟩ := list4 hl
  obtain ⟨c0, rfl, _⟩ := up_int (v := v0) (l := [v1, v2, v3]) Tryd.underlying3 (by kernel_rfl) (hx 0 _ rfl)
  obtain ⟨c1, rfl, _⟩ := up_int (v := v1) (l := [v2, v3]) Tryd.underlying60 (by kernel_rfl) (hx 1 _ rfl)
  obtain ⟨c2, rfl, _⟩ := up_int (v := v2) (l := [v3]) Tryd.underlying3 (by kernel_rfl) (hx 2 _ rfl)
  obtain ⟨c3, rfl, _⟩ := up_int (v := v3) (l := []) Tryd.underlying3 (by kernel_rfl) (hx 3 _ rfl)
  exact ⟨⟨c0, c1, c2, c3⟩, rfl⟩

theorem members_up {n : Nat} {v : Value} {l : List Value} (h : ∃ y, trodA enc Tryd.prog W n 25 ((v :: l).take (Tryd.prog.cellsOf 25)) = some y ∧ RFits Tryd.prog 25 y.1) : ∃ ms, MemR (allOf W) v ms := by
  obtain ⟨y, h, hf⟩ := up_one (by kernel_rfl) h
  obtain ⟨rows, h1, h2, h3⟩ := slice_up (es := 4) (B := 32) Tryd.underlying25 (by kernel_rfl) (by decide) (by kernel_rfl) h hf
  have key : ∀ rows : List (List Value), (∀ r ∈ rows, r.length = 4 ∧ ∃ m y, m < n ∧ trodA enc Tryd.prog W m 62 r = some y ∧ RFits Tryd.prog 62 y.1) → ∃ ms : List MemD, rows = ms.map MemD.cells := by
    intro rows
    induction rows with
    | nil => exact fun _ => ⟨[], rfl⟩
    | cons r rows ih =>
      intro h
      obtain ⟨ms, rfl⟩ := ih fun x hx => h x (List.mem_cons_of_mem _ hx)
      obtain ⟨_, m, y, _, h5, h6⟩ := h r (by simp)
      obtain ⟨d, rfl⟩ := member_up ⟨y, h5, h6⟩
      exact ⟨d :: ms, rfl⟩
  obtain ⟨ms, rfl⟩ := key rows h3
  rw [List.length_map] at h1 h2
  exact ⟨ms, h1, h2⟩

end

end
end Go.Proofs.YtiabopbigplklaaDoor

namespace Go.Proofs.YtiabopbigplklaaDoor
open Go.Sx Go.RowKit Go.ChangeShapes Go.WideShapes
noncomputable section

theorem list12 {α : Type} : ∀ {l : List α}, l.length = 12 → ∃ a b c d e f g h i j k m, l = [a, b, c, d, e, f, g, h, i, j, k, m]
  | [a, b, c, d, e, f, g, h, i, j, k, m], _ => ⟨a, b, c, d, e, f, g, h, i, j, k, m, rfl⟩

theorem list3 {α : Type} : ∀ {l : List α}, l.length = 3 → ∃ a b c, l = [a, b, c]
  | [a, b, c], _ => ⟨a, b, c, rfl⟩

theorem list6 {α : Type} : ∀ {l : List α}, l.length = 6 → ∃ a b c d e f, l = [a, b, c, d, e, f]
  | [a, b, c, d, e, f], _ => ⟨a, b, c, d, e, f, rfl⟩

theorem wf_i64 {n : Int} (h : (Lit.int .i64 n).wf = true) : I64 n := by
  have h : (decide (IntKind.i64.min ≤ n) && decide (n ≤ IntKind.i64.max)) = true := h
  rw [Bool.and_eq_true, decide_eq_true_iff, decide_eq_true_iff] at h
  exact h

section
variable {H : Type} {enc : TypeId × Value → H} {W : World}

theorem node_up {n : Nat} {cs : List Value} (h : ∃ y, trodA enc Tryd.prog W n 42 cs = some y ∧ RFits Tryd.prog 42 y.1) : ∃ x : ToldD × Value, cs = nodeC x ∧ StatIn x.1.stat ∧ SlB (allOf W) x.2 x.1.data ∧ x.1.path.data.toList.length ≤ 140737488351232 := by
  obtain ⟨y, h, hf⟩ := h
  obtain ⟨hl, m, _, hx⟩ := fields_up (P := Tryd.prog) Tryd.underlying42 h hf
  have hl : cs.length = 12 := hl.trans (by kernel_rfl)
  obtain ⟨v0, v1, v2, v3, v4, v5, v6, v7, v8, v9, v10, v11, rfl⟩ := list12 hl
  obtain ⟨p, rfl, hp⟩ := up_string (v := v0) (l := [v1, v2, v3, v4, v5, v6, v7, v8, v9, v10, v11]) Tryd.underlying9 (by kernel_rfl) (hx 0 _ rfl)
  obtain ⟨bs, hbs⟩ := up_bytes (v := v1) (l := [v2, v3, v4, v5, v6, v7, v8, v9, v10, v11]) Tryd.underlying30 Tryd.underlying5 (by kernel_rfl) (by kernel_rfl) (by kernel_rfl) (hx 1 _ rfl)
  have he : ∃ y, trodA enc Tryd.prog W m 40 ([v2, v3, v4, v5, v6, v7, v8, v9, v10, v11].take (Tryd.prog.cellsOf 40)) = some y ∧ RFits Tryd.prog 40 y.1 := hx 2 _ rfl
  rw [show Tryd.prog.cellsOf 40 = 10 by kernel_rfl] at he
  obtain ⟨ye, he, hfe⟩ := he
  obtain ⟨_, me, _, hxe⟩ := fields_up (P := Tryd.prog) Tryd.underlying40 he hfe
  obtain ⟨c2, rfl, w2⟩ := up_int (v := v2) (l := [v3, v4, v5, v6, v7, v8, v9, v10, v11]) Tryd.underlying24 (by kernel_rfl) (hxe 0 _ rfl)
  obtain ⟨c3, rfl, w3⟩ := up_int (v := v3) (l := [v4, v5, v6, v7, v8, v9, v10, v11]) Tryd.underlying24 (by kernel_rfl) (hxe 1 _ rfl)
  obtain ⟨c4, rfl, w4⟩ := up_int (v := v4) (l := [v5, v6, v7, v8, v9, v10, v11]) Tryd.underlying24 (by kernel_rfl) (hxe 2 _ rfl)
  obtain ⟨c5, rfl, w5⟩ := up_int (v := v5) (l := [v6, v7, v8, v9, v10, v11]) Tryd.underlying2 (by kernel_rfl) (hxe 3 _ rfl)
  obtain ⟨c6, rfl, w6⟩ := up_int (v := v6) (l := [v7, v8, v9, v10, v11]) Tryd.underlying2 (by kernel_rfl) (hxe 4 _ rfl)
  obtain ⟨c7, rfl, w7⟩ := up_int (v := v7) (l := [v8, v9, v10, v11]) Tryd.underlying3 (by kernel_rfl) (hxe 5 _ rfl)
  obtain ⟨c8, rfl, w8⟩ := up_int (v := v8) (l := [v9, v10, v11]) Tryd.underlying3 (by kernel_rfl) (hxe 6 _ rfl)
  obtain ⟨c9, rfl, w9⟩ := up_int (v := v9) (l := [v10, v11]) Tryd.underlying2 (by kernel_rfl) (hxe 7 _ rfl)
  obtain ⟨c10, rfl, _⟩ := up_int (v := v10) (l := [v11]) Tryd.underlying3 (by kernel_rfl) (hxe 8 _ rfl)
  obtain ⟨c11, rfl, _⟩ := up_int (v := v11) (l := []) Tryd.underlying3 (by kernel_rfl) (hxe 9 _ rfl)
  exact ⟨(⟨p, bs, ⟨c2, c3, c4, c5, c6, c7, c8, c9, c10, c11⟩⟩, v1), rfl, ⟨wf_i64 w2, wf_i64 w3, wf_i64 w4, wf_i64 w5, wf_i64 w6, wf_i64 w7, wf_i64 w8, wf_i64 w9⟩, hbs, hp⟩

theorem sit_up {n : Nat} {cs : List Value} (h : ∃ y, trodA enc Tryd.prog W n 59 cs = some y ∧ RFits Tryd.prog 59 y.1) : ∃ x : SitD, cs = sitC x ∧ SitIn x := by
  obtain ⟨y, h, hf⟩ := h
  obtain ⟨hl, m, _, hx⟩ := fields_up (P := Tryd.prog) Tryd.underlying59 h hf
  have hl : cs.length = 3 := hl.trans (by kernel_rfl)
  obtain ⟨v0, v1, v2, rfl⟩ := list3 hl
  obtain ⟨c0, rfl, w0⟩ := up_int (v := v0) (l := [v1, v2]) Tryd.underlying2 (by kernel_rfl) (hx 0 _ rfl)
  obtain ⟨c1, rfl, w1⟩ := up_int (v := v1) (l := [v2]) Tryd.underlying3 (by kernel_rfl) (hx 1 _ rfl)
  obtain ⟨c2, rfl, w2⟩ := up_int (v := v2) (l := []) Tryd.underlying3 (by kernel_rfl) (hx 2 _ rfl)
  exact ⟨⟨c0, c1, c2⟩, rfl, wf_i64 w0, wf_i64 w1, wf_i64 w2⟩

theorem nodes_in {n : Nat} {v : Value} {tl : List Value} (h : ∃ y, trodA enc Tryd.prog W n 22 ((v :: tl).take (Tryd.prog.cellsOf 22)) = some y ∧ RFits Tryd.prog 22 y.1) :
    ∃ l : List (ToldD × Value), NodesR (allOf W) v l ∧ ShortL l ∧ ∀ x ∈ l, StatIn x.1.stat := by
  obtain ⟨y, h, hf⟩ := up_one (by kernel_rfl) h
  obtain ⟨rows, h1, h2, h3⟩ := slice_up (es := 12) (B := 120) Tryd.underlying22 (by kernel_rfl) (by decide) (by kernel_rfl) h hf
  have key : ∀ rows : List (List Value), (∀ r ∈ rows, r.length = 12 ∧ ∃ m y, m < n ∧ trodA enc Tryd.prog W m 42 r = some y ∧ RFits Tryd.prog 42 y.1) → ∃ l : List (ToldD × Value), rows = l.map nodeC ∧ (∀ x ∈ l, SlB (allOf W) x.2 x.1.data) ∧ ShortL l ∧ ∀ x ∈ l, StatIn x.1.stat := by
    intro rows
    induction rows with
    | nil => exact fun _ => ⟨[], rfl, fun _ hx => (by cases hx), fun _ hx => (by cases hx), fun _ hx => (by cases hx)⟩
    | cons r rows ih =>
      intro h
      obtain ⟨l, rfl, k1, k2, k0⟩ := ih fun x hx => h x (List.mem_cons_of_mem _ hx)
      obtain ⟨_, m, y, _, h5, h6⟩ := h r (by simp)
      obtain ⟨x, rfl, k5, k3, k4⟩ := node_up ⟨y, h5, h6⟩
      refine ⟨x :: l, rfl, fun z hz => ?_, fun z hz => ?_, fun z hz => ?_⟩
      · rcases List.mem_cons.1 hz with rfl | hz
        · exact k3
        · exact k1 z hz
      · rcases List.mem_cons.1 hz with rfl | hz
        · exact k4
        · exact k2 z hz
      · rcases List.mem_cons.1 hz with rfl | hz
        · exact k5
        · exact k0 z hz
  obtain ⟨l, rfl, k1, k2, k0⟩ := key rows h3
  rw [List.length_map] at h1
  rw [← List.flatMap_def] at h1
  exact ⟨l, ⟨h1, k1⟩, k2, k0⟩

theorem sits_in {n : Nat} {v : Value} {tl : List Value} (h : ∃ y, trodA enc Tryd.prog W n 23 ((v :: tl).take (Tryd.prog.cellsOf 23)) = some y ∧ RFits Tryd.prog 23 y.1) :
    ∃ l : List SitD, SlS (allOf W) v l ∧ ∀ s ∈ l, SitIn s := by
  obtain ⟨y, h, hf⟩ := up_one (by kernel_rfl) h
  obtain ⟨rows, h1, h2, h3⟩ := slice_up (es := 3) (B := 24) Tryd.underlying23 (by kernel_rfl) (by decide) (by kernel_rfl) h hf
  have key : ∀ rows : List (List Value), (∀ r ∈ rows, r.length = 3 ∧ ∃ m y, m < n ∧ trodA enc Tryd.prog W m 59 r = some y ∧ RFits Tryd.prog 59 y.1) → ∃ l : List SitD, rows = l.map sitC ∧ ∀ s ∈ l, SitIn s := by
    intro rows
    induction rows with
    | nil => exact fun _ => ⟨[], rfl, fun _ hx => (by cases hx)⟩
    | cons r rows ih =>
      intro h
      obtain ⟨l, rfl, k0⟩ := ih fun x hx => h x (List.mem_cons_of_mem _ hx)
      obtain ⟨_, m, y, _, h5, h6⟩ := h r (by simp)
      obtain ⟨x, rfl, k1⟩ := sit_up ⟨y, h5, h6⟩
      refine ⟨x :: l, rfl, fun z hz => ?_⟩
      rcases List.mem_cons.1 hz with rfl | hz
      · exact k1
      · exact k0 z hz
  obtain ⟨l, rfl, k0⟩ := key rows h3
  rw [List.length_map] at h1 h2
  rw [← List.flatMap_def] at h1
  exact ⟨l, ⟨h1, by omega⟩, k0⟩

/-- An image as one argument. -/
def ImgV (g : ImgG) (v : Value) (A : Arena) : Prop := ∃ x y vm, v = .agg #[x, y, .int .i64 g.ver, vm, .int .i64 g.f, .int .i64 g.t] ∧ NodesR A x g.l ∧ SlS A y g.ss ∧ MemR A vm g.ms ∧ ShortL g.l ∧ ImgIn g

theorem image_up {n : Nat} {cs : List Value} (h : ∃ y, trodA enc Tryd.prog W n 29 cs = some y ∧ RFits Tryd.prog 29 y.1) : ∃ g, ImgV g (.agg cs.toArray) (allOf W) := by
  obtain ⟨y, h, hf⟩ := h
  obtain ⟨hl, m, _, hx⟩ := fields_up (P := Tryd.prog) Tryd.underlying29 h hf
  have hl : cs.length = 6 := hl.trans (by kernel_rfl)
  obtain ⟨v0, v1, v2, v3, v4, v5, rfl⟩ := list6 hl
  obtain ⟨l, hl1, hl2, hl3⟩ := nodes_in (v := v0) (tl := [v1, v2, v3, v4, v5]) (hx 0 _ rfl)
  obtain ⟨ss, hs1, hs2⟩ := sits_in (v := v1) (tl := [v2, v3, v4, v5]) (hx 1 _ rfl)
  have he : ∃ y, trodA enc Tryd.prog W m 27 ([v2, v3, v4, v5].take (Tryd.prog.cellsOf 27)) = some y ∧ RFits Tryd.prog 27 y.1 := hx 2 _ rfl
  rw [show Tryd.prog.cellsOf 27 = 2 by kernel_rfl] at he
  obtain ⟨ye, he, hfe⟩ := he
  obtain ⟨_, me, _, hxe⟩ := fields_up (P := Tryd.prog) Tryd.underlying27 he hfe
  obtain ⟨ver, rfl, _⟩ := up_int (v := v2) (l := [v3]) Tryd.underlying24 (by kernel_rfl) (hxe 0 _ rfl)
  obtain ⟨ms, hms⟩ := members_up (v := v3) (l := []) (hxe 1 _ rfl)
  obtain ⟨f, rfl, w1⟩ := up_int (v := v4) (l := [v5]) Tryd.underlying24 (by kernel_rfl) (hx 3 _ rfl)
  obtain ⟨t, rfl, w2⟩ := up_int (v := v5) (l := []) Tryd.underlying24 (by kernel_rfl) (hx 4 _ rfl)
  exact ⟨⟨l, ss, ver, ms, f, t⟩, v0, v1, v3, rfl, hl1, hs1, hms, hl2, hl3, hs2, wf_i64 w1, wf_i64 w2⟩

end

end
end Go.Proofs.YtiabopbigplklaaDoor

namespace Go.Proofs.YtiabopbigplklaaDoor
open Go.Sx Go.RowKit
noncomputable section

theorem zig_zag (u : Nat) : zig (zag u) = u := by
  unfold zig zag
  split <;> split <;> omega

theorem u8_of (c : UInt8) : UInt8.ofNat c.toNat = c := UInt8.toNat_inj.1 (UInt8.toNat_ofNat_of_lt' c.toNat_lt)

theorem vgetF_inv : ∀ (l : List UInt8) (f k u v : Nat) (r : List UInt8), f + k = 9 → vgetF k u l = some (v, r) → ∃ w, v = u + w * 128 ^ k ∧ l = vput f w ++ r ∧ (0 < k → 0 < w)
  | [], _, _, _, _, _, _, h => by cases h
  | c :: l, f, k, u, v, r, hk, h => by
    unfold vgetF at h
    have hc := c.toNat_lt
    split at h
    · rename_i h1
      obtain ⟨f', rfl⟩ : ∃ f', f = f' + 1 := ⟨f - 1, by omega⟩
      obtain ⟨w', e1, e2, e3⟩ := vgetF_inv l f' (k + 1) _ v r (by omega) h
      have hw := e3 (by omega)
      refine ⟨c.toNat - 128 + 128 * w', ?_, ?_, fun _ => by omega⟩
      · rw [e1, Nat.pow_succ, Nat.add_mul, Nat.add_assoc]
        congr 2
        rw [Nat.mul_comm (128 ^ k) 128, ← Nat.mul_assoc, Nat.mul_comm w' 128]
      · unfold vput
        rw [if_neg (by omega), show (c.toNat - 128 + 128 * w') % 128 + 128 = c.toNat by omega, show (c.toNat - 128 + 128 * w') / 128 = w' by omega, u8_of, e2]
        rfl
    · rename_i h1
      split at h
      · cases h
      · rename_i h2
        injection h with h
        injection h with h3 h4
        subst h3; subst h4
        refine ⟨c.toNat, rfl, ?_, fun _ => by omega⟩
        cases f with
        | zero =>
          show c :: l = [UInt8.ofNat c.toNat] ++ l
          rw [u8_of]; rfl
        | succ f =>
          unfold vput
          rw [if_pos (by omega), u8_of]
          rfl

theorem vget_inv {l : List UInt8} {n : Int} {r : List UInt8} (h : vget l = some (n, r)) : l = vints n ++ r := by
  unfold vget at h
  split at h
  · rename_i x hx
    obtain ⟨v, r'⟩ := x
    injection h with h
    injection h with h1 h2
    have h1 : zag v = n := h1
    have h2 : r' = r := h2
    subst h1; subst h2
    obtain ⟨w, e1, e2, -⟩ := vgetF_inv l 9 0 0 v r' rfl hx
    have e1 : v = w := by omega
    subst e1
    unfold vints
    rw [zig_zag]
    exact e2
  · cases h

/-- Reading a number that was put; and back. -/
theorem pInt_put {n : Int} (h1 : -9223372036854775808 ≤ n) (h2 : n ≤ 9223372036854775807) (r : List UInt8) : pInt (some (vints n ++ r)) = (n, some r) := by
  show (match vget (vints n ++ r) with
    | some (n, r) => (n, some r)
    | none => (0, none)) = _
  rw [vget_vints h1 h2]

theorem pInt_inv {l r : List UInt8} (h : (pInt (some l)).2 = some r) : l = vints (pInt (some l)).1 ++ r := by
  have e : pInt (some l) = match vget l with
    | some (n, r) => (n, some r)
    | none => (0, none) := rfl
  cases hv : vget l with
  | none => rw [e, hv] at h; cases h
  | some x =>
    obtain ⟨n, r'⟩ := x
    rw [hv] at e
    rw [e] at h ⊢
    injection h with h
    subst h
    exact vget_inv hv

theorem pCount_inv {most : Int} {l r : List UInt8} (h : (pCount most (some l)).2 = some r) : l = vints (pCount most (some l)).1 ++ r ∧ 0 ≤ (pCount most (some l)).1 ∧ (pCount most (some l)).1 ≤ most := by
  unfold pCount at h ⊢
  split at h
  · cases h
  · rename_i h1
    rw [if_neg h1]
    exact ⟨pInt_inv h, by omega, by omega⟩

theorem pText_inv {most : Int} {l r : List UInt8} (h : (pText most (some l)).2 = some r) : l = vints ((pText most (some l)).1.length : Nat) ++ (pText most (some l)).1 ++ r := by
  unfold pText at h ⊢
  cases hc : (pCount most (some l)).2 with
  | none => rw [hc] at h; cases h
  | some l1 =>
    rw [hc] at h
    have hi := pCount_inv hc
    dsimp only at h ⊢
    split at h
    · rename_i h1
      rw [if_pos h1]
      injection h with h
      subst h
      rw [List.length_take, Nat.min_eq_left h1, Int.toNat_of_nonneg hi.2.1, List.append_assoc, List.take_append_drop]
      exact hi.1
    · cases h

end
end Go.Proofs.YtiabopbigplklaaDoor

namespace Go.Proofs.YtiabopbigplklaaDoor
open Go.Sx Go.RowKit
noncomputable section

theorem crcBit_zero {c : BitVec 32} (h : crcBit c = 0#32) : c = 0#32 := by
  unfold crcBit at h
  cases h0 : c.getLsbD 0 with
  | true =>
    rw [h0, if_pos rfl] at h
    have h31 := congrArg (fun x => x.getLsbD 31) h
    rw [BitVec.getLsbD_xor, BitVec.getLsbD_ushiftRight, BitVec.getLsbD_of_ge c _ (by omega)] at h31
    exact absurd h31 (by decide)
  | false =>
    rw [h0, if_neg Bool.false_ne_true, BitVec.xor_zero] at h
    apply BitVec.eq_of_getLsbD_eq
    intro i hi
    rw [BitVec.getLsbD_zero]
    cases i with
    | zero => exact h0
    | succ i =>
      have h1 := congrArg (fun x => x.getLsbD i) h
      rw [BitVec.getLsbD_ushiftRight, BitVec.getLsbD_zero, Nat.add_comm] at h1
      exact h1

theorem crcBit_inj {a b : BitVec 32} (h : crcBit a = crcBit b) : a = b := by
  have h1 : crcBit (a ^^^ b) = 0#32 := by rw [crcBit_xor, h, BitVec.xor_self]
  have h2 := crcBit_zero h1
  have h3 : a ^^^ b ^^^ b = 0#32 ^^^ b := by rw [h2]
  rw [BitVec.xor_assoc, BitVec.xor_self, BitVec.xor_zero, BitVec.zero_xor] at h3
  exact h3

theorem crcBits_inj : ∀ (n : Nat) {a b : BitVec 32}, crcBits n a = crcBits n b → a = b
  | 0, _, _, h => h
  | n + 1, _, _, h => crcBit_inj (crcBits_inj n h)

theorem crcByte_inj {a b : BitVec 32} {x : UInt8} (h : crcByte a x = crcByte b x) : a = b := by
  have h1 := crcBits_inj 8 h
  have h2 : a ^^^ x.toBitVec.setWidth 32 ^^^ x.toBitVec.setWidth 32 = b ^^^ x.toBitVec.setWidth 32 ^^^ x.toBitVec.setWidth 32 := by rw [h1]
  rw [BitVec.xor_assoc, BitVec.xor_self, BitVec.xor_zero, BitVec.xor_assoc, BitVec.xor_self, BitVec.xor_zero] at h2
  exact h2

theorem crcByte_inj2 {a : BitVec 32} {x y : UInt8} (h : crcByte a x = crcByte a y) : x = y := by
  have h1 := crcBits_inj 8 h
  have h2 : a ^^^ (a ^^^ x.toBitVec.setWidth 32) = a ^^^ (a ^^^ y.toBitVec.setWidth 32) := by rw [h1]
  rw [← BitVec.xor_assoc, BitVec.xor_self, BitVec.zero_xor, ← BitVec.xor_assoc, BitVec.xor_self, BitVec.zero_xor] at h2
  have h3 := congrArg BitVec.toNat h2
  rw [BitVec.toNat_setWidth, BitVec.toNat_setWidth] at h3
  have hx : x.toBitVec.toNat < 256 := x.toNat_lt
  have hy : y.toBitVec.toNat < 256 := y.toNat_lt
  exact UInt8.toNat_inj.1 (by show x.toBitVec.toNat = y.toBitVec.toNat; omega)

theorem crcFold_inj : ∀ (l : List UInt8) {a b : BitVec 32}, l.foldl crcByte a = l.foldl crcByte b → a = b
  | [], _, _, h => h
  | _ :: l, _, _, h => crcByte_inj (crcFold_inj l h)

theorem crcFold_one (p q : List UInt8) (x y : UInt8) (c : BitVec 32) (h : (p ++ x :: q).foldl crcByte c = (p ++ y :: q).foldl crcByte c) : x = y := by
  rw [List.foldl_append, List.foldl_append, List.foldl_cons, List.foldl_cons] at h
  exact crcByte_inj2 (crcFold_inj q h)

theorem crcSum_one {p q : List UInt8} {x y : UInt8} (h : crcSum (p ++ x :: q) = crcSum (p ++ y :: q)) : x = y := by
  have h1 : ~~~ ~~~ crcFold (p ++ x :: q) (BitVec.allOnes 32) = ~~~ ~~~ crcFold (p ++ y :: q) (BitVec.allOnes 32) := congrArg (fun x => ~~~ x) h
  rw [BitVec.not_not, BitVec.not_not] at h1
  exact crcFold_one p q x y _ h1

end
end Go.Proofs.YtiabopbigplklaaDoor

namespace Go.Proofs.YtiabopbigplklaaDoor
open Go.Sx Go.RowKit
noncomputable section
open Classical

theorem mod8 (n : Nat) : n % 256 < UInt8.size := Nat.mod_lt _ (by decide)

theorem numL_four {n : Nat} (h : n < 4294967296) (r : List UInt8) : numL (fourL n ++ r) = n := by
  show (UInt8.ofNat (n % 256)).toNat + (UInt8.ofNat (n / 256 % 256)).toNat * 256 + (UInt8.ofNat (n / 65536 % 256)).toNat * 65536 + (UInt8.ofNat (n / 16777216 % 256)).toNat * 16777216 = n
  rw [UInt8.toNat_ofNat_of_lt' (mod8 _), UInt8.toNat_ofNat_of_lt' (mod8 _), UInt8.toNat_ofNat_of_lt' (mod8 _), UInt8.toNat_ofNat_of_lt' (mod8 _)]
  omega

theorem four_num {l : List UInt8} (h : 4 ≤ l.length) : fourL (numL l) = l.take 4 := by
  match l, h with
  | a :: b :: c :: d :: r, _ =>
    have ha := a.toNat_lt
    have hb := b.toNat_lt
    have hc := c.toNat_lt
    have hd := d.toNat_lt
    have e : numL (a :: b :: c :: d :: r) = a.toNat + b.toNat * 256 + c.toNat * 65536 + d.toNat * 16777216 := rfl
    rw [e]
    show _ = [a, b, c, d]
    unfold fourL
    rw [show (a.toNat + b.toNat * 256 + c.toNat * 65536 + d.toNat * 16777216) % 256 = a.toNat by omega, show (a.toNat + b.toNat * 256 + c.toNat * 65536 + d.toNat * 16777216) / 256 % 256 = b.toNat by omega,
      show (a.toNat + b.toNat * 256 + c.toNat * 65536 + d.toNat * 16777216) / 65536 % 256 = c.toNat by omega, show (a.toNat + b.toNat * 256 + c.toNat * 65536 + d.toNat * 16777216) / 16777216 % 256 = d.toNat by omega]
    simp only [UInt8.ofNat_toNat]

theorem fourL_inj {n m : Nat} (hn : n < 4294967296) (hm : m < 4294967296) (h : fourL n = fourL m) : n = m := by
  have h1 := numL_four hn []
  rw [h, numL_four hm []] at h1
  exact h1.symm

theorem fourL_len (n : Nat) : (fourL n).length = 4 := rfl

theorem frameL_len (p : List UInt8) : (frameL p).length = 8 + p.length := by
  unfold frameL
  rw [List.length_append, List.length_append, fourL_len, fourL_len]

theorem unfr_frame {p : List UInt8} (hp : p.length ≤ 1048576) : unfrL (frameL p) = some (p, 8 + p.length) := by
  have e1 : numL (frameL p) = p.length := by
    unfold frameL
    rw [List.append_assoc, numL_four (by omega)]
  have e2 : (frameL p).drop 4 = fourL (crcSum p).toNat ++ p := rfl
  have e3 : (frameL p).drop 8 = p := rfl
  unfold unfrL
  rw [e1, e2, e3, List.take_of_length_le (Nat.le_refl _), frameL_len, numL_four (crcSum p).isLt, if_neg]
  rintro (h | h | h | h)
  · omega
  · omega
  · omega
  · exact h rfl

theorem unfr_inv {l p : List UInt8} {n : Nat} (h : unfrL l = some (p, n)) (hn : n = l.length) : l = frameL p ∧ p.length ≤ 1048576 := by
  unfold unfrL at h
  split at h
  · cases h
  · rename_i hc
    injection h with h
    injection h with h1 h2
    have c1 : 8 ≤ l.length := by
      by_cases h : 8 ≤ l.length
      · exact h
      · exact absurd (.inl (by omega)) hc
    have c2 : numL l ≤ 1048576 := by
      by_cases h : numL l ≤ 1048576
      · exact h
      · exact absurd (.inr (.inl (by omega))) hc
    have c4 : (crcSum ((l.drop 8).take (numL l))).toNat = numL (l.drop 4) := Classical.byContradiction fun h => hc (.inr (.inr (.inr h)))
    have hl : l.length = 8 + numL l := by omega
    have hp : (l.drop 8).take (numL l) = l.drop 8 := List.take_of_length_le (by rw [List.length_drop]; omega)
    rw [hp] at h1 c4
    subst h1
    refine ⟨?_, by rw [List.length_drop]; omega⟩
    unfold frameL
    rw [c4, four_num (l := l.drop 4) (by rw [List.length_drop]; omega), List.length_drop, show l.length - 8 = numL l by omega, four_num (by omega)]
    have e8 : l.drop 8 = (l.drop 4).drop 4 := by rw [List.drop_drop]
    rw [e8, List.append_assoc, List.take_append_drop, List.take_append_drop]

theorem getI_frame {l : List UInt8} (h : getI l ≠ none) : ∃ p, l = frameL p ∧ p.length ≤ 1048576 := by
  unfold getI at h
  cases hu : unfrL l with
  | none => rw [hu] at h; exact absurd rfl h
  | some pn =>
    obtain ⟨p, n⟩ := pn
    rw [hu] at h
    by_cases hc : n = l.length ∧ (pByte (some p)).1 = 1
    · exact ⟨p, unfr_inv hu hc.1⟩
    · exact absurd (if_neg hc) h

theorem frame_head {p q r s : List UInt8} (hp : p.length ≤ 1048576) (hq : q.length ≤ 1048576) (h : frameL p ++ r = frameL q ++ s) : p.length = q.length := by
  have h1 := congrArg (List.take 4) h
  have e1 : (frameL p ++ r).take 4 = fourL p.length := rfl
  have e2 : (frameL q ++ s).take 4 = fourL q.length := rfl
  rw [e1, e2] at h1
  exact fourL_inj (by omega) (by omega) h1

/-- More behind it. -/
theorem getI_more {p r : List UInt8} (hp : p.length ≤ 1048576) (hr : r ≠ []) : getI (frameL p ++ r) = none := Classical.byContradiction fun h => by
  obtain ⟨q, e, hq⟩ := getI_frame h
  have h1 := frame_head (r := r) (s := []) hp hq (by rw [List.append_nil]; exact e)
  have h2 := congrArg List.length e
  rw [List.length_append, frameL_len, frameL_len] at h2
  exact hr (List.length_eq_zero_iff.1 (by omega))

/-- Less. -/
theorem getI_cut {p : List UInt8} (hp : p.length ≤ 1048576) {j : Nat} (hj : j < (frameL p).length) : getI ((frameL p).take j) = none := Classical.byContradiction fun h => by
  obtain ⟨q, e, hq⟩ := getI_frame h
  have h1 := frame_head (r := []) (s := (frameL p).drop j) hp hq (by rw [List.append_nil, ← e, List.take_append_drop])
  have h2 := congrArg List.length e
  rw [List.length_take, frameL_len] at h2
  rw [frameL_len] at hj h2
  omega

/-- One byte is another one. -/
theorem getI_turn {p a b : List UInt8} {x y : UInt8} (h : frameL p = a ++ x :: b) (hxy : x ≠ y) : getI (a ++ y :: b) = none := Classical.byContradiction fun h0 => by
  obtain ⟨q, e, hq⟩ := getI_frame h0
  have hlen : p.length = q.length := by
    have h1 := congrArg List.length h
    have h2 := congrArg List.length e
    rw [frameL_len, List.length_append, List.length_cons] at h1
    rw [frameL_len, List.length_append, List.length_cons] at h2
    omega
  have hp8 : (frameL p).drop 8 = p := rfl
  have hq8 : (frameL q).drop 8 = q := rfl
  have key4 : (a ++ x :: b).take 4 = (a ++ y :: b).take 4 := by
    rw [← h, e]
    show fourL p.length = fourL q.length
    rw [hlen]
  by_cases k4 : a.length < 4
  · rw [List.take_append, List.take_append] at key4
    have key := List.append_cancel_left key4
    obtain ⟨m, hm⟩ : ∃ m, 4 - a.length = m + 1 := ⟨4 - a.length - 1, by omega⟩
    rw [hm, List.take_succ_cons, List.take_succ_cons] at key
    injection key with key
    exact hxy key
  by_cases k8 : a.length < 8
  · have d8 : (a ++ x :: b).drop 8 = (a ++ y :: b).drop 8 := by
      obtain ⟨m, hm⟩ : ∃ m, 8 - a.length = m + 1 := ⟨8 - a.length - 1, by omega⟩
      rw [List.drop_append, List.drop_append, hm, List.drop_succ_cons, List.drop_succ_cons]
    rw [← h, e, hp8, hq8] at d8
    rw [← d8, h] at e
    have e := List.append_cancel_left e
    injection e with e
    exact hxy e.symm
  · have dp : p = a.drop 8 ++ x :: b := by rw [← hp8, h, List.drop_append_of_le_length (by omega)]
    have dq : q = a.drop 8 ++ y :: b := by rw [← hq8, ← e, List.drop_append_of_le_length (by omega)]
    have t8 : (frameL p).take 8 = (frameL q).take 8 := by rw [h, ← e, List.take_append_of_le_length (by omega), List.take_append_of_le_length (by omega)]
    have tp : (frameL p).take 8 = fourL p.length ++ fourL (crcSum p).toNat := rfl
    have tq : (frameL q).take 8 = fourL q.length ++ fourL (crcSum q).toNat := rfl
    rw [tp, tq, hlen] at t8
    have t8 := fourL_inj (crcSum p).isLt (crcSum q).isLt (List.append_cancel_left t8)
    have t8 := BitVec.eq_of_toNat_eq t8
    rw [dp, dq] at t8
    exact hxy (crcSum_one t8)

end
end Go.Proofs.YtiabopbigplklaaDoor

namespace Go.Proofs.YtiabopbigplklaaDoor
open Go.Sx Go.RowKit
noncomputable section
open Classical

theorem pCount_put {most : Int} {n : Nat} (h : (n : Int) ≤ most) (hm : most ≤ 9223372036854775807) (r : List UInt8) : pCount most (some (vints n ++ r)) = ((n : Int), some r) := by
  unfold pCount
  rw [pInt_put (by omega) (by omega)]
  exact if_neg (by show ¬ ((n : Int) < 0 ∨ most < (n : Int)); omega)

theorem pText_put {most : Int} {l : List UInt8} (h : (l.length : Int) ≤ most) (hm : most ≤ 9223372036854775807) (r : List UInt8) : pText most (some (vints l.length ++ l ++ r)) = (l, some r) := by
  unfold pText
  rw [List.append_assoc, pCount_put h hm]
  show (if (l.length : Int).toNat ≤ (l ++ r).length then _ else _) = _
  rw [Int.toNat_natCast, if_pos (by rw [List.length_append]; omega), List.take_left, List.drop_left]

theorem pIs_put : ∀ (zs : List Int) (_ : ∀ a ∈ zs, I64 a) (r : List UInt8) (k : Nat), k ≤ zs.length → pIs k (some (zs.flatMap vints ++ r)) = some ((zs.drop k).flatMap vints ++ r)
  | _, _, _, 0, _ => rfl
  | zs, ha, r, k + 1, hk => by
    show (pInt (pIs k (some (zs.flatMap vints ++ r)))).2 = _
    rw [pIs_put zs ha r k (by omega), List.drop_eq_getElem_cons (by omega : k < zs.length), List.flatMap_cons, List.append_assoc]
    have h := ha zs[k] (List.getElem_mem _)
    rw [pInt_put h.1 h.2]

theorem pI_put {zs : List Int} (ha : ∀ a ∈ zs, I64 a) (r : List UInt8) {k : Nat} (hk : k < zs.length) : pI k (some (zs.flatMap vints ++ r)) = zs[k] := by
  show (pInt (pIs k (some (zs.flatMap vints ++ r)))).1 = _
  rw [pIs_put zs ha r k (by omega), List.drop_eq_getElem_cons hk, List.flatMap_cons, List.append_assoc]
  have h := ha zs[k] (List.getElem_mem _)
  rw [pInt_put h.1 h.2]

/-- A node as it is read. -/
def normN (x : ToldD) : ToldD := ⟨x.path, x.data, ⟨x.stat.czxid, x.stat.mzxid, x.stat.pzxid, x.stat.ctime, x.stat.mtime, x.stat.ver, x.stat.cver, x.stat.owner, x.data.length, 0⟩⟩

def statL (s : StatD) : List Int := [s.czxid, s.mzxid, s.pzxid, s.ctime, s.mtime, s.ver, s.cver, s.owner]

theorem statB_eq (s : StatD) : statB s = (statL s).flatMap vints := by
  simp [statB, statL, List.flatMap_cons]

theorem pNode_put {x : ToldD} (hf : NodeFits x) (hi : StatIn x.stat) (r : List UInt8) : pNode (some (nodeB x ++ r)) = (normN x, some r) := by
  have h1 := pathOk_len hf.1
  have h2 := hf.2.1
  have hs : ∀ a ∈ statL x.stat, I64 a := by
    obtain ⟨a1, a2, a3, a4, a5, a6, a7, a8⟩ := hi
    intro a ha
    simp only [statL, List.mem_cons, List.not_mem_nil, or_false] at ha
    rcases ha with rfl | rfl | rfl | rfl | rfl | rfl | rfl | rfl <;> assumption
  have e : nodeB x ++ r = vints (x.path.data.toList.length : Nat) ++ x.path.data.toList ++ (vints (x.data.length : Nat) ++ x.data ++ ((statL x.stat).flatMap vints ++ r)) := by
    unfold nodeB
    rw [statB_eq]
    simp only [List.append_assoc]
  have t1 : pText 200 (some (nodeB x ++ r)) = (x.path.data.toList, some (vints (x.data.length : Nat) ++ x.data ++ ((statL x.stat).flatMap vints ++ r))) := by
    rw [e]
    exact pText_put (by omega) (by decide) _
  unfold pNode
  rw [t1]
  dsimp only
  rw [pText_put (by omega) (by decide)]
  dsimp only
  rw [pIs_put _ hs r 8 (Nat.le_refl _)]
  unfold nodeOf
  rw [pI_put hs r (k := 0) (by show 0 < 8; omega), pI_put hs r (k := 1) (by show 1 < 8; omega), pI_put hs r (k := 2) (by show 2 < 8; omega), pI_put hs r (k := 3) (by show 3 < 8; omega), pI_put hs r (k := 4) (by show 4 < 8; omega), pI_put hs r (k := 5) (by show 5 < 8; omega), pI_put hs r (k := 6) (by show 6 < 8; omega), pI_put hs r (k := 7) (by show 7 < 8; omega)]
  rfl

end
end Go.Proofs.YtiabopbigplklaaDoor

namespace Go.Proofs.YtiabopbigplklaaDoor
open Go.Sx Go.RowKit
noncomputable section
open Classical

theorem pNodes_put {l : List ToldD} (hf : ∀ x ∈ l, NodeFits x ∧ StatIn x.stat) (r : List UInt8) : ∀ k, k ≤ l.length → pNodes k (some (l.flatMap nodeB ++ r)) = ((l.take k).map normN, some ((l.drop k).flatMap nodeB ++ r))
  | 0, _ => rfl
  | k + 1, hk => by
    have ih := pNodes_put hf r k (by omega)
    show ((pNodes k _).1 ++ [(pNode (pNodes k _).2).1], (pNode (pNodes k _).2).2) = _
    have h := hf l[k] (List.getElem_mem _)
    rw [ih]
    dsimp only
    rw [List.drop_eq_getElem_cons (by omega : k < l.length), List.flatMap_cons, List.append_assoc, pNode_put h.1 h.2, List.take_succ_eq_append_getElem (by omega), List.map_append]
    rfl

theorem pSit_put {s : SitD} (h : SitIn s) (r : List UInt8) : pSit (some (sitB s ++ r)) = (s, some r) := by
  have hs : ∀ a ∈ [s.ses, s.tmo, s.turn], I64 a := by
    obtain ⟨a1, a2, a3⟩ := h
    intro a ha
    simp only [List.mem_cons, List.not_mem_nil, or_false] at ha
    rcases ha with rfl | rfl | rfl <;> assumption
  have e : sitB s ++ r = [s.ses, s.tmo, s.turn].flatMap vints ++ r := by
    simp [sitB, List.flatMap_cons]
  unfold pSit
  rw [e, pI_put hs r (k := 0) (by show 0 < 3; omega), pI_put hs r (k := 1) (by show 1 < 3; omega), pI_put hs r (k := 2) (by show 2 < 3; omega), pIs_put _ hs r 3 (Nat.le_refl _)]
  rfl

theorem pSits_put {l : List SitD} (hf : ∀ x ∈ l, SitIn x) (r : List UInt8) : ∀ k, k ≤ l.length → pSits k (some (l.flatMap sitB ++ r)) = (l.take k, some ((l.drop k).flatMap sitB ++ r))
  | 0, _ => rfl
  | k + 1, hk => by
    have ih := pSits_put hf r k (by omega)
    show ((pSits k _).1 ++ [(pSit (pSits k _).2).1], (pSit (pSits k _).2).2) = _
    have h := hf l[k] (List.getElem_mem _)
    rw [ih]
    dsimp only
    rw [List.drop_eq_getElem_cons (by omega : k < l.length), List.flatMap_cons, List.append_assoc, pSit_put h, List.take_succ_eq_append_getElem (by omega)]

theorem pCountI_put {most n : Int} (h0 : 0 ≤ n) (h : n ≤ most) (hm : most ≤ 9223372036854775807) (r : List UInt8) : pCount most (some (vints n ++ r)) = (n, some r) := by
  obtain ⟨k, rfl⟩ : ∃ k : Nat, n = k := ⟨n.toNat, by omega⟩
  exact pCount_put h hm r

theorem pMem_put {m : MemD} (h : MemIn m) (r : List UInt8) : pMem (some (memB m ++ r)) = (m, some r) := by
  obtain ⟨h1, h2, h3, h4, h5, h6, h7, h8⟩ := h
  have e : memB m ++ r = vints m.id ++ (vints m.role ++ (vints m.weight ++ (vints m.group ++ r))) := by
    unfold memB
    simp only [List.append_assoc]
  unfold pMem
  rw [e, pCountI_put h1 h2 (by decide)]
  dsimp only
  rw [pCountI_put h3 h4 (by decide)]
  dsimp only
  rw [pCountI_put h5 h6 (by decide)]
  dsimp only
  rw [pCountI_put h7 h8 (by decide)]

theorem pMems_put {l : List MemD} (hf : ∀ x ∈ l, MemIn x) (r : List UInt8) : ∀ k, k ≤ l.length → pMems k (some (l.flatMap memB ++ r)) = (l.take k, some ((l.drop k).flatMap memB ++ r))
  | 0, _ => rfl
  | k + 1, hk => by
    have ih := pMems_put hf r k (by omega)
    show ((pMems k _).1 ++ [(pMem (pMems k _).2).1], (pMem (pMems k _).2).2) = _
    have h := hf l[k] (List.getElem_mem _)
    rw [ih]
    dsimp only
    rw [List.drop_eq_getElem_cons (by omega : k < l.length), List.flatMap_cons, List.append_assoc, pMem_put h, List.take_succ_eq_append_getElem (by omega)]

theorem getE_put {ver : Int} {ms : List MemD} (h : ensD ver ms = 0) : getE (ensB ver ms) = some (ver, ms) := by
  obtain ⟨h1, h2, h3, h4⟩ := ens_in h
  have e : ensB ver ms = vints ver ++ (vints (ms.length : Nat) ++ (ms.flatMap memB ++ [])) := by
    unfold ensB
    simp only [List.append_assoc, List.append_nil]
  have a1 : pInt (some (ensB ver ms)) = (ver, some (vints (ms.length : Nat) ++ (ms.flatMap memB ++ []))) := by
    rw [e]
    exact pInt_put (by omega) (by omega) _
  have a2 := pCount_put (most := 7) (n := ms.length) (by omega) (by decide) (ms.flatMap memB ++ [])
  have a3 := pMems_put h4 [] ms.length (Nat.le_refl _)
  rw [List.take_length, List.drop_length] at a3
  unfold getE
  rw [a1]
  dsimp only
  rw [a2]
  dsimp only
  rw [Int.toNat_natCast, a3]
  exact if_pos ⟨rfl, h⟩

end
end Go.Proofs.YtiabopbigplklaaDoor

namespace Go.Proofs.YtiabopbigplklaaDoor
open Go.Sx Go.RowKit
noncomputable section
open Classical

theorem normN_fits {x : ToldD} (h : NodeFits x) : NodeFits (normN x) := by
  obtain ⟨h1, h2, a1, a2, a3, a4, a5, a6, a7, a8, -, -⟩ := h
  exact ⟨h1, h2, a1, a2, a3, a4, a5, a6, a7, a8, Int.natCast_nonneg _, Int.le_refl 0⟩

theorem right_norm {l : List ToldD} {ss : List SitD} {ver : Int} {ms : List MemD} {f t : Int} (h : RightI l ss ver ms f t) : RightI (l.map normN) ss ver ms f t := by
  obtain ⟨⟨h1, x, hx, hr⟩, h2⟩ := h
  refine ⟨⟨fun i hi => ?_, normN x, ?_, hr⟩, by rw [List.length_map]; exact h2⟩
  · rw [List.length_map] at hi
    obtain ⟨k1, k2⟩ := h1 i hi
    refine ⟨?_, fun h0 => ?_⟩
    · rw [List.getElem_map]
      exact normN_fits k1
    · rw [List.getElem_map, List.getElem_map]
      exact k2 h0
  · rw [List.head?_map, hx]
    rfl

theorem getI_of {l p r : List UInt8} {n : Nat} (h : unfrL l = some (p, n)) (hn : n = l.length) (hb : pByte (some p) = (1, some r)) : getI l = nodesI (some r) := by
  unfold getI
  rw [h]
  show (if n = l.length ∧ (pByte (some p)).1 = 1 then nodesI (pByte (some p)).2 else none) = _
  rw [hb]
  exact if_pos ⟨hn, rfl⟩

theorem getI_one {R : List UInt8} (h : (1 :: R).length ≤ 1048576) : getI (frameL (1 :: R)) = nodesI (some R) := getI_of (unfr_frame h) (frameL_len _).symm rfl

theorem loadB_eq (l : List ToldD) (ss : List SitD) (ver : Int) (ms : List MemD) (f t : Int) : loadB l ss ver ms f t = 1 :: (vints (l.length : Nat) ++ (l.flatMap nodeB ++ (vints (ss.length : Nat) ++ (ss.flatMap sitB ++ (vints ((ensB ver ms).length : Nat) ++ ensB ver ms ++ ([f, t].flatMap vints ++ [])))))) := by
  unfold loadB
  simp only [List.flatMap_cons, List.flatMap_nil, List.append_nil, List.append_assoc, List.cons_append, List.nil_append]

theorem tailI_put {ns : List ToldD} {ss : List SitD} {ver : Int} {ms : List MemD} {f t : Int} (h : RightI ns ss ver ms f t) (hf : I64 f) (ht : I64 t) (hel : (ensB ver ms).length ≤ 1048576) :
    tailI ns ss (some (vints ((ensB ver ms).length : Nat) ++ ensB ver ms ++ ([f, t].flatMap vints ++ []))) = some (ns, ss, ver, ms, f, t) := by
  have h2 : ∀ a ∈ [f, t], I64 a := by
    intro a ha
    simp only [List.mem_cons, List.not_mem_nil, or_false] at ha
    rcases ha with rfl | rfl <;> assumption
  have hE := h.2.2.2.1
  unfold tailI
  rw [pText_put (by omega) (by decide)]
  dsimp only
  rw [getE_put hE]
  dsimp only
  rw [pI_put h2 [] (k := 0) (by show 0 < 2; omega), pI_put h2 [] (k := 1) (by show 1 < 2; omega), pIs_put _ h2 [] 2 (Nat.le_refl _)]
  exact if_pos ⟨rfl, h⟩

theorem sitsI_put {ns : List ToldD} {ss : List SitD} (hs : ∀ s ∈ ss, SitIn s) (h : ss.length ≤ 200) (r : List UInt8) : sitsI ns (some (vints (ss.length : Nat) ++ (ss.flatMap sitB ++ r))) = tailI ns ss (some r) := by
  unfold sitsI
  rw [pCount_put (by omega) (by decide)]
  dsimp only
  rw [Int.toNat_natCast, pSits_put hs _ ss.length (Nat.le_refl _), List.take_length, List.drop_length]
  rfl

theorem nodesI_put {l : List ToldD} (hl : ∀ x ∈ l, NodeFits x ∧ StatIn x.stat) (h : l.length ≤ 500) (r : List UInt8) : nodesI (some (vints (l.length : Nat) ++ (l.flatMap nodeB ++ r))) = sitsI (l.map normN) (some r) := by
  unfold nodesI
  rw [pCount_put (by omega) (by decide)]
  dsimp only
  rw [Int.toNat_natCast, pNodes_put hl _ l.length (Nat.le_refl _), List.take_length, List.drop_length]
  rfl

theorem getI_put {l : List ToldD} {ss : List SitD} {ver : Int} {ms : List MemD} {f t : Int} (h : RightI l ss ver ms f t) (hl : ∀ x ∈ l, StatIn x.stat) (hs : ∀ s ∈ ss, SitIn s) (hf : I64 f) (ht : I64 t) (hlen : (loadB l ss ver ms f t).length ≤ 1048576) :
    getI (frameL (loadB l ss ver ms f t)) = some (l.map normN, ss, ver, ms, f, t) := by
  have hfit := right_fits h
  have hn := right_norm h
  have e := loadB_eq l ss ver ms f t
  have hel : (ensB ver ms).length ≤ 1048576 := by
    rw [e] at hlen
    simp only [List.length_cons, List.length_append] at hlen
    omega
  rw [e] at hlen ⊢
  rw [getI_one hlen, nodesI_put (fun x hx => ⟨hfit x hx, hl x hx⟩) h.2.1, sitsI_put hs h.2.2.1, tailI_put hn hf ht hel]

end
end Go.Proofs.YtiabopbigplklaaDoor

namespace Go.Proofs.YtiabopbigplklaaDoor
open Go.Sx Go.RowKit
noncomputable section
open Classical

theorem pInt_back {s : RdSt} {r : List UInt8} (h : (pInt s).2 = some r) : s = some (vints (pInt s).1 ++ r) := by
  cases s with
  | none => cases h
  | some l => exact congrArg some (pInt_inv h)

theorem pCount_back {most : Int} {s : RdSt} {r : List UInt8} (h : (pCount most s).2 = some r) : s = some (vints (pCount most s).1 ++ r) ∧ 0 ≤ (pCount most s).1 ∧ (pCount most s).1 ≤ most := by
  cases s with
  | none =>
    exfalso
    unfold pCount at h
    split at h <;> cases h
  | some l =>
    have h1 := pCount_inv h
    exact ⟨congrArg some h1.1, h1.2⟩

theorem pText_back {most : Int} {s : RdSt} {r : List UInt8} (h : (pText most s).2 = some r) : s = some (vints ((pText most s).1.length : Nat) ++ (pText most s).1 ++ r) := by
  cases s with
  | none =>
    exfalso
    unfold pText at h
    have e : (pCount most none).2 = none := by
      unfold pCount
      split <;> rfl
    rw [e] at h
    cases h
  | some l => exact congrArg some (pText_inv h)

theorem pIs_back : ∀ (k : Nat) {s : RdSt} {r : List UInt8}, pIs k s = some r → s = some (((List.range k).map fun i => pI i s).flatMap vints ++ r)
  | 0, s, r, h => h
  | k + 1, s, r, h => by
    have h1 := pInt_back (s := pIs k s) h
    have h2 := pIs_back k h1
    rw [List.range_succ, List.map_append, List.flatMap_append, List.append_assoc]
    refine h2.trans ?_
    congr 2
    show _ = [pI k s].flatMap vints ++ r
    rw [List.flatMap_cons, List.flatMap_nil, List.append_nil]
    rfl

theorem pNode_back {s : RdSt} {r : List UInt8} (h : (pNode s).2 = some r) : s = some (nodeB (pNode s).1 ++ r) := by
  have h1 : pIs 8 (pText 1000 (pText 200 s).2).2 = some r := h
  have h2 := pIs_back 8 h1
  have h3 := pText_back h2
  have h4 := pText_back h3
  refine h4.trans (congrArg some ?_)
  unfold nodeB statB
  show vints ((pText 200 s).1.length : Nat) ++ (pText 200 s).1 ++ (vints ((pText 1000 (pText 200 s).2).1.length : Nat) ++ (pText 1000 (pText 200 s).2).1 ++ ([pI 0 (pText 1000 (pText 200 s).2).2, pI 1 (pText 1000 (pText 200 s).2).2, pI 2 (pText 1000 (pText 200 s).2).2, pI 3 (pText 1000 (pText 200 s).2).2, pI 4 (pText 1000 (pText 200 s).2).2, pI 5 (pText 1000 (pText 200 s).2).2, pI 6 (pText 1000 (pText 200 s).2).2, pI 7 (pText 1000 (pText 200 s).2).2].flatMap vints ++ r)) =
    vints ((pText 200 s).1.length : Nat) ++ (pText 200 s).1 ++ (vints ((pText 1000 (pText 200 s).2).1.length : Nat) ++ (pText 1000 (pText 200 s).2).1) ++ (vints (pI 0 (pText 1000 (pText 200 s).2).2) ++ vints (pI 1 (pText 1000 (pText 200 s).2).2) ++ vints (pI 2 (pText 1000 (pText 200 s).2).2) ++ vints (pI 3 (pText 1000 (pText 200 s).2).2) ++ vints (pI 4 (pText 1000 (pText 200 s).2).2) ++ vints (pI 5 (pText 1000 (pText 200 s).2).2) ++ vints (pI 6 (pText 1000 (pText 200 s).2).2) ++ vints (pI 7 (pText 1000 (pText 200 s).2).2)) ++ r
  simp only [List.flatMap_cons, List.flatMap_nil, List.append_nil, List.append_assoc]

theorem pNodes_back : ∀ (k : Nat) {s : RdSt} {r : List UInt8}, (pNodes k s).2 = some r → s = some ((pNodes k s).1.flatMap nodeB ++ r)
  | 0, s, r, h => h
  | k + 1, s, r, h => by
    have h1 := pNode_back (s := (pNodes k s).2) h
    have h2 := pNodes_back k h1
    refine h2.trans (congrArg some ?_)
    show _ = ((pNodes k s).1 ++ [(pNode (pNodes k s).2).1]).flatMap nodeB ++ r
    rw [List.flatMap_append, List.flatMap_cons, List.flatMap_nil, List.append_nil, List.append_assoc]

theorem pSit_back {s : RdSt} {r : List UInt8} (h : (pSit s).2 = some r) : s = some (sitB (pSit s).1 ++ r) := by
  have h2 := pIs_back 3 (s := s) h
  refine h2.trans (congrArg some ?_)
  show [pI 0 s, pI 1 s, pI 2 s].flatMap vints ++ r = vints (pI 0 s) ++ vints (pI 1 s) ++ vints (pI 2 s) ++ r
  simp only [List.flatMap_cons, List.flatMap_nil, List.append_nil, List.append_assoc]

theorem pSits_back : ∀ (k : Nat) {s : RdSt} {r : List UInt8}, (pSits k s).2 = some r → s = some ((pSits k s).1.flatMap sitB ++ r)
  | 0, s, r, h => h
  | k + 1, s, r, h => by
    have h1 := pSit_back (s := (pSits k s).2) h
    have h2 := pSits_back k h1
    refine h2.trans (congrArg some ?_)
    show _ = ((pSits k s).1 ++ [(pSit (pSits k s).2).1]).flatMap sitB ++ r
    rw [List.flatMap_append, List.flatMap_cons, List.flatMap_nil, List.append_nil, List.append_assoc]

theorem pMem_back {s : RdSt} {r : List UInt8} (h : (pMem s).2 = some r) : s = some (memB (pMem s).1 ++ r) := by
  have h1 := pCount_back (s := (pCount 1000 (pCount 2 (pCount 7 s).2).2).2) h
  have h2 := pCount_back h1.1
  have h3 := pCount_back h2.1
  have h4 := pCount_back h3.1
  refine h4.1.trans (congrArg some ?_)
  show _ = vints (pCount 7 s).1 ++ vints (pCount 2 (pCount 7 s).2).1 ++ vints (pCount 1000 (pCount 2 (pCount 7 s).2).2).1 ++ vints (pCount 7 (pCount 1000 (pCount 2 (pCount 7 s).2).2).2).1 ++ r
  simp only [List.append_assoc]

theorem pMems_back : ∀ (k : Nat) {s : RdSt} {r : List UInt8}, (pMems k s).2 = some r → s = some ((pMems k s).1.flatMap memB ++ r)
  | 0, s, r, h => h
  | k + 1, s, r, h => by
    have h1 := pMem_back (s := (pMems k s).2) h
    have h2 := pMems_back k h1
    refine h2.trans (congrArg some ?_)
    show _ = ((pMems k s).1 ++ [(pMem (pMems k s).2).1]).flatMap memB ++ r
    rw [List.flatMap_append, List.flatMap_cons, List.flatMap_nil, List.append_nil, List.append_assoc]

theorem getE_back {l : List UInt8} {ver : Int} {ms : List MemD} (h : getE l = some (ver, ms)) : l = ensB ver ms := by
  unfold getE at h
  split at h
  · rename_i hc
    have h1 := pMems_back _ hc.1
    have h2 := pCount_back h1
    have h3 := pInt_back h2.1
    injection h with h
    injection h with e1 e2
    have hl := pMems_len (pCount 7 (pInt (some l)).2).2 (pCount 7 (pInt (some l)).2).1.toNat
    rw [e2] at hl h3
    rw [e1] at h3
    injection h3 with h3
    refine h3.trans ?_
    unfold ensB
    rw [List.append_nil, List.append_assoc, hl, Int.toNat_of_nonneg h2.2.1]
  · cases h

theorem tailI_back {ns : List ToldD} {ss : List SitD} {s : RdSt} {x : List ToldD × List SitD × Int × List MemD × Int × Int} (h : tailI ns ss s = some x) :
    ∃ ver ms f t, x = (ns, ss, ver, ms, f, t) ∧ RightI ns ss ver ms f t ∧ I64 f ∧ I64 t ∧ s = some (vints ((ensB ver ms).length : Nat) ++ ensB ver ms ++ vints f ++ vints t) := by
  unfold tailI at h
  cases hE : getE (pText 1048576 s).1 with
  | none => rw [hE] at h; cases h
  | some vm =>
    obtain ⟨ver, ms⟩ := vm
    rw [hE] at h
    by_cases hc : pIs 2 (pText 1048576 s).2 = some [] ∧ RightI ns ss ver ms (pI 0 (pText 1048576 s).2) (pI 1 (pText 1048576 s).2)
    · have h : some (ns, ss, ver, ms, pI 0 (pText 1048576 s).2, pI 1 (pText 1048576 s).2) = some x := (if_pos hc).symm.trans h
      injection h with h
      refine ⟨ver, ms, _, _, h.symm, hc.2, pI_in _ _, pI_in _ _, ?_⟩
      have h2 := pIs_back 2 hc.1
      have h3 := pText_back h2
      rw [getE_back hE] at h3
      refine h3.trans (congrArg some ?_)
      show _ ++ ([pI 0 (pText 1048576 s).2, pI 1 (pText 1048576 s).2].flatMap vints ++ []) = _
      simp only [List.flatMap_cons, List.flatMap_nil, List.append_nil, List.append_assoc]
    · have h : none = some x := (if_neg hc).symm.trans h
      cases h

theorem pNodes_in (s : RdSt) : ∀ k, ∀ x ∈ (pNodes k s).1, StatIn x.stat
  | 0, x, hx => by cases hx
  | k + 1, x, hx => by
    rcases List.mem_append.1 hx with hx | hx
    · exact pNodes_in s k x hx
    · rw [List.mem_singleton] at hx
      subst hx
      exact ⟨pI_in _ _, pI_in _ _, pI_in _ _, pI_in _ _, pI_in _ _, pI_in _ _, pI_in _ _, pI_in _ _⟩

theorem pSits_in (s : RdSt) : ∀ k, ∀ x ∈ (pSits k s).1, SitIn x
  | 0, x, hx => by cases hx
  | k + 1, x, hx => by
    rcases List.mem_append.1 hx with hx | hx
    · exact pSits_in s k x hx
    · rw [List.mem_singleton] at hx
      subst hx
      exact ⟨pI_in _ _, pI_in _ _, pI_in _ _⟩

theorem pByte_back {p r : List UInt8} (h : (pByte (some p)).2 = some r) : p = (pByte (some p)).1 :: r := by
  cases p with
  | nil => cases h
  | cons c l =>
    injection h with h
    rw [← h]
    rfl

theorem sitsI_back {ns : List ToldD} {s : RdSt} {x : List ToldD × List SitD × Int × List MemD × Int × Int} (h : sitsI ns s = some x) :
    ∃ ss ver ms f t, x = (ns, ss, ver, ms, f, t) ∧ RightI ns ss ver ms f t ∧ I64 f ∧ I64 t ∧ (∀ y ∈ ss, SitIn y) ∧ s = some (vints (ss.length : Nat) ++ (ss.flatMap sitB ++ (vints ((ensB ver ms).length : Nat) ++ ensB ver ms ++ vints f ++ vints t))) := by
  unfold sitsI at h
  have n2 := pSits_len (pCount 200 s).2 (pCount 200 s).1.toNat
  have i2 := pSits_in (pCount 200 s).2 (pCount 200 s).1.toNat
  have b2 : ∀ r, (pSits (pCount 200 s).1.toNat (pCount 200 s).2).2 = some r → _ := fun r h => pSits_back _ h
  generalize pSits (pCount 200 s).1.toNat (pCount 200 s).2 = q at *
  obtain ⟨ss, u⟩ := q
  obtain ⟨ver, ms, f, t, hx, hr, hf, ht, hs⟩ := tailI_back h
  have h2 := pCount_back (b2 _ hs)
  refine ⟨ss, ver, ms, f, t, hx, hr, hf, ht, i2, h2.1.trans ?_⟩
  rw [show ((ss.length : Nat) : Int) = (pCount 200 s).1 from (congrArg Int.ofNat n2).trans (Int.toNat_of_nonneg h2.2.1)]

theorem nodesI_back {s : RdSt} {x : List ToldD × List SitD × Int × List MemD × Int × Int} (h : nodesI s = some x) :
    ∃ ns ss ver ms f t, x = (ns, ss, ver, ms, f, t) ∧ RightI ns ss ver ms f t ∧ I64 f ∧ I64 t ∧ (∀ y ∈ ss, SitIn y) ∧ (∀ y ∈ ns, StatIn y.stat) ∧ s = some (vints (ns.length : Nat) ++ (ns.flatMap nodeB ++ (vints (ss.length : Nat) ++ (ss.flatMap sitB ++ (vints ((ensB ver ms).length : Nat) ++ ensB ver ms ++ vints f ++ vints t))))) := by
  unfold nodesI at h
  have n2 := pNodes_len (pCount 500 s).2 (pCount 500 s).1.toNat
  have i2 := pNodes_in (pCount 500 s).2 (pCount 500 s).1.toNat
  have b2 : ∀ r, (pNodes (pCount 500 s).1.toNat (pCount 500 s).2).2 = some r → _ := fun r h => pNodes_back _ h
  generalize pNodes (pCount 500 s).1.toNat (pCount 500 s).2 = q at *
  obtain ⟨ns, u⟩ := q
  obtain ⟨ss, ver, ms, f, t, hx, hr, hf, ht, hi, hs⟩ := sitsI_back h
  have h2 := pCount_back (b2 _ hs)
  refine ⟨ns, ss, ver, ms, f, t, hx, hr, hf, ht, hi, i2, h2.1.trans ?_⟩
  rw [show ((ns.length : Nat) : Int) = (pCount 500 s).1 from (congrArg Int.ofNat n2).trans (Int.toNat_of_nonneg h2.2.1)]

/-- What is got of bytes is put as just these. -/
theorem getI_back {l : List UInt8} {x : List ToldD × List SitD × Int × List MemD × Int × Int} (h : getI l = some x) :
    ∃ ns ss ver ms f t, x = (ns, ss, ver, ms, f, t) ∧ l = frameL (loadB ns ss ver ms f t) ∧ RightI ns ss ver ms f t ∧ (∀ x ∈ ns, StatIn x.stat) ∧ (∀ s ∈ ss, SitIn s) ∧ I64 f ∧ I64 t := by
  unfold getI at h
  cases hu : unfrL l with
  | none => rw [hu] at h; cases h
  | some pn =>
    obtain ⟨p, n⟩ := pn
    rw [hu] at h
    by_cases hc : n = l.length ∧ (pByte (some p)).1 = 1
    · have h : nodesI (pByte (some p)).2 = some x := (if_pos hc).symm.trans h
      have hl := unfr_inv hu hc.1
      obtain ⟨ns, ss, ver, ms, f, t, hx, hr, hf, ht, hi, hn, hs⟩ := nodesI_back h
      refine ⟨ns, ss, ver, ms, f, t, hx, ?_, hr, hn, hi, hf, ht⟩
      have h5 := pByte_back hs
      rw [hc.2] at h5
      rw [hl.1]
      congr 1
      rw [h5]
      unfold loadB
      simp only [List.append_assoc, List.cons_append, List.nil_append]
    · have h : none = some x := (if_neg hc).symm.trans h
      cases h

end
end Go.Proofs.YtiabopbigplklaaDoor

namespace Go.Sx
noncomputable section

theorem flatN_len {α : Type} {enc : α → List Value} {es : Nat} (he : ∀ x, (enc x).length = es) : ∀ l : List α, (l.flatMap enc).length = l.length * es
  | [] => by simp
  | x :: l => by rw [List.flatMap_cons, List.length_append, he, flatN_len he l, List.length_cons, Nat.succ_mul]; omega

theorem flat_takeN {α : Type} {enc : α → List Value} {es : Nat} (he : ∀ x, (enc x).length = es) : ∀ (q : Nat) (l : List α), (l.flatMap enc).take (q * es) = (l.take q).flatMap enc
  | 0, _ => by simp
  | q + 1, [] => by simp
  | q + 1, x :: l => by
    have e1 : (q + 1) * es - (enc x).length = q * es := by rw [he, Nat.succ_mul]; omega
    have e2 : (enc x).take ((q + 1) * es) = enc x := List.take_of_length_le (by rw [he, Nat.succ_mul]; omega)
    rw [List.flatMap_cons, List.take_append, e1, e2, flat_takeN he q l, List.take_succ_cons, List.flatMap_cons]

theorem flat_dropN {α : Type} {enc : α → List Value} {es : Nat} (he : ∀ x, (enc x).length = es) : ∀ (q : Nat) (l : List α), (l.flatMap enc).drop (q * es) = (l.drop q).flatMap enc
  | 0, _ => by simp
  | q + 1, [] => by simp
  | q + 1, x :: l => by
    have e1 : (q + 1) * es - (enc x).length = q * es := by rw [he, Nat.succ_mul]; omega
    have e2 : (enc x).drop ((q + 1) * es) = [] := List.drop_eq_nil_of_le (by rw [he, Nat.succ_mul]; omega)
    rw [List.flatMap_cons, List.drop_append, e1, e2, flat_dropN he q l, List.drop_succ_cons, List.nil_append]

theorem srcN_take {A : Arena} {g o n q es : Nat} {α : Type} {enc : α → List Value} (he : ∀ x, (enc x).length = es) {l : List α} (h : A.rd g 0 (n * es) = some (l.flatMap enc)) (hq : q ≤ n) (ho : o = 0) : (if q = 0 then some [] else A.rd g o (q * es)) = some ((l.take q).flatMap enc) := by
  subst ho
  by_cases h0 : q = 0
  · rw [if_pos h0, h0, List.take_zero]; rfl
  · rw [if_neg h0]
    have := rd_at h (i := 0) (m := q * es) (by rw [Nat.zero_add]; exact Nat.mul_le_mul_right _ hq)
    rw [Nat.add_zero, List.drop_zero, flat_takeN he] at this
    exact this

theorem srcN_drop {A : Arena} {g o n q es : Nat} {α : Type} {enc : α → List Value} (he : ∀ x, (enc x).length = es) {l : List α} (h : A.rd g 0 (n * es) = some (l.flatMap enc)) (hn : n = l.length) (ho : q < n → o = q * es) : (if n - q = 0 then some [] else A.rd g o ((n - q) * es)) = some ((l.drop q).flatMap enc) := by
  by_cases h0 : n - q = 0
  · rw [if_pos h0, List.drop_eq_nil_of_le (by omega)]; rfl
  · rw [if_neg h0, ho (by omega)]
    have hle : q * es + (n - q) * es ≤ n * es := by rw [← Nat.add_mul]; exact Nat.mul_le_mul_right _ (by omega)
    have := rd_at h (i := q * es) (m := (n - q) * es) hle
    rw [Nat.zero_add, flat_dropN he] at this
    rw [this, List.take_of_length_le]
    rw [flatN_len he, List.length_drop]
    exact Nat.mul_le_mul_right _ (by omega)

theorem row_set {F1 E F2 : List Value} (i : Nat) (v : Value) (hi : i < E.length) : (F1 ++ (E ++ F2)).take (F1.length + i) ++ [v] ++ (F1 ++ (E ++ F2)).drop (F1.length + i + 1) = F1 ++ (E.set i v ++ F2) := by
  have h1 : (F1 ++ (E ++ F2)).take (F1.length + i) = F1 ++ E.take i := by
    rw [List.take_append, List.take_of_length_le (by omega), Nat.add_sub_cancel_left, List.take_append_of_le_length (by omega)]
  have h2 : (F1 ++ (E ++ F2)).drop (F1.length + i + 1) = E.drop (i + 1) ++ F2 := by
    rw [List.drop_append, List.drop_eq_nil_of_le (by omega), List.nil_append, show F1.length + i + 1 - F1.length = i + 1 by omega, List.drop_append_of_le_length (by omega)]
  rw [h1, h2, List.set_eq_take_append_cons_drop, if_pos hi]
  simp

end
end Go.Sx

namespace Go.Proofs.YtiabopbigplklaaDoor
open Go.Sx Go.RowKit
noncomputable section
open Classical

/-- What an append to nothing leaves. -/
theorem app_fresh {A A' : Arena} {es n : Nat} {e : TypeId} {ys : List Value} {v : Value} (ha : Appended A none 0 0 es e [] ys n v A') (hl : ys.length = n * es) :
    A.Sub A' ∧ ∃ L : LsD, v = L.v ∧ L.n = n ∧ LsR A' es e L ys ∧ ∀ g, L.g = some g → A.blk g = none := by
  have h0 : LsR A es e ⟨.slice none 0 0, 0, 0, none⟩ [] := .inl ⟨rfl, rfl, rfl, rfl, none, rfl⟩
  rcases Nat.eq_zero_or_pos n with hn | hn
  · subst hn
    have hy : ys = [] := List.length_eq_zero_iff.1 (by rw [hl]; simp)
    subst hy
    rcases ha with ⟨_, rfl, ⟨_, rfl⟩ | ⟨g, o, h, _⟩⟩ | ⟨h, _⟩
    · exact ⟨Arena.Sub.refl _, _, rfl, rfl, h0, fun g hg => (by cases hg)⟩
    · cases h
    · omega
  · obtain ⟨base, hb, -, -, hc⟩ := h0.app
    have hb0 : base = none := by
      injection hb with hb _ _
      cases base with
      | none => rfl
      | some x => cases hb
    subst hb0
    obtain ⟨L, q1, q2, q3, q4, q5, -⟩ := hc n ys v A' hl hn ha
    refine ⟨fun k o hk => q5 k o hk (fun h => (by cases h)), L, q1.symm, ?_, q3, fun g hg => (q4 g hg).elim (fun h => (by cases h)) id⟩
    rw [q2]
    show 0 + n = n
    omega

/-- A cell of it is stored. -/
theorem LsR.set {α : Type} {enc : α → List Value} {es : Nat} (he : ∀ x, (enc x).length = es) {A A' : Arena} {e : TypeId} {L : LsD} {l : List α} (h : LsR A es e L (l.flatMap enc)) {g k i : Nat} (hg : L.g = some g) (hk : k < l.length) (hi : i < es) {w : Value} {x' : α} (hx : enc x' = (enc l[k]).set i w) (hP : A.Put A' g (k * es + i) [w]) : LsR A' es e L ((l.set k x').flatMap enc) := by
  have hlen := h.len
  rw [flatN_len he] at hlen
  have hes : 0 < es := by omega
  have hn : L.n = l.length := Nat.eq_of_mul_eq_mul_right hes hlen.symm
  have h0 := h
  rcases h with ⟨h1, _⟩ | ⟨g', h1, h2, h3, h4⟩
  · rw [h1] at hg; cases hg
  rw [h1] at hg
  injection hg with hg
  subst hg
  refine .inr ⟨g', h1, h2, h3, ?_⟩
  obtain ⟨⟨cc, k1, k2, k3⟩, h5, h6⟩ := h4
  obtain ⟨c0, t0, fz0, c1, e1, e2, e3⟩ := hP.at_
  rw [k1] at e1
  injection e1 with e1
  injection e1 with e1 e1' e1''
  subst e1; subst e1'; subst e1''
  have hle : (k + 1) * es ≤ L.n * es := Nat.mul_le_mul_right _ (by omega)
  have hlc : L.n * es ≤ L.c * es := Nat.mul_le_mul_right _ h5
  rw [Nat.succ_mul] at hle
  have hl : l = l.take k ++ l[k] :: l.drop (k + 1) := by
    rw [← List.drop_eq_getElem_cons hk, List.take_append_drop]
  have hs : l.set k x' = l.take k ++ x' :: l.drop (k + 1) := by
    rw [List.set_eq_take_append_cons_drop, if_pos hk]
  have hf : l.flatMap enc = (l.take k).flatMap enc ++ (enc l[k] ++ (l.drop (k + 1)).flatMap enc) := by
    conv => lhs; rw [hl]
    rw [List.flatMap_append, List.flatMap_cons]
  have hF1 : ((l.take k).flatMap enc).length = k * es := by
    rw [flatN_len he, List.length_take, Nat.min_eq_left (by omega)]
  refine ⟨⟨c1, e2, ?_, ?_⟩, h5, ?_⟩
  · rw [← Array.length_toList, e3]
    simp only [List.length_append, List.length_take, List.length_drop, Array.length_toList, k2, List.length_singleton]
    omega
  · have hrow := row_set (F1 := (l.take k).flatMap enc) (E := enc l[k]) (F2 := (l.drop (k + 1)).flatMap enc) i w (by rw [he]; exact hi)
    rw [← hf, hF1, ← k3] at hrow
    rw [hs, List.flatMap_append, List.flatMap_cons, hx, ← hrow, e3, List.length_singleton]
    have hlen : (cc.toList.take (k * es + i) ++ [w]).length = k * es + i + 1 := by
      rw [List.length_append, List.length_take, Array.length_toList, List.length_singleton]; omega
    rw [List.take_append, List.take_of_length_le (by rw [hlen]; omega), hlen, List.take_take, Nat.min_eq_left (by omega), List.drop_take]
  · rw [flatN_len he, List.length_set, hn]

/-- A cell of a node in a row of its own is stored; not its data. -/
theorem NodeRow.set {A1 A A' : Arena} {L : LsD} {xs : List (ToldD × Value)} {x' : ToldD × Value} {g k i : Nat} {w : Value} (h : NodeRow A1 A L xs) (hg : L.g = some g) (hk : k < xs.length) (hi : i < 12) (hx : nodeC x' = (nodeC xs[k]).set i w) (h2 : x'.2 = xs[k].2) (h3 : x'.1.data = xs[k].1.data) (hP : A.Put A' g (k * 12 + i) [w]) : NodeRow A1 A' L (xs.set k x') := by
  have hup : ∀ j o, (offA A1 A L.g).blk j = some o → (offA A1 A' L.g).blk j = some o := fun j o hj => by
    obtain ⟨k1, k2, k3⟩ := offA_blk hj
    refine offA_mk k1 k2 ?_
    rw [hP.other j fun e => k2 (by rw [hg, e])]
    exact k3
  refine ⟨LsR.set (enc := nodeC) (fun _ => rfl) h.row hg hk hi hx hP, h.new, fun y hy => ?_⟩
  rcases List.mem_or_eq_of_mem_set hy with h1 | h1
  · exact (h.dat y h1).sub hup
  · rw [h1, h2, h3]
    exact (h.dat xs[k] (List.getElem_mem _)).sub hup

/-- Its block, and what may be stored there. -/
theorem NodeRow.at_ {A1 A : Arena} {L : LsD} {xs : List (ToldD × Value)} (h : NodeRow A1 A L xs) (h0 : 0 < xs.length) : ∃ g, L.g = some g ∧ L.v = .slice (some ⟨g, 0, none⟩) xs.length L.c ∧ A.rd g 0 (xs.length * 12) = some (xs.flatMap nodeC) ∧ ∀ o m, o + m ≤ xs.length * 12 → A.Room g o m := by
  have hn := h.row.len
  rw [flatN_len (enc := nodeC) (es := 12) (fun _ => rfl)] at hn
  have hn : L.n = xs.length := by omega
  rcases h.row with ⟨_, h2, _⟩ | ⟨g, h1, h2, h3, h4⟩
  · omega
  · rw [hn] at h2 h4
    have := Nat.mul_le_mul_right 12 h4.le
    exact ⟨g, h1, h2, h4.rd, fun o m hm => h4.room (by omega)⟩

def copyBytesS : FSpec := ⟨List UInt8, fun g vs A => ∃ x, vs = [x] ∧ SlB A x g, fun g _ A v A' => A.Sub A' ∧ ∃ L : LsD, v = L.v ∧ LsN A A' L (g.map bv)⟩

set_option maxRecDepth 100000 in
set_option maxHeartbeats 0 in
theorem copyBytes_ok : FOk Tryd.prog 10 copyBytesS := by
  refine fok_v mixed fun bs vs A hp => ?_
  obtain ⟨x, rfl, ⟨⟨ao, c, rfl, hc, hl, ha1, ha2, ha3⟩, hxl⟩⟩ : ∃ x, vs = [x] ∧ SlB A x bs := hp
  refine ⟨noC, noL, 60, noC_sound _, noL_sound _, fun blk os out tape D hD => ?_⟩
  conv => lhs; whnf
  have hsrc : (match ao with | none => bs.length = 0 | some a => a.spot = none ∨ bs.length = 0) := by
    cases ao with
    | none => have := ha1 rfl; show bs.length = 0; omega
    | some a =>
      rcases Nat.eq_zero_or_pos c with h | h
      · right; omega
      · left; exact ha2 _ rfl h
  rcases ao with _ | ⟨g, o, sp⟩
  · have h0 : bs = [] := List.length_eq_zero_iff.1 hsrc
    subst h0
    refine (hD _).2 ⟨[], [], rfl, rfl, rfl, fun v hv => (by cases hv), by decide, fun h => absurd h (by decide), rfl, fun _ => ⟨rfl, rfl⟩, fun _ _ h1 h2 h3 => absurd rfl h3, fun v A2 hA => ?_⟩
    obtain ⟨k1, L, k2, k3, k4, k5⟩ := app_fresh hA rfl
    conv => lhs; whnf
    exact (hD _).2 ⟨k1, L, k2, k4, k5⟩
  · refine (hD _).2 ⟨[], bs.map bv, rfl, ?_, hl, ?_, ?_, ?_, rfl, fun _ => ⟨rfl, rfl⟩, fun _ _ h1 => (by cases h1), fun v A2 hA => ?_⟩
    · rcases sp with _ | sp
      · show (if bs.length = 0 then some [] else A.rd g o (bs.length * 1)) = _
        by_cases h0 : bs.length = 0
        · rw [if_pos h0, List.length_eq_zero_iff.1 h0]; rfl
        · rw [if_neg h0]; exact ha3 (by omega) _ rfl
      · have h9 : bs.length = 0 := hsrc.resolve_left (by simp)
        show (if bs.length = 0 then some [] else none) = _
        rw [if_pos h9, List.length_eq_zero_iff.1 h9]; rfl
    · intro v hv
      obtain ⟨b, _, rfl⟩ := List.mem_map.1 hv; rfl
    · show 0 + bs.length ≤ _
      omega
    · intro h0
      have h1 := nextcap_le h0
      calc _ ≤ (2 * (0 + bs.length) + 768) * 1 := Nat.mul_le_mul_right _ h1
        _ ≤ _ := by omega
    · obtain ⟨k1, L, k2, k3, k4, k5⟩ := app_fresh hA hl
      conv => lhs; whnf
      exact (hD _).2 ⟨k1, L, k2, k4, k5⟩

end
end Go.Proofs.YtiabopbigplklaaDoor

namespace Go.Proofs.YtiabopbigplklaaDoor
open Go.Sx Go.RowKit
noncomputable section
open Classical

def cpnInv (A : Arena) (l : List (ToldD × Value)) (sl : List (Nat × SV)) : LInv :=
  { γ := IhG, G := fun s => s.k ≤ l.length ∧ A.Sub s.A ∧ NodeRow A s.A s.L s.xs ∧ s.xs.map (·.1) = (l.take s.k).map (·.1),
    keepS := [], keepB := [], sl := fun s => (4, .v (.int .i64 s.k)) :: (3, .v (.slice (addrA s.base) s.k s.c)) :: sl, bl := fun _ => [], ar := fun s => s.A, mu := fun s => l.length - s.k }

def copyNodesRS : FSpec := ⟨List (ToldD × Value), fun l vs A => ∃ x, vs = [x] ∧ NodesR A x l ∧ l.length ≤ 1000000, fun l _ A v A' => A.Sub A' ∧ ∃ (L : LsD) (xs : List (ToldD × Value)), v = L.v ∧ NodeRow A A' L xs ∧ xs.map (·.1) = l.map (·.1)⟩

set_option maxRecDepth 100000 in
set_option maxHeartbeats 0 in
theorem copyNodesR_ok : FOk Tryd.prog 8 copyNodesRS := by
  refine fok_v mixed fun (l : List (ToldD × Value)) vs A hp => ?_
  obtain ⟨x, rfl, hN, hl1⟩ : ∃ x, vs = [x] ∧ NodesR A x l ∧ l.length ≤ 1000000 := hp
  have hN0 := hN
  obtain ⟨⟨an, cn, rfl, hcn, -, hn1, hn2, hn3⟩, hda⟩ := hN0
  have hC : CTSound Tryd.prog (lookC [specE 10 copyBytesS] noC) := lookC_sound (noC_sound _) (fun x hx => by
    simp only [List.mem_singleton] at hx
    subst hx
    exact specE_ok copyBytes_ok)
  refine ⟨_, tabO Tryd.prog _ noL 60 [(8, 0)], 60, hC, tabO_sound mixed hC (noL_sound _) _ _, fun blk os out tape D hD => ?_⟩
  conv => lhs; whnf
  have hG0 : (cpnInv A l [(0, .v (.slice an l.length cn))]).G ⟨0, A, none, 0, none, []⟩ := ⟨Nat.zero_le _, Arena.Sub.refl _, NodeRow.nil _ _, rfl⟩
  refine (hD _).2 ⟨cpnInv A l [(0, .v (.slice an l.length cn))], ⟨(⟨0, A, none, 0, none, []⟩ : IhG), hG0, ⟨rfl, rfl, rfl, trivial⟩, trivial, rfl⟩, fun (s : IhG) hG => ⟨⟨trivial, trivial, trivial, trivial⟩, trivial, ?_⟩⟩
  clear hG0
  obtain ⟨k, A1, base, c, g, xs⟩ := s
  obtain ⟨hk, s1, hrow, hxs⟩ : k ≤ l.length ∧ A.Sub A1 ∧ NodeRow A A1 ⟨.slice (addrA base) k c, k, c, g⟩ xs ∧ xs.map (·.1) = (l.take k).map (·.1) := hG
  conv => lhs; whnf
  refine split_dec (fun hlt => ?_) (fun hlt => ?_)
  · have hkm : k < l.length := by
      have hlt : (k : Int) < (l.length : Int) := hlt
      omega
    obtain ⟨g0, o0, rfl, hrd⟩ := Sl.at_ hcn hn1 hn2 hn3 (by omega)
    have hc := row_at (enc := nodeC) (fun _ => rfl) hrd k hkm rfl
    have hdk := hda l[k] (List.getElem_mem _)
    generalize hx0 : l[k] = x at *
    obtain ⟨⟨pth, dat, stt⟩, dv⟩ := x
    obtain ⟨ad, cd, hdf⟩ := hdk.1.form
    have hdf : dv = .slice ad dat.length cd := hdf
    subst hdf
    have hc := rd_sub s1 hc
    have hc : A1.rd g0 (o0 + k * 12) 12 = some (.string pth :: .slice ad dat.length cd :: stt.cells) := hc
    have i0 : (0 : Int) ≤ (k : Int) ∧ (k : Int) < (l.length : Int) := by omega
    have hdk : SlB A (.slice ad dat.length cd) dat := hdk
    obtain ⟨t1, t2, t3, t4, t5, t6, t7, t8, t9, t10⟩ := stt
    have hc : A1.rd g0 (o0 + k * 12) 12 = some [.string pth, .slice ad dat.length cd, .int .i64 t1, .int .i64 t2, .int .i64 t3, .int .i64 t4, .int .i64 t5, .int .i64 t6, .int .i64 t7, .int .i64 t8, .int .i64 t9, .int .i64 t10] := hc
    conv => lhs; whnf
    repeat (first | refine go_in i0 ?_ | refine go_rd hc ?_ | refine go_D hD rfl ?_
            conv => lhs; whnf)
    refine (hD _).2 ⟨dat, ⟨_, rfl, hdk.sub s1⟩, fun v A2 hq => ?_⟩
    obtain ⟨s2, L2, hv, hL2⟩ : A1.Sub A2 ∧ ∃ L : LsD, v = L.v ∧ LsN A1 A2 L (dat.map bv) := hq
    have hdl := hdk.2
    have hB2 := lsn_new hL2 hdl
    obtain ⟨ae, ce, hvf⟩ := hB2.1.form
    rw [← hv] at hvf hB2
    subst hvf
    clear hL2 hv hdk
    have hlive : ∀ j, A1.blk j = none → A.blk j = none := fun j hj => none_of s1 hj
    have hrow2 : NodeRow A A2 ⟨.slice (addrA base) k c, k, c, g⟩ xs := ⟨hrow.row.keep fun j o _ ho => s2 j o ho, hrow.new, fun x hx => (hrow.dat x hx).sub fun j o hj => by
      obtain ⟨h1, h2, h3⟩ := offA_blk hj
      exact offA_mk h1 h2 (s2 j o h3)⟩
    have hdat2 : SlB (offA A A2 g) (.slice ae dat.length ce) dat := dat_new hB2 hlive fun j hj => hrow.row.live hj
    have s3 := s1.trans s2
    have hlive2 : ∀ j, A2.blk j = none → A.blk j = none := fun j hj => none_of s3 hj
    have hap := hrow2.row.app
    obtain ⟨base', hvb, hbase, hG, hcont⟩ := hap
    have eb : base = base' := by
      injection hvb with eb _ _
      exact addrA_inj eb
    subst eb
    have hPd := hG 1 120 (by omega) (by show k + 1 ≤ 1000000000; omega) (by omega)
    conv => lhs; whnf
    repeat (first | refine go_D hD rfl ?_
            conv => lhs; whnf)
    refine (hD _).2 fun ge B11 hN => ?_
    have hN : A2.New B11 ge #[.string pth, .slice ae dat.length ce, .int .i64 t1, .int .i64 t2, .int .i64 t3, .int .i64 t4, .int .i64 t5, .int .i64 t6, .int .i64 t7, .int .i64 t8, .int .i64 t9, .int .i64 t10] 42 := hN
    have hy11 : B11.rd ge 0 (1 * 12) = some [.string pth, .slice ae dat.length ce, .int .i64 t1, .int .i64 t2, .int .i64 t3, .int .i64 t4, .int .i64 t5, .int .i64 t6, .int .i64 t7, .int .i64 t8, .int .i64 t9, .int .i64 t10] := hN.rd (o := 0) (n := 1 * 12) (by show 0 + 1 * 12 ≤ 12; omega)
    have hrow11 : NodeRow A B11 ⟨.slice (addrA base) k c, k, c, g⟩ xs := ⟨hrow2.row.keep fun j o _ ho => hN.sub j o ho, hrow2.new, fun x hx => (hrow2.dat x hx).sub fun j o hj => by
      obtain ⟨h1, h2, h3⟩ := offA_blk hj
      exact offA_mk h1 h2 (hN.sub j o h3)⟩
    have hdat11 : SlB (offA A B11 g) (.slice ae dat.length ce) dat := hdat2.sub fun j o hj => by
      obtain ⟨h1, h2, h3⟩ := offA_blk hj
      exact offA_mk h1 h2 (hN.sub j o h3)
    have s4 := s3.trans hN.sub
    have hlive11 : ∀ j, B11.blk j = none → A.blk j = none := fun j hj => none_of s4 hj
    clear hcont hPd hG
    have hap := hrow11.row.app
    obtain ⟨base', hvb', -, hG, hcont⟩ := hap
    have eb : base = base' := by
      injection hvb' with eb _ _
      exact addrA_inj eb
    subst eb
    have hPd := hG 1 120 (by omega) (by show k + 1 ≤ 1000000000; omega) (by omega)
    rcases hbase with rfl | ⟨gx, ox, rfl⟩ <;> (conv => lhs; whnf)
    all_goals
      repeat (first | refine go_D hD rfl ?_
              conv => lhs; whnf)
      refine (hD _).2 ⟨_, [.string pth, .slice ae dat.length ce, .int .i64 t1, .int .i64 t2, .int .i64 t3, .int .i64 t4, .int .i64 t5, .int .i64 t6, .int .i64 t7, .int .i64 t8, .int .i64 t9, .int .i64 t10], hPd.rd, hy11, rfl, fun v hv => by
        simp only [List.mem_cons, List.not_mem_nil, or_false] at hv
        rcases hv with rfl | rfl | rfl | rfl | rfl | rfl | rfl | rfl | rfl | rfl | rfl | rfl <;> rfl, ?_, hPd.cap, rfl, hPd.none_, fun g' o' he' hle' _ => hPd.room 12 rfl g' o' he' hle', fun v9 B12 hAp => ?_⟩
      · show k + 1 ≤ 9223372036854775807
        omega
      · have hc9 := hcont 1 [.string pth, .slice ae dat.length ce, .int .i64 t1, .int .i64 t2, .int .i64 t3, .int .i64 t4, .int .i64 t5, .int .i64 t6, .int .i64 t7, .int .i64 t8, .int .i64 t9, .int .i64 t10] v9 B12 rfl (by omega) hAp
        obtain ⟨L9, q1, q2, q3, q4, q5, -⟩ := hc9
        have hap9 := q3.app
        obtain ⟨b9, hb9, -⟩ := hap9
        have hrow12 := NodeRow.more (x := ((⟨pth, dat, ⟨t1, t2, t3, t4, t5, t6, t7, t8, t9, t10⟩⟩ : ToldD), Value.slice ae dat.length ce)) hrow11 hdat11 hlive11 q3 q4 q5
        obtain ⟨vL, nL, cL, gL⟩ := L9
        have q1 : vL = v9 := q1
        have q2 : nL = k + 1 := q2
        have hb9 : vL = .slice (addrA b9) nL cL := hb9
        subst q2
        subst hb9
        subst q1
        have hgr : ∀ j, g = some j → A.blk j = none := hrow11.new
        have s5 : A.Sub B12 := fun j o hj => q5 j o (s4 j o hj) fun e => (by rw [hgr j e] at hj; cases hj)
        have hGn : (cpnInv A l [(0, .v (.slice (some ⟨g0, o0, none⟩) l.length cn))]).G ⟨k + 1, B12, b9, cL, gL, xs ++ [((⟨pth, dat, ⟨t1, t2, t3, t4, t5, t6, t7, t8, t9, t10⟩⟩ : ToldD), Value.slice ae dat.length ce)]⟩ := by
          refine ⟨hkm, s5, hrow12, ?_⟩
          rw [List.map_append, hxs, List.take_succ_eq_append_getElem hkm, List.map_append, List.map_singleton, List.map_singleton, hx0]
        conv => lhs; whnf
        repeat (first | refine go_D hD rfl ?_
                conv => lhs; whnf)
        exact (hD _).2 ⟨(⟨k + 1, B12, b9, cL, gL, _⟩ : IhG), ⟨hGn, ⟨inc_slot (by omega), rfl, rfl, trivial⟩, trivial, rfl⟩, by show l.length - (k + 1) < l.length - k; omega, trivial, trivial⟩
  · have hkm : k = l.length := by
      have hlt : ¬ (k : Int) < (l.length : Int) := hlt
      omega
    subst hkm
    have hend : copyNodesRS.post l [] A (.slice (addrA base) l.length c) A1 := ⟨s1, ⟨.slice (addrA base) l.length c, l.length, c, g⟩, xs, rfl, hrow, by rw [hxs, List.take_length]⟩
    conv => lhs; whnf
    repeat (first | refine go_D hD rfl ?_
            conv => lhs; whnf)
    exact (hD _).2 hend

end
end Go.Proofs.YtiabopbigplklaaDoor
