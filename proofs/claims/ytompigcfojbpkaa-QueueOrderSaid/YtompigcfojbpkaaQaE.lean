/-
  Contracts: a change goes out; the count; a new queue.
-/
import Derived.Test.YtompigcfojbpkaaQaD
namespace Go.Proofs.Ytompigcfojbpkaa
open Go.Sx Go.RowKit
noncomputable section
open Classical

def countS : FSpec := ⟨Nat × List AskD × Arena, fun x vs A => vs = [.pointer (some ⟨x.1, 0, none⟩)] ∧ QR x.2.2 A x.1 x.2.1, fun x _ A v A' => A' = A ∧ v = .int .i64 x.2.1.length⟩

set_option maxRecDepth 100000 in
set_option maxHeartbeats 0 in
theorem count_ok : FOk Try.prog 20 countS := by
  refine fok_v mixed fun ⟨g, ds, B⟩ vs A hp => ?_
  simp only [countS] at hp
  obtain ⟨rfl, first, rows, hq⟩ := hp
  refine ⟨noC, noL, 60, noC_sound _, noL_sound _, fun blk os out tape D hD => ?_⟩
  conv => lhs; whnf
  refine go_rd hq.raw.rd_n ?_
  conv => lhs; whnf
  exact (hD _).2 ⟨rfl, rfl⟩

def newS : FSpec := ⟨Unit, fun _ vs _ => vs = [], fun _ _ A v A' => A.Sub A' ∧ ∃ g, v = .pointer (some ⟨g, 0, none⟩) ∧ A.blk g = none ∧ QR Arena.void A' g []⟩

set_option maxRecDepth 100000 in
set_option maxHeartbeats 0 in
theorem new_ok : FOk Try.prog 5 newS := by
  refine fok_k mixed fun _ vs A hp => ?_
  simp only [newS] at hp
  subst hp
  refine ⟨noC, noL, 60, noC_sound _, noL_sound _, fun blk os out tape D hD => ?_⟩
  conv => lhs; whnf
  refine (hD _).2 fun ρ w R _ => ?_
  obtain ⟨A', c, t, fz, h1, h2, h3, h4, h5, h6, h7, h8⟩ := R.grow (b := 0) (τ := 52) rfl
  refine ⟨A', ⟨h2, (ρ 0).blk, ?_, h3, 0, List.replicate 8 [.int .u8 0, .int .i64 0, .int .i64 0, .int .i64 0, .string ⟨#[]⟩, .slice none 0 0, .int .i64 0, .int .i64 0, .bool false, .int .u8 0, .int .i64 0, .int .i64 0, .int .i64 0, .slice none 0 0, .slice none 0 0], ⟨⟨c, t, fz, h4, h5, ?_⟩, rfl, fun r hr => ?_⟩, fun k o hk => (by cases hk), rfl, by omega, by simp, fun j hj => by simp at hj⟩, h7, h8⟩
  · show Value.pointer (some ⟨(ρ 0).blk, (ρ 0).off + 0, none⟩) = _
    rw [h1]
  · rw [h6]; rfl
  · rw [List.eq_of_mem_replicate hr]; rfl

theorem settle_no {k t x tn xn : Int} (h : readsD k = true) : (!readsD k && decide (t = tn) && decide (x = xn)) = false := by rw [h]; rfl

theorem settle_nox {k t x tn xn : Int} (h : ¬ x = xn) : (!readsD k && decide (t = tn) && decide (x = xn)) = false := by simp [h]
theorem settle_not {k t x tn xn : Int} (h : ¬ t = tn) : (!readsD k && decide (t = tn) && decide (x = xn)) = false := by simp [h]
theorem settle_yes {k t x tn xn : Int} (h : readsD k = false) (h1 : t = tn) (h2 : x = xn) : (!readsD k && decide (t = tn) && decide (x = xn)) = true := by simp [h, h1, h2]

def settleS : FSpec := ⟨(Nat × List AskD × Arena) × Int × Int, fun x vs A => vs = [.pointer (some ⟨x.1.1, 0, none⟩), .int .i64 x.2.1, .int .i64 x.2.2] ∧ QR x.1.2.2 A x.1.1 x.1.2.1, fun x _ A v A' => outPost x.1.2.2 x.1.1 x.1.2.1 (fun d => !readsD d.kind && decide (d.turn = x.2.1) && decide (d.xid = x.2.2)) A v A'⟩

set_option maxRecDepth 100000 in
set_option maxHeartbeats 0 in
theorem settle_ok : FOk Try.prog 18 settleS := by
  refine fok_v mixed fun ⟨⟨g, ds, B⟩, tn, xn⟩ vs A hp => ?_
  simp only [settleS] at hp
  obtain ⟨rfl, first, rows, hq⟩ := hp
  refine ⟨noC, noL, 60, noC_sound _, noL_sound _, fun blk os out tape D hD => ?_⟩
  conv => lhs; whnf
  refine go_rd hq.raw.rd_n ?_
  conv => lhs; whnf
  refine split_b (fun hb => ?_) (fun hb => ?_) <;> (conv => lhs; whnf)
  · have h0 : ds = [] := by
      have : (ds.length : Int) = 0 := by simpa using hb
      exact List.length_eq_zero_iff.1 (by omega)
    subst h0
    exact (hD _).2 ⟨but_of _ _, .inl ⟨_, rfl, rfl, ⟨first, rows, hq⟩, fun d ds' h => by cases h⟩⟩
  · cases ds with
    | nil => simp at hb
    | cons d ds' =>
    obtain ⟨cs, hrow, hR⟩ := hq.own 0 (by simp)
    have hlo := hq.lo
    rw [Nat.add_zero, Nat.mod_eq_of_lt hlo] at hrow
    obtain ⟨kind, xid, ses, turn, path, data, flags, ver, watch, sort, last, tmo, frm, mem, parts⟩ := d
    simp only [List.getElem_cons_zero] at hR
    obtain ⟨vd, vm, vp, rows', rfl, hx1, hx2, hx3, hx4, hx5⟩ := hR
    obtain ⟨a5, k5, rfl⟩ := hx1.1.form
    obtain ⟨a13, k13, rfl⟩ := hx2.1.form
    obtain ⟨a14, k14, rfl⟩ := hx3.form
    refine go_rd hq.raw.rd_first ?_
    conv => lhs; whnf
    refine go_in ⟨by show (0 : Int) ≤ (first : Int); omega, by show (first : Int) < ((8 : Nat) : Int); omega⟩ ?_
    conv => lhs; whnf
    refine go_rd (hq.raw.rd_row hrow) ?_
    conv => lhs; whnf
    have hlt : (0 : Int) ≤ (first : Int) := by omega
    have key : readsD kind = true ∨ readsD kind = false := by cases readsD kind <;> simp
    rcases key with hk | hk
    · have hk' := hk
      simp only [readsD, Bool.or_eq_true, Bool.and_eq_true, decide_eq_true_eq] at hk'
      rcases hk' with (⟨ha, hb⟩ | rfl) | rfl
      all_goals
        repeat (refine go_dec (by omega) ?_; conv => lhs; whnf)
        exact (hD _).2 ⟨but_of _ _, .inl ⟨_, rfl, rfl, ⟨first, rows, hq⟩, fun d ds' h => by injection h with h _; subst h; exact settle_no hk⟩⟩
    · have hk' := hk
      simp only [readsD, Bool.or_eq_false_iff, Bool.and_eq_false_iff, decide_eq_false_iff_not] at hk'
      obtain ⟨⟨h1, h2⟩, h3⟩ := hk'
      by_cases h7 : 7 ≤ kind
      all_goals
        repeat (first | refine go_dec (by omega) ?_ | refine no_dec (by omega) ?_
                conv => lhs; whnf)
        refine go_b (by simp [h3]) ?_
        conv => lhs; whnf
        by_cases ht : turn = tn
        · refine go_dec ht ?_
          conv => lhs; whnf
          by_cases hx : xid = xn
          · refine split_b (fun hb => absurd hb (by simp [hx])) (fun _ => ?_)
            conv => lhs; whnf
            refine go_rd hq.raw.rd_first ?_
            conv => lhs; whnf
            refine go_in ⟨by show (0 : Int) ≤ (first : Int); omega, by show (first : Int) < ((8 : Nat) : Int); omega⟩ ?_
            conv => lhs; whnf
            refine go_rd (hq.raw.rd_row hrow) ?_
            conv => lhs; whnf
            repeat (first | refine go_rd hq.raw.rd_first ?_ | refine go_rd (hq.raw.rd_row hrow) ?_ | refine go_rd hq.raw.rd_n ?_ | refine go_D hD rfl ?_
                    conv => lhs; whnf)
            refine (hD _).2 ⟨hq.raw.room (by show 0 + 120 + 1 ≤ 123; omega), fun A1 hP => ?_⟩
            conv => lhs; whnf
            refine (hD _).2 ⟨(hq.raw.put_first (m := (first + 1) % 8) (by rw [← next_first hlo]; exact hP)).room (by show 0 + 121 + 1 ≤ 123; omega), fun A2 hN => ?_⟩
            conv => lhs; whnf
            obtain ⟨k1, k2⟩ := hq.out (next_first hlo) (next_n hq.hi) hP hN
            exact (hD _).2 ⟨k1, .inr ⟨_, _, _, rfl, settle_yes hk ht hx, rfl, k2, _, _, _, _, rfl, hx1, hx2, hx3, hx4, hx5⟩⟩
          · refine go_b (by simp [hx]) ?_
            conv => lhs; whnf
            exact (hD _).2 ⟨but_of _ _, .inl ⟨_, rfl, rfl, ⟨first, rows, hq⟩, fun d ds' h => by injection h with h _; subst h; exact settle_nox hx⟩⟩
        · refine no_dec ht ?_
          conv => lhs; whnf
          exact (hD _).2 ⟨but_of _ _, .inl ⟨_, rfl, rfl, ⟨first, rows, hq⟩, fun d ds' h => by injection h with h _; subst h; exact settle_not ht⟩⟩

end
end Go.Proofs.Ytompigcfojbpkaa
