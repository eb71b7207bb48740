/-
  Contracts: two rows of bytes, two rows of members, two calls, two rows of calls: are they the same?
-/
import Derived.Test.YtompigcfojbpkaaProg
import Derived.Test.YtompigcfojbpkaaQaA
namespace Go.Proofs.Ytompigcfojbpkaa
open Go.Sx Go.RowKit
noncomputable section
open Classical

theorem mixed : Try.prog.follows .mixedOrders = true := by kernel_rfl

/-- A loop over the places of a row, that reads only: slot s counts. -/
def cnt (A : Arena) (s : Nat) (keep keepB : List Nat) (n : Nat) (p : Nat → Prop) : LInv := { γ := Nat, G := fun k => k ≤ n ∧ p k, keepS := keep, keepB := keepB, sl := fun k => [(s, .v (.int .i64 k))], bl := fun _ => [], ar := fun _ => A, mu := fun k => n - k }

theorem inc_slot {k : Nat} (h : k < 9223372036854775807) : some (SV.v (.int .i64 (IntKind.i64.wrap ((k : Int) + 1)))) = some (SV.v (.int .i64 ((k + 1 : Nat) : Int))) := by
  rw [Sx.wrap_i64 (by omega) (by omega)]; rfl

theorem beqL_iff {l m : List UInt8} : beqL l m = true ↔ l = m := by rw [beqL_eq]; simp

/-! ### Bytes -/

def sameBytesS : FSpec := ⟨List UInt8 × List UInt8, fun g vs A => ∃ x y, vs = [x, y] ∧ SlB A x g.1 ∧ SlB A y g.2, fun g _ A v A' => A' = A ∧ v = .bool (decide (g.1 = g.2))⟩

set_option maxRecDepth 100000 in
set_option maxHeartbeats 0 in
theorem sameBytes_ok : FOk Try.prog 44 sameBytesS := by
  refine fok_v mixed fun ⟨ls, bs⟩ vs A hp => ?_
  simp only [sameBytesS] at hp
  obtain ⟨x, y, rfl, ⟨⟨ao, c, rfl, hc, _, ha1, ha2, ha3⟩, hxl⟩, ⟨bo, d, rfl, hd, _, hb1, hb2, hb3⟩, hyl⟩ := hp
  refine ⟨noC, tabO Try.prog noC noL 60 [(44, 0)], 60, noC_sound _, tabO_sound mixed (noC_sound _) (noL_sound _) _ _, fun blk os out tape D hD => ?_⟩
  conv => lhs; whnf
  refine split_b (fun hb => ?_) (fun hb => ?_) <;> (conv => lhs; whnf)
  · refine (hD _).2 ⟨rfl, ?_⟩
    have : ls ≠ bs := fun e => by subst e; simp at hb
    simp [this]
  · have hlen : ls.length = bs.length := by
      have : (ls.length : Int) = bs.length := by simpa using hb
      omega
    refine (hD _).2 ⟨cnt A 5 [0, 1] [] ls.length fun k => ls.take k = bs.take k, ⟨(0 : Nat), ⟨Nat.zero_le _, rfl⟩, ⟨rfl, trivial⟩, trivial, rfl⟩, fun (k : Nat) hk => ⟨⟨trivial, trivial⟩, trivial, ?_⟩⟩
    simp only [cnt] at hk
    conv => lhs; whnf
    refine split_dec (fun hlt => ?_) (fun hb => ?_) <;> (conv => lhs; whnf)
    · have hlt : k < ls.length := by omega
      obtain ⟨g, o, rfl, hra⟩ := Sl.at_ hc ha1 ha2 ha3 (by omega)
      obtain ⟨g', o', rfl, hrb⟩ := Sl.at_ hd hb1 hb2 hb3 (by omega)
      conv => lhs; whnf
      refine split_in (fun _ _ => ?_) (fun h => by omega)
      conv => lhs; whnf
      refine go_rd (byte_at hra k hlt rfl) ?_
      conv => lhs; whnf
      refine split_in (fun _ _ => ?_) (fun h => by omega)
      conv => lhs; whnf
      refine go_rd (byte_at hrb k (by omega) rfl) ?_
      conv => lhs; whnf
      refine split_b (fun hb => ?_) (fun hb => ?_) <;> (conv => lhs; whnf)
      · refine (hD _).2 ⟨rfl, ?_⟩
        have : ls ≠ bs := fun e => by subst e; simp at hb
        simp [this]
      · have he : ls[k] = bs[k] := by
          have : (ls[k].toNat : Int) = bs[k].toNat := by simpa using hb
          exact UInt8.toNat_inj.1 (by omega)
        refine (hD _).2 ⟨(k + 1 : Nat), ⟨⟨by omega, ?_⟩, ⟨inc_slot (by omega), trivial⟩, trivial, rfl⟩, ?_, ⟨rfl, rfl, trivial⟩, trivial⟩
        · show ls.take (k + 1) = bs.take (k + 1)
          rw [List.take_succ_eq_append_getElem hlt, List.take_succ_eq_append_getElem (by omega), hk.2, he]
        · show ls.length - (k + 1) < ls.length - k
          omega
    · refine (hD _).2 ⟨rfl, ?_⟩
      have h1 : k = ls.length := by omega
      have : ls = bs := by
        have := hk.2
        rw [h1, List.take_length, hlen, List.take_length] at this
        exact this
      simp [this]

/-! ### Members -/

def sameMembersS : FSpec := ⟨List MemD × List MemD, fun g vs A => ∃ x y, vs = [x, y] ∧ MemR A x g.1 ∧ MemR A y g.2, fun g _ A v A' => A' = A ∧ v = .bool (decide (g.1 = g.2))⟩

theorem mem_at {A : Arena} {g o n : Nat} {l : List MemD} (h : A.rd g o (n * 4) = some (memCells l)) (k : Nat) (hk : k < l.length) (hn : n = l.length) : A.rd g (o + k * 4) 4 = some [.int .i64 l[k].id, .int .u8 l[k].role, .int .i64 l[k].weight, .int .i64 l[k].group] := by
  have := rows_at (rows := l.map MemD.cells) h (memCells_rows l) k (by simpa using hk) (by simpa using hn)
  simpa [MemD.cells] using this

set_option maxRecDepth 100000 in
set_option maxHeartbeats 0 in
theorem sameMembers_ok : FOk Try.prog 45 sameMembersS := by
  refine fok_v mixed fun ⟨ls, bs⟩ vs A hp => ?_
  simp only [sameMembersS] at hp
  obtain ⟨x, y, rfl, ⟨⟨ao, c, rfl, hc, _, ha1, ha2, ha3⟩, hxl⟩, ⟨bo, d, rfl, hd, _, hb1, hb2, hb3⟩, hyl⟩ := hp
  refine ⟨noC, tabO Try.prog noC noL 60 [(45, 0)], 60, noC_sound _, tabO_sound mixed (noC_sound _) (noL_sound _) _ _, fun blk os out tape D hD => ?_⟩
  conv => lhs; whnf
  refine split_b (fun hb => ?_) (fun hb => ?_) <;> (conv => lhs; whnf)
  · refine (hD _).2 ⟨rfl, ?_⟩
    have : ls ≠ bs := fun e => by subst e; simp at hb
    simp [this]
  · have hlen : ls.length = bs.length := by
      have : (ls.length : Int) = bs.length := by simpa using hb
      omega
    refine (hD _).2 ⟨cnt A 5 [0, 1] [] ls.length fun k => ls.take k = bs.take k, ⟨(0 : Nat), ⟨Nat.zero_le _, rfl⟩, ⟨rfl, trivial⟩, trivial, rfl⟩, fun (k : Nat) hk => ⟨⟨trivial, trivial⟩, trivial, ?_⟩⟩
    simp only [cnt] at hk
    conv => lhs; whnf
    refine split_dec (fun hlt => ?_) (fun hb => ?_) <;> (conv => lhs; whnf)
    · have hlt : k < ls.length := by omega
      obtain ⟨g, o, rfl, hra⟩ := Sl.at_ hc ha1 ha2 ha3 (by omega)
      obtain ⟨g', o', rfl, hrb⟩ := Sl.at_ hd hb1 hb2 hb3 (by omega)
      conv => lhs; whnf
      refine split_in (fun _ _ => ?_) (fun h => by omega)
      conv => lhs; whnf
      refine go_rd (mem_at hra k hlt rfl) ?_
      conv => lhs; whnf
      refine split_in (fun _ _ => ?_) (fun h => by omega)
      conv => lhs; whnf
      refine go_rd (mem_at hrb k (by omega) rfl) ?_
      conv => lhs; whnf
      refine go_b (by kernel_rfl) ?_
      conv => lhs; whnf
      refine split_b (fun hb => ?_) (fun hb => ?_) <;> (conv => lhs; whnf)
      · refine (hD _).2 ⟨rfl, ?_⟩
        have : ls ≠ bs := fun e => by subst e; simp at hb
        simp [this]
      · have he : ls[k] = bs[k] := by
          simp only [Bool.not_eq_false', Bool.and_eq_true, decide_eq_true_eq, Bool.and_true] at hb
          obtain ⟨h1, h2, h3, h4⟩ := hb
          cases hl : ls[k]; cases hr : bs[k]
          simp only [hl, hr] at h1 h2 h3 h4
          subst h1 h2 h3 h4; rfl
        refine (hD _).2 ⟨(k + 1 : Nat), ⟨⟨by omega, ?_⟩, ⟨inc_slot (by omega), trivial⟩, trivial, rfl⟩, ?_, ⟨rfl, rfl, trivial⟩, trivial⟩
        · show ls.take (k + 1) = bs.take (k + 1)
          rw [List.take_succ_eq_append_getElem hlt, List.take_succ_eq_append_getElem (by omega), hk.2, he]
        · show ls.length - (k + 1) < ls.length - k
          omega
    · refine (hD _).2 ⟨rfl, ?_⟩
      have h1 : k = ls.length := by omega
      have : ls = bs := by
        have := hk.2
        rw [h1, List.take_length, hlen, List.take_length] at this
        exact this
      simp [this]

/-! ### Calls -/

/-- Two rows of calls all of which are smaller than n. -/
def sameAsksS (n : Nat) : FSpec := ⟨List AskD × List AskD, fun g vs A => ∃ x y, vs = [x, y] ∧ (∀ d ∈ g.1, d.sz < n) ∧ AsksS A x g.1 ∧ AsksS A y g.2, fun g _ A v A' => A' = A ∧ v = .bool (decide (g.1 = g.2))⟩

def sameAskS (n : Nat) : FSpec := ⟨AskD × AskD, fun g vs A => ∃ x y, vs = [askV x, askV y] ∧ g.1.sz < n ∧ AskR A g.1 x ∧ AskR A g.2 y, fun g _ A v A' => A' = A ∧ v = .bool (decide (g.1 = g.2))⟩

theorem ask_at {A : Arena} {g o n : Nat} {ds : List AskD} {rows : List (List Value)} (h : A.rd g o (n * 15) = some rows.flatten) (hr : AsksR A ds rows) (k : Nat) (hk : k < ds.length) (hn : n = ds.length) : ∃ cs, A.rd g (o + k * 15) 15 = some cs ∧ AskR A ds[k] cs := by
  have hl := hr.length
  exact ⟨_, rows_at h hr.lens k (by omega) (by omega), hr.at_ k hk (by omega)⟩

set_option maxRecDepth 100000 in
set_option maxHeartbeats 0 in
theorem sameAsks_of (m : Nat) (ih : FOk Try.prog 17 (sameAskS m)) : FOk Try.prog 46 (sameAsksS m) := by
  refine fok_v mixed fun ⟨ls, bs⟩ vs A hp => ?_
  simp only [sameAsksS] at hp
  obtain ⟨x, y, rfl, hsz, ⟨r1, ⟨ao, c, rfl, hc, _, ha1, ha2, ha3⟩, hxl, hx⟩, r2, ⟨bo, d, rfl, hd, _, hb1, hb2, hb3⟩, hyl, hy⟩ := hp
  have hC : CTSound Try.prog (lookC [specE 17 (sameAskS m)] noC) := lookC_sound (noC_sound _) (fun x hx => by
    simp only [List.mem_singleton] at hx
    subst hx; exact specE_ok ih)
  refine ⟨lookC [specE 17 (sameAskS m)] noC, tabO Try.prog (lookC [specE 17 (sameAskS m)] noC) noL 60 [(46, 0)], 60, hC, tabO_sound mixed hC (noL_sound _) _ _, fun blk os out tape D hD => ?_⟩
  conv => lhs; whnf
  refine split_b (fun hb => ?_) (fun hb => ?_) <;> (conv => lhs; whnf)
  · refine (hD _).2 ⟨rfl, ?_⟩
    have : ls ≠ bs := fun e => by subst e; simp at hb
    simp [this]
  · have hlen : ls.length = bs.length := by
      have : (ls.length : Int) = bs.length := by simpa using hb
      omega
    refine (hD _).2 ⟨cnt A 5 [0, 1] [] ls.length fun k => ls.take k = bs.take k, ⟨(0 : Nat), ⟨Nat.zero_le _, rfl⟩, ⟨rfl, trivial⟩, trivial, rfl⟩, fun (k : Nat) hk => ⟨⟨trivial, trivial⟩, trivial, ?_⟩⟩
    simp only [cnt] at hk
    conv => lhs; whnf
    refine split_dec (fun hlt => ?_) (fun hb => ?_) <;> (conv => lhs; whnf)
    · have hlt : k < ls.length := by omega
      obtain ⟨g, o, rfl, hra⟩ := Sl.at_ hc ha1 ha2 ha3 (by omega)
      obtain ⟨g', o', rfl, hrb⟩ := Sl.at_ hd hb1 hb2 hb3 (by omega)
      obtain ⟨c1, hc1, hd1⟩ := ask_at hra hx k hlt rfl
      obtain ⟨c2, hc2, hd2⟩ := ask_at hrb hy k (by omega) rfl
      conv => lhs; whnf
      refine split_in (fun _ _ => ?_) (fun h => by omega)
      conv => lhs; whnf
      refine go_rd hc1 ?_
      conv => lhs; whnf
      refine split_in (fun _ _ => ?_) (fun h => by omega)
      conv => lhs; whnf
      refine go_rd hc2 ?_
      conv => lhs; whnf
      refine (hD _).2 ⟨(ls[k], bs[k]), ⟨_, _, rfl, hsz _ (List.getElem_mem _), hd1, hd2⟩, fun v A' ⟨e1, e2⟩ => ?_⟩
      subst e1; subst e2
      conv => lhs; whnf
      refine split_b (fun hb => ?_) (fun hb => ?_) <;> (conv => lhs; whnf)
      · refine (hD _).2 ⟨rfl, ?_⟩
        have : ls ≠ bs := fun e => by subst e; simp at hb
        simp [this]
      · have he : ls[k] = bs[k] := by simpa using hb
        refine (hD _).2 ⟨(k + 1 : Nat), ⟨⟨by omega, ?_⟩, ⟨inc_slot (by omega), trivial⟩, trivial, rfl⟩, ?_, ⟨rfl, rfl, trivial⟩, trivial⟩
        · show ls.take (k + 1) = bs.take (k + 1)
          rw [List.take_succ_eq_append_getElem hlt, List.take_succ_eq_append_getElem (by omega), hk.2, he]
        · show ls.length - (k + 1) < ls.length - k
          omega
    · refine (hD _).2 ⟨rfl, ?_⟩
      have h1 : k = ls.length := by omega
      have : ls = bs := by
        have := hk.2
        rw [h1, List.take_length, hlen, List.take_length] at this
        exact this
      simp [this]

set_option maxRecDepth 100000 in
set_option maxHeartbeats 0 in
theorem sameAsk_of (m : Nat) (ih : FOk Try.prog 46 (sameAsksS m)) : FOk Try.prog 17 (sameAskS (m + 1)) := by
  refine fok_v mixed fun ⟨d1, d2⟩ vs A hp => ?_
  simp only [sameAskS] at hp
  obtain ⟨x, y, rfl, hsz, hx, hy⟩ := hp
  obtain ⟨kind, xid, ses, turn, path, data, flags, ver, watch, sort, last, tmo, frm, mem, parts⟩ := d1
  obtain ⟨kind', xid', ses', turn', path', data', flags', ver', watch', sort', last', tmo', frm', mem', parts'⟩ := d2
  obtain ⟨vd, vm, vp, rows, rfl, hx1, hx2, hx3, hx4, hx5⟩ := hx
  obtain ⟨vd', vm', vp', rows', rfl, hy1, hy2, hy3, hy4, hy5⟩ := hy
  have hC : CTSound Try.prog (lookC [specE 46 (sameAsksS m), specE 44 sameBytesS, specE 45 sameMembersS] noC) := lookC_sound (noC_sound _) (fun x hx => by
    simp only [List.mem_cons, List.not_mem_nil, or_false] at hx
    rcases hx with rfl | rfl | rfl
    · exact specE_ok ih
    · exact specE_ok sameBytes_ok
    · exact specE_ok sameMembers_ok)
  refine ⟨_, noL, 60, hC, noL_sound _, fun blk os out tape D hD => ?_⟩
  conv => lhs; whnf
  refine split_dec (fun e1 => ?_) (fun hb => ?_) <;> (conv => lhs; whnf)
  rotate_left
  · exact (hD _).2 ⟨rfl, by rw [decide_eq_false (fun e => hb (by injection e))]⟩
  refine split_dec (fun e2 => ?_) (fun hb => ?_) <;> (conv => lhs; whnf)
  rotate_left
  · exact (hD _).2 ⟨rfl, by rw [decide_eq_false (fun e => hb (by injection e))]⟩
  refine split_dec (fun e3 => ?_) (fun hb => ?_) <;> (conv => lhs; whnf)
  rotate_left
  · exact (hD _).2 ⟨rfl, by rw [decide_eq_false (fun e => hb (by injection e))]⟩
  refine split_dec (fun e4 => ?_) (fun hb => ?_) <;> (conv => lhs; whnf)
  rotate_left
  · exact (hD _).2 ⟨rfl, by rw [decide_eq_false (fun e => hb (by injection e))]⟩
  refine split_b (fun e5 => ?_) (fun hb => ?_) <;> (conv => lhs; whnf)
  rotate_left
  · exact (hD _).2 ⟨rfl, by rw [decide_eq_false (fun e => absurd hb (by injection e; subst_vars; simp [beqL_iff]))]⟩
  refine (hD _).2 ⟨(data, data'), ⟨vd, vd', rfl, hx1, hy1⟩, fun v A' ⟨q1, q2⟩ => ?_⟩
  subst q1; subst q2
  conv => lhs; whnf
  refine split_dec (fun e6 => ?_) (fun hb => ?_) <;> (conv => lhs; whnf)
  rotate_left
  · exact (hD _).2 ⟨rfl, by rw [decide_eq_false (fun e => hb (by injection e))]⟩
  refine split_dec (fun e7 => ?_) (fun hb => ?_) <;> (conv => lhs; whnf)
  rotate_left
  · exact (hD _).2 ⟨rfl, by rw [decide_eq_false (fun e => hb (by injection e))]⟩
  refine split_dec (fun e8 => ?_) (fun hb => ?_) <;> (conv => lhs; whnf)
  rotate_left
  · exact (hD _).2 ⟨rfl, by rw [decide_eq_false (fun e => hb (by injection e))]⟩
  refine split_b (fun e9 => ?_) (fun hb => ?_) <;> (conv => lhs; whnf)
  rotate_left
  · exact (hD _).2 ⟨rfl, by rw [decide_eq_false (fun e => absurd hb (by injection e; subst_vars; simp))]⟩
  refine split_dec (fun e10 => ?_) (fun hb => ?_) <;> (conv => lhs; whnf)
  rotate_left
  · exact (hD _).2 ⟨rfl, by rw [decide_eq_false (fun e => hb (by injection e))]⟩
  refine split_dec (fun e11 => ?_) (fun hb => ?_) <;> (conv => lhs; whnf)
  rotate_left
  · exact (hD _).2 ⟨rfl, by rw [decide_eq_false (fun e => hb (by injection e))]⟩
  refine split_dec (fun e12 => ?_) (fun hb => ?_) <;> (conv => lhs; whnf)
  rotate_left
  · exact (hD _).2 ⟨rfl, by rw [decide_eq_false (fun e => hb (by injection e))]⟩
  refine split_dec (fun e13 => ?_) (fun hb => ?_) <;> (conv => lhs; whnf)
  rotate_left
  · exact (hD _).2 ⟨rfl, by rw [decide_eq_false (fun e => hb (by injection e))]⟩
  refine (hD _).2 ⟨(mem, mem'), ⟨vm, vm', rfl, hx2, hy2⟩, fun v A' ⟨q1, q2⟩ => ?_⟩
  subst q1; subst q2
  conv => lhs; whnf
  refine split_dec (fun e14 => ?_) (fun hb => ?_) <;> (conv => lhs; whnf)
  rotate_left
  · exact (hD _).2 ⟨rfl, by rw [decide_eq_false (fun e => hb (by injection e))]⟩
  refine (hD _).2 ⟨(parts, parts'), ⟨vp, vp', rfl, fun d hd => ?_, ⟨rows, hx3, hx4, hx5⟩, rows', hy3, hy4, hy5⟩, fun v A' ⟨q1, q2⟩ => ?_⟩
  · have := List.mem_iff_getElem.1 hd
    obtain ⟨k, hk, rfl⟩ := this
    have := sz_at hk
    simp only [AskD.sz] at hsz this ⊢
    omega
  subst q1; subst q2
  conv => lhs; whnf
  refine (hD _).2 ⟨rfl, ?_⟩
  have h5 : path = path' := by
    have := beqL_iff.1 (by simpa using e5)
    exact ByteArray.ext (Array.toList_inj.1 this)
  have h9 : watch = watch' := by simpa using e9
  simp only at e6 e14
  subst e1 e2 e3 e4 h5 e6 e7 e8 h9 e10 e11 e12 e13 e14
  simp

/-- Two calls, of whatever size. -/
theorem sameAsk_all : ∀ m, FOk Try.prog 17 (sameAskS m)
  | 0 => fun g vs A w _ hp => by obtain ⟨_, _, _, h, _⟩ := hp; omega
  | m + 1 => sameAsk_of m (sameAsks_of m (sameAsk_all m))

def sameAskS' : FSpec := ⟨AskD × AskD, fun g vs A => ∃ x y, vs = [askV x, askV y] ∧ AskR A g.1 x ∧ AskR A g.2 y, fun g _ A v A' => A' = A ∧ v = .bool (decide (g.1 = g.2))⟩

theorem sameAsk_ok : FOk Try.prog 17 sameAskS' := fun g vs A w hA ⟨x, y, h1, h2, h3⟩ =>
  sameAsk_all (g.1.sz + 1) g vs A w hA ⟨x, y, h1, Nat.lt_succ_self _, h2, h3⟩

end
end Go.Proofs.Ytompigcfojbpkaa
