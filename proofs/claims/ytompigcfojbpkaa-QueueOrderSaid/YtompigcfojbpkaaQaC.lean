/-
  Contracts: clones of rows, and a call in memory of its own.
-/
import Derived.Test.YtompigcfojbpkaaQaB
namespace Go.Proofs.Ytompigcfojbpkaa
open Go.Sx Go.RowKit
noncomputable section
open Classical

def cloneBytesS : FSpec := ⟨List UInt8, fun g vs A => ∃ x, vs = [x] ∧ SlB A x g, fun g _ A v A' => A.Sub A' ∧ SlB (A'.minus A) v g⟩

theorem nextcap0 {n : Nat} (h : 0 < 0 + n) : Builtin.nextslicecap (0 + n) 0 = n := by
  unfold Builtin.nextslicecap
  rw [if_pos (by omega)]; omega

set_option maxRecDepth 100000 in
set_option maxHeartbeats 0 in
theorem cloneBytes_ok : FOk Try.prog 59 cloneBytesS := by
  refine fok_v mixed fun bs vs A hp => ?_
  simp only [cloneBytesS] at hp
  obtain ⟨x, rfl, ⟨ao, c, rfl, hc, hl, ha1, ha2, ha3⟩, hxl⟩ := hp
  refine ⟨noC, noL, 60, noC_sound _, noL_sound _, fun blk os out tape D hD => ?_⟩
  conv => lhs; whnf
  refine split_b (fun hb => ?_) (fun hb => ?_) <;> (conv => lhs; whnf)
  · have h0 : ao = none := by simpa using hb
    have h1 := ha1 h0
    have h2 : bs = [] := List.length_eq_zero_iff.1 (by omega)
    subst h2
    exact (hD _).2 ⟨Arena.Sub.refl _, Sl.nil _ _, by simp⟩
  · have h0 : ∃ a, ao = some a := by cases ao with
      | none => simp at hb
      | some a => exact ⟨a, rfl⟩
    obtain ⟨⟨g, o, sp⟩, rfl⟩ := h0
    have hsp : sp = none ∨ bs.length = 0 := by
      rcases Nat.eq_zero_or_pos c with h | h
      · right; omega
      · left; exact ha2 _ rfl h
    rcases sp with _ | sp
    all_goals
      refine (hD _).2 fun g1 A1 hN => ?_
      conv => lhs; whnf
      refine (hD _).2 ⟨[], bs.map bv, rfl, ?_, hl, ?_, by omega, ?_, rfl, fun h => (by cases h), fun _ _ _ h1 h2 => ?_, fun v A2 hA => ?_⟩
      · first
        | (show (if bs.length = 0 then some [] else A1.rd g o (bs.length * 1)) = _
           by_cases h0 : bs.length = 0
           · rw [if_pos h0, List.length_eq_zero_iff.1 h0]; rfl
           · rw [if_neg h0]; exact rd_sub hN.sub (ha3 (by omega) _ rfl))
        | (have h9 : bs.length = 0 := hsp.resolve_left (by simp)
           show (if bs.length = 0 then some [] else none) = _
           (rw [if_pos h9, List.length_eq_zero_iff.1 h9]; rfl))
      · intro v hv
        obtain ⟨b, _, rfl⟩ := List.mem_map.1 hv; rfl
      · intro h0
        rw [nextcap0 h0]
        show bs.length * 1 ≤ _
        omega
      · exfalso
        have : bs.length = 0 := by omega
        exact h2 (by rw [List.length_eq_zero_iff.1 this]; rfl)
      · obtain ⟨k1, k2⟩ := clone_end hN.sub hA hl
        conv => lhs; whnf
        exact (hD _).2 ⟨k1, k2, hxl⟩


/-! ### Members -/

def cloneMembersS : FSpec := ⟨List MemD, fun g vs A => ∃ x, vs = [x] ∧ MemR A x g, fun g _ A v A' => A.Sub A' ∧ MemR (A'.minus A) v g⟩

theorem memCells_length (l : List MemD) : (memCells l).length = l.length * 4 := by
  unfold memCells
  induction l with
  | nil => rfl
  | cons m l ih => simp only [List.map_cons, List.flatten_cons, List.length_append, ih, List.length_cons]; simp [MemD.cells]; omega

theorem memCells_one (l : List MemD) : ∀ v ∈ memCells l, v.oneCell' = true := fun v hv => by
  obtain ⟨r, hr, hv⟩ := List.mem_flatten.1 hv
  obtain ⟨m, _, rfl⟩ := List.mem_map.1 hr
  simp only [MemD.cells, List.mem_cons, List.not_mem_nil, or_false] at hv
  rcases hv with rfl | rfl | rfl | rfl <;> rfl

set_option maxRecDepth 100000 in
set_option maxHeartbeats 0 in
theorem cloneMembers_ok : FOk Try.prog 52 cloneMembersS := by
  refine fok_v mixed fun bs vs A hp => ?_
  simp only [cloneMembersS] at hp
  obtain ⟨x, rfl, ⟨ao, c, rfl, hc, hl, ha1, ha2, ha3⟩, hxl⟩ := hp
  refine ⟨noC, noL, 60, noC_sound _, noL_sound _, fun blk os out tape D hD => ?_⟩
  conv => lhs; whnf
  refine split_b (fun hb => ?_) (fun hb => ?_) <;> (conv => lhs; whnf)
  · have h0 : ao = none := by simpa using hb
    have h1 := ha1 h0
    have h2 : bs = [] := List.length_eq_zero_iff.1 (by omega)
    subst h2
    exact (hD _).2 ⟨Arena.Sub.refl _, Sl.nil _ _, by simp⟩
  · have h0 : ∃ a, ao = some a := by cases ao with
      | none => simp at hb
      | some a => exact ⟨a, rfl⟩
    obtain ⟨⟨g, o, sp⟩, rfl⟩ := h0
    have hsp : sp = none ∨ bs.length = 0 := by
      rcases Nat.eq_zero_or_pos c with h | h
      · right; omega
      · left; exact ha2 _ rfl h
    rcases sp with _ | sp
    all_goals
      refine (hD _).2 fun g1 A1 hN => ?_
      conv => lhs; whnf
      refine (hD _).2 ⟨[], memCells bs, rfl, ?_, hl, memCells_one bs, by omega, ?_, rfl, fun h => (by cases h), fun _ _ _ h1 h2 => ?_, fun v A2 hA => ?_⟩
      · first
        | (show (if bs.length = 0 then some [] else A1.rd g o (bs.length * 4)) = _
           by_cases h0 : bs.length = 0
           · rw [if_pos h0, List.length_eq_zero_iff.1 h0]; rfl
           · rw [if_neg h0]; exact rd_sub hN.sub (ha3 (by omega) _ rfl))
        | (have h9 : bs.length = 0 := hsp.resolve_left (by simp)
           show (if bs.length = 0 then some [] else none) = _
           (rw [if_pos h9, List.length_eq_zero_iff.1 h9]; rfl))
      · intro h0
        rw [nextcap0 h0]
        show bs.length * 32 ≤ _
        omega
      · exfalso
        have : bs.length = 0 := by omega
        exact h2 (by rw [List.length_eq_zero_iff.1 this]; rfl)
      · obtain ⟨k1, k2⟩ := clone_end hN.sub hA hl
        conv => lhs; whnf
        exact (hD _).2 ⟨k1, k2, hxl⟩

/-! ### Calls: the row alone -/

/-- Every cell of a call is one cell. -/
theorem askR_one {B : Arena} {d : AskD} {cs : List Value} (h : AskR B d cs) : ∀ v ∈ cs, v.oneCell' = true := by
  cases d
  obtain ⟨vd, vm, vp, rows, rfl, ⟨⟨_, _, rfl, _⟩, _⟩, ⟨⟨_, _, rfl, _⟩, _⟩, ⟨_, _, rfl, _⟩, _⟩ := h
  intro v hv
  simp only [List.mem_cons, List.not_mem_nil, or_false] at hv
  rcases hv with rfl | rfl | rfl | rfl | rfl | rfl | rfl | rfl | rfl | rfl | rfl | rfl | rfl | rfl | rfl <;> rfl

theorem asksR_one {B : Arena} : ∀ {ds : List AskD} {rows : List (List Value)}, AsksR B ds rows → ∀ v ∈ rows.flatten, v.oneCell' = true
  | [], _, h => by simp [AsksR] at h; subst h; simp
  | d :: ds, rows, h => by
    obtain ⟨r, rs, rfl, h1, h2⟩ := h
    intro v hv
    rw [List.flatten_cons, List.mem_append] at hv
    rcases hv with hv | hv
    · exact askR_one h1 v hv
    · exact asksR_one h2 v hv

/-- A row of calls, as it is; behind the call a row of its own has the same cells. -/
def cloneAsksS : FSpec := ⟨List AskD × List (List Value), fun g vs A => ∃ x, vs = [x] ∧ Sl A 15 g.1.length x g.2.flatten ∧ g.1.length * 168 ≤ 140737488351232 ∧ AsksR A g.1 g.2, fun g _ A v A' => A.Sub A' ∧ Sl (A'.minus A) 15 g.1.length v g.2.flatten ∧ (0 < g.1.length → ∃ b nc c t, v = .slice (some ⟨b, 0, none⟩) g.1.length nc ∧ g.1.length ≤ nc ∧ A.blk b = none ∧ A'.blk b = some (.cells c t (0, 0)) ∧ g.1.length * 15 ≤ c.size)⟩

set_option maxRecDepth 100000 in
set_option maxHeartbeats 0 in
theorem cloneAsks_ok : FOk Try.prog 60 cloneAsksS := by
  refine fok_v mixed fun ⟨ds, rows⟩ vs A hp => ?_
  simp only [cloneAsksS] at hp
  obtain ⟨x, rfl, ⟨ao, c, rfl, hc, hl, ha1, ha2, ha3⟩, hxl, hR⟩ := hp
  have hrow : ds.length = 0 → rows.flatten = [] := fun h => List.length_eq_zero_iff.1 (by rw [hl, h])
  refine ⟨noC, noL, 60, noC_sound _, noL_sound _, fun blk os out tape D hD => ?_⟩
  conv => lhs; whnf
  refine split_b (fun hb => ?_) (fun hb => ?_) <;> (conv => lhs; whnf)
  · have h0 : ao = none := by simpa using hb
    have h1 := ha1 h0
    have h2 : ds.length = 0 := by omega
    refine (hD _).2 ⟨Arena.Sub.refl _, ?_, fun (h : 0 < ds.length) => by omega⟩
    show Sl _ 15 ds.length _ rows.flatten
    rw [hrow h2, h2]
    exact Sl.nil _ _
  · have h0 : ∃ a, ao = some a := by cases ao with
      | none => simp at hb
      | some a => exact ⟨a, rfl⟩
    obtain ⟨⟨g, o, sp⟩, rfl⟩ := h0
    have hsp : sp = none ∨ ds.length = 0 := by
      rcases Nat.eq_zero_or_pos c with h | h
      · right; omega
      · left; exact ha2 _ rfl h
    rcases sp with _ | sp
    all_goals
      refine (hD _).2 fun g1 A1 hN => ?_
      conv => lhs; whnf
      refine (hD _).2 ⟨[], rows.flatten, rfl, ?_, hl, (asksR_one hR), by omega, ?_, rfl, fun h => (by cases h), fun _ _ _ h1 h2 => ?_, fun v A2 hA => ?_⟩
      · first
        | (show (if ds.length = 0 then some [] else A1.rd g o (ds.length * 15)) = _
           by_cases h0 : ds.length = 0
           · rw [if_pos h0, hrow h0]
           · rw [if_neg h0]; exact rd_sub hN.sub (ha3 (by omega) _ rfl))
        | (have h9 : ds.length = 0 := hsp.resolve_left (by simp)
           show (if ds.length = 0 then some [] else none) = _
           rw [if_pos h9, hrow h9])
      · intro h0
        rw [nextcap0 h0]
        show ds.length * 168 ≤ _
        omega
      · exfalso
        exact h2 (hrow (by omega))
      · obtain ⟨k1, k2⟩ := clone_end hN.sub hA hl
        conv => lhs; whnf
        exact (hD _).2 ⟨k1, k2, fun h => clone_row hN.sub hA hl h⟩


/-! ### A call in memory of its own -/

def copiedS (n : Nat) : FSpec := ⟨AskD, fun d vs A => ∃ cs, vs = [askV cs] ∧ d.sz < n ∧ AskR A d cs, fun d _ A v A' => A.Sub A' ∧ ∃ cs, v = askV cs ∧ AskR (A'.minus A) d cs⟩

/-- The arena but for a block. -/
def Arena.but (A : Arena) (g : Nat) : Arena := Arena.of fun k => if k = g then none else A.blk k

/-- What lies while the parts are gone through: k are done. -/
structure Mid (A3 : Arena) (g : Nat) (ds : List AskD) (rows : List (List Value)) (k : Nat) (done : List (List Value)) (Ak : Arena) : Prop where
  le : k ≤ ds.length
  len : done.length = k
  red : AsksR (Ak.minus A3) (ds.take k) done
  sub : (Arena.but A3 g).Sub Ak
  row : Ak.rd g 0 (ds.length * 15) = some (done ++ rows.drop k).flatten
  own : ∃ c t, Ak.blk g = some (.cells c t (0, 0)) ∧ ds.length * 15 ≤ c.size

theorem but_sub {A2 A3 : Arena} {g : Nat} (h : A2.Sub A3) (hg : A2.blk g = none) : A2.Sub (Arena.but A3 g) := fun k o hk => by
  show (if k = g then none else A3.blk k) = some o
  rw [if_neg (fun e => by subst e; rw [hg] at hk; cases hk)]
  exact h k o hk

theorem asks_take {B : Arena} : ∀ {ds : List AskD} {done : List (List Value)} {k : Nat} (hk : k < ds.length) {cs : List Value}, AsksR B (ds.take k) done → AskR B ds[k] cs → AsksR B (ds.take (k + 1)) (done ++ [cs])
  | d :: ds, done, 0, _, cs, h, hc => by
    simp only [List.take_zero, AsksR] at h
    subst h
    exact ⟨cs, [], rfl, hc, rfl⟩
  | d :: ds, done, k + 1, hk, cs, h, hc => by
    simp only [List.take_succ_cons] at h ⊢
    obtain ⟨r, rs, rfl, h1, h2⟩ := h
    exact ⟨r, rs ++ [cs], rfl, h1, asks_take (ds := ds) (k := k) (by simpa using hk) h2 (by simpa using hc)⟩

theorem flat15 : ∀ {l : List (List Value)}, (∀ r ∈ l, r.length = 15) → l.flatten.length = l.length * 15
  | [], _ => rfl
  | r :: l, h => by
    rw [List.flatten_cons, List.length_append, flat15 (fun r' h' => h r' (List.mem_cons_of_mem _ h')), h r (by simp), List.length_cons]; omega

theorem mid_start {A3 : Arena} {g : Nat} {ds : List AskD} {rows : List (List Value)} {c : Array Value} {t : TypeId} (hg : A3.blk g = some (.cells c t (0, 0))) (hc : ds.length * 15 ≤ c.size) (hr : A3.rd g 0 (ds.length * 15) = some rows.flatten) : Mid A3 g ds rows 0 [] A3 where
  le := Nat.zero_le _
  len := rfl
  red := by simp [AsksR]
  sub := fun k o hk => by
    have hk : (if k = g then none else A3.blk k) = some o := hk
    split at hk
    · cases hk
    · exact hk
  row := by simpa using hr
  own := ⟨c, t, hg, hc⟩

theorem mid_step {A3 : Arena} {g : Nat} {ds : List AskD} {rows : List (List Value)} {k : Nat} {done : List (List Value)} {Ak A' A'' : Arena} (hM : Mid A3 g ds rows k done Ak) (hk : k < ds.length) (hlen : rows.length = ds.length) (h15 : ∀ r ∈ rows, r.length = 15)
    {o : Obj} (hg3 : A3.blk g = some o) {cs : List Value} (hs : Ak.Sub A') (hc : AskR (A'.minus Ak) ds[k] cs) {o' : Nat} (ho : o' = k * 15) (hp : A'.Put A'' g o' cs) : Mid A3 g ds rows (k + 1) (done ++ [cs]) A'' := by
  subst ho
  obtain ⟨c, t, hb, hcs⟩ := hM.own
  have hb' := hs _ _ hb
  obtain ⟨c0, t0, fz0, c1, e1, e2, e3⟩ := hp.at_
  rw [hb'] at e1
  injection e1 with e1
  injection e1 with e1 e4 e5
  subst e1 e4 e5
  have hcl : cs.length = 15 := hc.len
  have hd15 := hM.red.lens
  have hdf : done.flatten.length = k * 15 := by rw [flat15 hd15, hM.len]
  have hnew : ∀ b ob, A'.blk b = some ob → b ≠ g → A''.blk b = some ob := fun b ob h hne => by rw [hp.other b hne]; exact h
  have hneg : ∀ b ob, (A'.minus Ak).blk b = some ob → b ≠ g := fun b ob h e => by
    subst e
    rw [minus_none _ hb] at h; cases h
  refine ⟨by omega, by simp [hM.len], asks_take hk ?_ ?_, ?_, ?_, ⟨c1, t, e2, ?_⟩⟩
  · -- those that were done
    refine AsksR.sub (fun b ob h => ?_) _ _ hM.red
    obtain ⟨h1, h2⟩ := minus_blk h
    exact minus_mk h1 (hnew _ _ (hs _ _ h2) fun e => by subst e; rw [hg3] at h1; cases h1)
  · -- the new one
    refine AskR.sub (fun b ob h => ?_) _ _ hc
    obtain ⟨h1, h2⟩ := minus_blk h
    refine minus_mk ?_ (hnew _ _ h2 (hneg _ _ h))
    cases h3 : A3.blk b with
    | none => rfl
    | some o3 =>
      have := hM.sub b o3 (by show (if b = g then none else A3.blk b) = _; rw [if_neg (hneg _ _ h)]; exact h3)
      rw [this] at h1; cases h1
  · intro b ob h
    have hbg : b ≠ g := fun e => by
      have h : (if b = g then none else A3.blk b) = some ob := h
      rw [if_pos e] at h; cases h
    exact hnew _ _ (hs _ _ (hM.sub _ _ h)) hbg
  · -- the row
    have hrow := hM.row
    obtain ⟨c', t', fz', hb2, hle, hfl⟩ := rd_some hrow
    rw [hb] at hb2
    injection hb2 with hb2
    injection hb2 with hb2 _ _
    subst hb2
    have hcl1 : c.toList.length = c.size := Array.length_toList
    have hsz : c1.size = c.size := by
      rw [← Array.length_toList, e3]; simp; omega
    rw [rd_mk e2 (by omega)]
    congr 1
    rw [List.drop_zero] at hfl ⊢
    have hdrop : rows.drop k = rows[k]'(by omega) :: rows.drop (k + 1) := List.drop_eq_getElem_cons (by omega)
    have hsplit : c.toList = done.flatten ++ rows[k]'(by omega) ++ (rows.drop (k + 1)).flatten ++ c.toList.drop (ds.length * 15) := by
      have := List.take_append_drop (ds.length * 15) c.toList
      rw [← hfl, hdrop, List.flatten_append, List.flatten_cons] at this
      simpa only [List.append_assoc] using this.symm
    have hr15 := h15 _ (List.getElem_mem (l := rows) (n := k) (by omega))
    have htail : ((rows.drop (k + 1)).flatten).length = (ds.length - (k + 1)) * 15 := by
      rw [flat15 (fun r hr => h15 r (List.mem_of_mem_drop hr)), List.length_drop, hlen]
    rw [e3]
    have t1 : c.toList.take (k * 15) = done.flatten := by
      rw [hsplit, List.append_assoc, List.append_assoc, List.take_left' hdf]
    have t2 : c.toList.drop (k * 15 + cs.length) = (rows.drop (k + 1)).flatten ++ c.toList.drop (ds.length * 15) := by
      conv => lhs; rw [hsplit]
      rw [List.append_assoc, List.drop_left' (by simp [hdf, hr15, hcl])]
    rw [t1, t2, ← List.append_assoc, List.take_left' (by
      simp only [List.length_append, hdf, hcl, htail]
      have : (ds.length - (k + 1)) * 15 + (k + 1) * 15 = ds.length * 15 := by rw [← Nat.add_mul]; congr 1; omega
      omega)]
    simp
  · have hcl1 : c.toList.length = c.size := Array.length_toList
    have : c1.size = c.size := by
      rw [← Array.length_toList, e3]; simp; omega
    omega

theorem mid_at {A3 : Arena} {g : Nat} {ds : List AskD} {rows : List (List Value)} {k : Nat} {done : List (List Value)} {Ak : Arena} (hM : Mid A3 g ds rows k done Ak) (hk : k < ds.length) (hlen : rows.length = ds.length) (h15 : ∀ r ∈ rows, r.length = 15) : Ak.rd g (0 + k * 15) 15 = some (rows[k]'(by omega)) := by
  have hl : (done ++ rows.drop k).length = ds.length := by
    have := hM.len
    simp; omega
  rw [rows_at (rows := done ++ rows.drop k) hM.row (fun r hr => by
    rcases List.mem_append.1 hr with hr | hr
    · exact hM.red.lens r hr
    · exact h15 r (List.mem_of_mem_drop hr)) k (by omega) hl.symm]
  congr 1
  rw [List.getElem_append_right (by have := hM.len; omega)]
  have := hM.len
  simp [this]

def copyInv (A3 : Arena) (g : Nat) (ds : List AskD) (rows : List (List Value)) : LInv := { γ := Nat × List (List Value) × Arena, G := fun s => Mid A3 g ds rows s.1 s.2.1 s.2.2, keepS := [1, 2, 18, 19], keepB := [0, 1], sl := fun s => [(20, .v (.int .i64 s.1))], bl := fun _ => [], ar := fun s => s.2.2, mu := fun s => ds.length - s.1 }

set_option maxRecDepth 100000 in
set_option maxHeartbeats 0 in
theorem copied_of (m : Nat) (ih : FOk Try.prog 31 (copiedS m)) : FOk Try.prog 31 (copiedS (m + 1)) := by
  refine fok_v mixed fun d vs A hp => ?_
  simp only [copiedS] at hp
  obtain ⟨x, rfl, hsz, hx⟩ := hp
  obtain ⟨kind, xid, ses, turn, path, data, flags, ver, watch, sort, last, tmo, frm, mem, parts⟩ := d
  obtain ⟨vd, vm, vp, rows, rfl, hx1, hx2, hx3, hx4, hx5⟩ := hx
  have hC : CTSound Try.prog (lookC [specE 31 (copiedS m), specE 59 cloneBytesS, specE 52 cloneMembersS, specE 60 cloneAsksS] noC) := lookC_sound (noC_sound _) (fun x hx => by
    simp only [List.mem_cons, List.not_mem_nil, or_false] at hx
    rcases hx with rfl | rfl | rfl | rfl
    · exact specE_ok ih
    · exact specE_ok cloneBytes_ok
    · exact specE_ok cloneMembers_ok
    · exact specE_ok cloneAsks_ok)
  refine ⟨_, tabO Try.prog _ noL 60 [(31, 0)], 60, hC, tabO_sound mixed hC (noL_sound _) _ _, fun blk os out tape D hD => ?_⟩
  conv => lhs; whnf
  refine (hD _).2 ⟨data, ⟨vd, rfl, hx1⟩, fun vd' A1 hq => ?_⟩
  obtain ⟨s1, b1⟩ : A.Sub A1 ∧ SlB (A1.minus A) vd' data := hq
  obtain ⟨ao1, k1, rfl⟩ := b1.1.form
  conv => lhs; whnf
  repeat (refine go_D hD rfl ?_; conv => lhs; whnf)
  refine (hD _).2 ⟨mem, ⟨vm, rfl, hx2.sub s1⟩, fun vm' A2 hq => ?_⟩
  obtain ⟨s2, b2⟩ : A1.Sub A2 ∧ MemR (A2.minus A1) vm' mem := hq
  obtain ⟨ao2, k2, rfl⟩ := b2.1.form
  conv => lhs; whnf
  repeat (refine go_D hD rfl ?_; conv => lhs; whnf)
  refine (hD _).2 ⟨(parts, rows), ⟨vp, rfl, hx3.sub (s1.trans s2), hx4, AsksR.sub (s1.trans s2) _ _ hx5⟩, fun vp' A3 hq => ?_⟩
  obtain ⟨s3, b3, b4⟩ : A2.Sub A3 ∧ Sl (A3.minus A2) 15 parts.length vp' rows.flatten ∧ (0 < parts.length → ∃ b nc c t, vp' = .slice (some ⟨b, 0, none⟩) parts.length nc ∧ parts.length ≤ nc ∧ A2.blk b = none ∧ A3.blk b = some (.cells c t (0, 0)) ∧ parts.length * 15 ≤ c.size) := hq
  obtain ⟨ao3, k3, rfl⟩ := b3.form
  conv => lhs; whnf
  by_cases hn : parts.length = 0
  · refine (hD _).2 ⟨cnt A3 20 [1, 2, 18, 19] [0, 1] 0 fun _ => True, ⟨(0 : Nat), ⟨Nat.zero_le _, trivial⟩, ⟨rfl, trivial⟩, trivial, rfl⟩, fun (k : Nat) hk => ⟨⟨trivial, trivial⟩, trivial, ?_⟩⟩
    simp only [cnt] at hk
    obtain rfl : k = 0 := by omega
    conv => lhs; whnf
    refine split_dec (fun hlt => by omega) (fun hb => ?_)
    conv => lhs; whnf
    have hp0 : parts = [] := List.length_eq_zero_iff.1 hn
    subst hp0
    simp only [AsksR] at hx5
    subst hx5
    have s13 : A1.Sub A3 := s2.trans s3
    exact (hD _).2 ⟨s1.trans s13, _, rfl, _, _, _, [], rfl, b1.sub (minus_up s13), b2.sub ((minus_later s1).trans (minus_up s3)), b3.sub (minus_later (s1.trans s2)), by simp, rfl⟩
  · obtain ⟨g, nc, c, t, he, hnc, hg2, hg3, hcs⟩ := b4 (by omega)
    injection he with he1 _ he3
    subst he1 he3
    refine (hD _).2 ⟨copyInv A3 g parts rows, ⟨(0, [], A3), ?_, ⟨rfl, trivial⟩, trivial, rfl⟩, fun s hG => ⟨⟨trivial, trivial⟩, trivial, ?_⟩⟩
    · have hr := b3
      obtain ⟨ao, cc, hv, _, _, _, _, hrd⟩ := hr
      injection hv with hv1 _ hv3
      subst hv1
      exact mid_start hg3 hcs (rd_sub (minus_sub _ _) (hrd (Nat.pos_of_ne_zero hn) _ rfl))
    · obtain ⟨k, done, Ak⟩ := s
      simp only [copyInv] at hG
      have hlen := hx5.length
      have h15 := hx5.lens
      have sAk : A.Sub Ak := ((s1.trans s2).trans (but_sub s3 hg2)).trans hG.sub
      have sA3 : A.Sub A3 := (s1.trans s2).trans s3
      conv => lhs; whnf
      refine split_dec (fun hlt => ?_) (fun hb => ?_) <;> (conv => lhs; whnf)
      · have hk : k < parts.length := by
          have hlt : (k : Int) < parts.length := hlt
          omega
        refine split_in (fun _ _ => ?_) (fun h => ?_)
        rotate_left
        · exfalso
          have h : ¬ (0 ≤ (k : Int) ∧ (k : Int) < parts.length) := h
          omega
        conv => lhs; whnf
        have hat := mid_at hG hk hlen h15
        have hR := hx5.at_ k hk (by omega)
        generalize rows[k]'(by omega) = r at hat hR
        obtain ⟨p0, p1, p2, p3, p4, q5, u5, n5, p6, p7, p8, p9, p10, p11, p12, q13, u13, n13, q14, u14, n14, rfl⟩ := hR.form
        refine go_rd hat ?_
        conv => lhs; whnf
        refine (hD _).2 ⟨parts[k], ⟨_, rfl, ?_, AskR.sub sAk _ _ hR⟩, fun v A' hq => ?_⟩
        · have := sz_at hk
          simp only [AskD.sz] at hsz
          omega
        obtain ⟨s', cs', hv, hR'⟩ : Ak.Sub A' ∧ ∃ cs, v = askV cs ∧ AskR (A'.minus Ak) parts[k] cs := hq
        subst hv
        have h15' := hR'.len
        obtain ⟨p0', p1', p2', p3', p4', q5', u5', n5', p6', p7', p8', p9', p10', p11', p12', q13', u13', n13', q14', u14', n14', rfl⟩ := hR'.form
        conv => lhs; whnf
        repeat (refine go_D hD rfl ?_; conv => lhs; whnf)
        refine split_in (fun _ _ => ?_) (fun h => ?_)
        rotate_left
        · exfalso
          have h : ¬ (0 ≤ (k : Int) ∧ (k : Int) < parts.length) := h
          omega
        conv => lhs; whnf
        refine (hD _).2 ⟨?_, fun A'' hPut => ?_⟩
        · obtain ⟨c', t', hb', hc'⟩ := hG.own
          refine ⟨c', t', _, s' _ _ hb', ?_, ?_⟩
          · show 0 + k * 15 + 15 ≤ c'.size
            omega
          · exact .inl rfl
        conv => lhs; whnf
        refine (hD _).2 ⟨(k + 1, done ++ [_], A''), ⟨mid_step hG hk hlen h15 hg3 s' hR' (show 0 + k * 15 = k * 15 by omega) hPut, ⟨inc_slot (by omega), trivial⟩, trivial, rfl⟩, ?_, ⟨rfl, rfl, rfl, rfl, trivial⟩, ⟨rfl, rfl, trivial⟩⟩
        show parts.length - (k + 1) < parts.length - k
        omega
      · have hk : k = parts.length := by
          have := hG.le
          have hb : ¬ ((k : Int) < parts.length) := hb
          omega
        subst hk
        have hrow := hG.row
        have hred := hG.red
        rw [List.drop_eq_nil_of_le (by omega), List.append_nil] at hrow
        rw [List.take_length] at hred
        have s3' : A2.Sub Ak := (but_sub s3 hg2).trans hG.sub
        have hgA : A.blk g = none := by
          cases h : A.blk g with
          | none => rfl
          | some o => rw [(s1.trans s2) _ _ h] at hg2; cases hg2
        exact (hD _).2 ⟨sAk, _, rfl, _, _, _, done, rfl, b1.sub (minus_up (s2.trans s3')), b2.sub ((minus_later s1).trans (minus_up s3')), Sl.row hnc (rd_minus hrow hgA), hx4, AsksR.sub ((minus_later sA3)) _ _ hred⟩

/-- A call of whatever size. -/
theorem copied_all : ∀ m, FOk Try.prog 31 (copiedS m)
  | 0 => fun g vs A w _ hp => by obtain ⟨_, _, h, _⟩ := hp; omega
  | m + 1 => copied_of m (copied_all m)

def copiedS' : FSpec := ⟨AskD, fun d vs A => ∃ cs, vs = [askV cs] ∧ AskR A d cs, fun d _ A v A' => A.Sub A' ∧ ∃ cs, v = askV cs ∧ AskR (A'.minus A) d cs⟩

theorem copied_ok : FOk Try.prog 31 copiedS' := fun g vs A w hA ⟨x, h1, h2⟩ =>
  copied_all (g.sz + 1) g vs A w hA ⟨x, h1, Nat.lt_succ_self _, h2⟩

end
end Go.Proofs.Ytompigcfojbpkaa
