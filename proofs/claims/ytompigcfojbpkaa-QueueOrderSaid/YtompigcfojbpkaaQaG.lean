/-
  QueueOrder: the law's text over plain data.
-/
import Derived.Test.YtompigcfojbpkaaQaF
namespace Go.Proofs.Ytompigcfojbpkaa
open Go.Sx Go.RowKit
noncomputable section
open Classical

structure DoD where
  op : Int
  ask : AskD
  turn : Int
  xid : Int

def DoR (B : Arena) (d : DoD) (r : List Value) : Prop := ∃ cs, r = .int .i64 d.op :: (cs ++ [.int .i64 d.turn, .int .i64 d.xid]) ∧ AskR B d.ask cs

def DosR (B : Arena) (ds : List DoD) (rows : List (List Value)) : Prop := rows.length = ds.length ∧ ∀ k (h1 : k < ds.length) (h2 : k < rows.length), DoR B ds[k] rows[k]

theorem DoR.len {B : Arena} {d : DoD} {r : List Value} (h : DoR B d r) : r.length = 18 := by
  obtain ⟨cs, rfl, h⟩ := h
  have := h.len
  simp; omega

def DosS (B : Arena) (v : Value) (ds : List DoD) : Prop := ∃ rows, Sl B 18 ds.length v rows.flatten ∧ ds.length * 192 ≤ 140737488351232 ∧ DosR B ds rows

theorem dos_at {A : Arena} {ds : List DoD} {rows : List (List Value)} (hR : DosR A ds rows) {g o n : Nat} (hra : A.rd g o (n * 18) = some rows.flatten) (hn : n = ds.length) {k : Nat} (hk : k < ds.length) :
    ∃ op tn xn cs d, AskR A d cs ∧ A.rd g (o + k * 18 + 0) 1 = some [.int .i64 op] ∧ A.rd g (o + k * 18 + 1) 15 = some cs ∧ A.rd g (o + k * 18 + 16) 1 = some [.int .i64 tn] ∧ A.rd g (o + k * 18 + 17) 1 = some [.int .i64 xn] := by
  obtain ⟨h1, h2⟩ := hR
  have hlens : ∀ r ∈ rows, r.length = 18 := fun r hr => by
    obtain ⟨i, hi, rfl⟩ := List.mem_iff_getElem.1 hr
    exact (h2 i (by omega) hi).len
  have hrd := rows_at hra hlens k (by omega) (by omega)
  obtain ⟨cs, he, hc⟩ := h2 k hk (by omega)
  have h15 := hc.len
  rw [he] at hrd
  refine ⟨ds[k].op, ds[k].turn, ds[k].xid, cs, ds[k].ask, hc, ?_, ?_, ?_, ?_⟩
  · rw [rd_at (i := 0) (m := 1) hrd (by omega)]; rfl
  · rw [rd_at (i := 1) (m := 15) hrd (by omega), List.drop_succ_cons, List.drop_zero, List.take_left' h15]
  · rw [rd_at (i := 16) (m := 1) hrd (by omega), List.drop_succ_cons, List.drop_left' h15]; rfl
  · rw [rd_at (i := 17) (m := 1) hrd (by omega), List.drop_succ_cons, List.drop_append, List.drop_eq_nil_of_le (by omega), h15]; rfl

def pickS : FSpec := ⟨Int, fun x vs _ => vs = [.int .i64 x, .int .i64 4], fun _ _ A v A' => A' = A ∧ ∃ k, v = .int .i64 k⟩

set_option maxRecDepth 100000 in
set_option maxHeartbeats 0 in
theorem pick_ok : FOk Try.prog 9 pickS := by
  refine fok_v mixed fun x vs A hp => ?_
  simp only [pickS] at hp
  subst hp
  refine ⟨noC, noL, 60, noC_sound _, noL_sound _, fun blk os out tape D hD => ?_⟩
  conv => lhs; whnf
  refine split_dec (fun _ => ?_) (fun _ => ?_) <;> (conv => lhs; whnf)
  all_goals exact (hD _).2 ⟨rfl, _, rfl⟩

def greatS : FSpec := ⟨AskD, fun d vs A => ∃ cs, vs = [askV cs] ∧ AskR A d cs, fun _ _ A v A' => A' = A ∧ ∃ b, v = .bool b⟩

set_option maxRecDepth 100000 in
set_option maxHeartbeats 0 in
theorem great_ok : FOk Try.prog 7 greatS := by
  refine fok_v mixed fun d vs A hp => ?_
  simp only [greatS] at hp
  obtain ⟨cs, rfl, hR⟩ := hp
  obtain ⟨p0, p1, p2, p3, p4, q5, u5, n5, p6, p7, p8, p9, p10, p11, p12, q13, u13, n13, q14, u14, n14, rfl⟩ := hR.form
  refine ⟨noC, noL, 60, noC_sound _, noL_sound _, fun blk os out tape D hD => ?_⟩
  conv => lhs; whnf
  repeat' (first
    | exact (hD _).2 ⟨rfl, _, rfl⟩
    | (refine split_dec (fun _ => ?_) (fun _ => ?_) <;> (conv => lhs; whnf)))

/-! ### The wait list -/

/-- The calls that wait, as the law holds them: rows of the calls that came in. -/
structure WRow (A0 B A : Arena) (g : Nat) (wl : List AskD) (rows : List (List Value)) (w o c : Nat) : Prop where
  le : wl.length ≤ c
  at_ : ∃ cells t fz, A.blk w = some (.cells cells t fz) ∧ Fz cells.size fz ∧ o + c * 15 ≤ cells.size
  rd : A.rd w o (wl.length * 15) = some rows.flatten
  ne : w ≠ g
  off0 : A0.blk w = none
  offB : B.blk w = none

def WaitR (A0 B A : Arena) (g : Nat) (v : Value) (wl : List AskD) : Prop := ∃ rows, AsksR A0 wl rows ∧
  ((v = .slice none 0 0 ∧ wl = []) ∨ ∃ w o c, v = .slice (some ⟨w, o, none⟩) wl.length c ∧ WRow A0 B A g wl rows w o c)

theorem WaitR.up {A0 B B' A A' : Arena} {g : Nat} {v : Value} {wl : List AskD} (h : WaitR A0 B A g v wl) (hs : (Arena.but A g).Sub A') (hB : ∀ k o, A.blk k = some o → B.blk k = none → B'.blk k = none) : WaitR A0 B' A' g v wl := by
  obtain ⟨rows, h1, h2⟩ := h
  refine ⟨rows, h1, h2.imp id ?_⟩
  rintro ⟨w, o, c, k1, ⟨k2, ⟨cells, t, fz, k3, k4, k5⟩, k6, k7, k8, k9⟩⟩
  have h9 := hs _ _ (but_mk k3 k7)
  refine ⟨w, o, c, k1, ⟨k2, ⟨cells, t, fz, h9, k4, k5⟩, ?_, k7, k8, hB _ _ k3 k9⟩⟩
  obtain ⟨c', t', fz', e1, e2, e3⟩ := rd_some k6
  rw [k3] at e1
  injection e1 with e1
  injection e1 with e1 _ _
  subst e1
  rw [rd_mk h9 e2, e3]

theorem asks_snoc {B : Arena} : ∀ {ds : List AskD} {rows : List (List Value)} {d : AskD} {cs : List Value}, AsksR B ds rows → AskR B d cs → AsksR B (ds ++ [d]) (rows ++ [cs])
  | [], _, d, cs, h, hc => by
    simp only [AsksR] at h
    subst h
    exact ⟨cs, [], rfl, hc, rfl⟩
  | e :: ds, _, d, cs, h, hc => by
    obtain ⟨r, rs, rfl, h1, h2⟩ := h
    exact ⟨r, rs ++ [cs], rfl, h1, asks_snoc h2 hc⟩

/-- A call joins those that wait: A1 with the call's own row, A2 behind the append. -/
theorem wait_append {A0 B A A1 A2 : Arena} {g : Nat} {wl : List AskD} {rows : List (List Value)} {d : AskD} {cs : List Value} {base : Option (Nat × Nat)} {c : Nat} {e : TypeId} {v : Value} (hr : AsksR A0 wl rows) (hd : AskR A0 d cs)
    (hbase : (base = none ∧ wl = [] ∧ c = 0) ∨ ∃ w o, base = some (w, o) ∧ WRow A0 B A g wl rows w o c) (s0 : A0.Sub A) (hQ : QR B A g (wl ++ [d])) (_hg0 : A0.blk g = none)
    (s1 : A.Sub A1) (hA : Appended A1 base wl.length c 15 e rows.flatten cs 1 v A2) :
    A0.Sub A2 ∧ QR B A2 g (wl ++ [d]) ∧ WaitR A0 B A2 g v (wl ++ [d]) := by
  have hcl : cs.length = 15 := hd.len
  have hw15 := hr.lens
  have hwf : rows.flatten.length = wl.length * 15 := by rw [flat15 hw15, hr.length]
  obtain ⟨first, qrows, hq⟩ := hQ
  have hQ : QR B A g (wl ++ [d]) := ⟨first, qrows, hq⟩
  have hgo : ∃ o, A.blk g = some o := by obtain ⟨c, t, fz, h, _⟩ := hq.raw.at_; exact ⟨_, h⟩
  have hsub : B.Sub A := hq.sub
  rcases hA with ⟨hle, rfl, hP⟩ | ⟨hlt, w, nc, cells, zs, rfl, hnc, hcells, hzs, hN⟩
  · -- in its row
    rcases hbase with ⟨_, rfl, rfl⟩ | ⟨w, o, rfl, hW⟩
    · simp at hle
    · rcases hP with ⟨rfl, _⟩ | ⟨w', o', he, hP⟩
      · simp at hcl
      injection he with he
      injection he with e1 e2
      subst e1 e2
      have keep : ∀ {X : Arena}, X.Sub A → X.blk w = none → X.Sub A2 := fun hX hw => hP.sub (hX.trans s1) hw
      obtain ⟨cl, t, fz, k3, k4, k5⟩ := hW.at_
      obtain ⟨c0, t0, fz0, c1, f1, f2, f3⟩ := hP.at_
      rw [s1 _ _ k3] at f1
      injection f1 with f1
      injection f1 with f1 f4 f5
      subst f1 f4 f5
      have hcl' : cl.toList.length = cl.size := Array.length_toList
      have hmul : (wl.length + 1) * 15 ≤ c * 15 := Nat.mul_le_mul_right 15 hle
      have hsz : c1.size = cl.size := by
        rw [← Array.length_toList, f3]; simp; omega
      refine ⟨keep s0 hW.off0, hQ.up (keep hsub hW.offB) (fun ob h => by rw [hP.other g (Ne.symm hW.ne)]; exact s1 _ _ h), rows ++ [cs], asks_snoc hr hd, .inr ⟨w, o, c, by simp; rfl, ⟨by simpa using hle, ⟨c1, t, fz, f2, by rw [hsz]; exact k4, by rw [hsz]; exact k5⟩, ?_, hW.ne, hW.off0, hW.offB⟩⟩⟩
      obtain ⟨c2, t2, fz2, g1, g2, g3⟩ := rd_some hW.rd
      rw [k3] at g1
      injection g1 with g1
      injection g1 with g1 _ _
      subst g1
      rw [rd_mk f2 (by simp; omega)]
      congr 1
      rw [f3, List.flatten_append]
      have t1 : (cl.toList.take (o + wl.length * 15)).drop o = rows.flatten := by
        rw [List.drop_take, g3]; congr 1; omega
      have t2 : ((cl.toList.take (o + wl.length * 15) ++ cs) ++ cl.toList.drop (o + wl.length * 15 + cs.length)).drop o = (rows.flatten ++ cs) ++ cl.toList.drop (o + wl.length * 15 + cs.length) := by
        rw [List.append_assoc, List.drop_append_of_le_length (by simp; omega), t1, List.append_assoc]
      rw [t2, List.take_left' (by simp [hwf, hcl]; omega)]
      simp
  · -- in a new row
    have s2 := s1.trans hN.sub
    have hnone : ∀ {X : Arena}, X.Sub A → X.blk w = none := fun {X} hX => by
      cases h : X.blk w with
      | none => rfl
      | some ob =>
        have := s1 _ _ (hX _ _ h)
        rw [hN.none_] at this; cases this
    have hsize : cells.size = (wl.length * 15 + 15) + (nc - (wl.length + 1)) * 15 := by
      rw [← Array.length_toList, hcells]; simp only [List.length_append, hwf, hcl, hzs]
    have hmul : (nc - (wl.length + 1)) * 15 + (wl.length + 1) * 15 = nc * 15 := by rw [← Nat.add_mul]; congr 1; omega
    refine ⟨s0.trans s2, hQ.up (hsub.trans s2) (fun ob h => s2 _ _ h), rows ++ [cs], asks_snoc hr hd, .inr ⟨w, 0, nc, by simp, ⟨by simpa using hnc, ⟨cells, e, (0, 0), hN.at_, .inl rfl, by omega⟩, ?_, ?_, hnone s0, hnone hsub⟩⟩⟩
    · rw [hN.rd (by simp; omega), hcells]
      congr 1
      rw [List.drop_zero, List.take_left' (by simp [hwf, hcl]; omega)]
      simp
    · intro e
      obtain ⟨ob, h⟩ := hgo
      have := s1 _ _ h
      rw [← e, hN.none_] at this; cases this

/-- The first of those that wait; what is left without it. -/
theorem wait_head {A0 B A : Arena} {g : Nat} {v : Value} {d : AskD} {wl : List AskD} (h : WaitR A0 B A g v (d :: wl)) : ∃ w o c, v = .slice (some ⟨w, o, none⟩) (d :: wl).length c ∧ ∃ cs, wl.length + 1 ≤ c ∧ AskR A0 d cs ∧ A.rd w (o + 0 * 15) 15 = some cs ∧
    ∀ o', (c = 1 → o' = o) → (c ≠ 1 → o' = o + 15) → ∀ c', c' = c - 1 → WaitR A0 B A g (.slice (some ⟨w, o', none⟩) wl.length c') wl := by
  obtain ⟨rows, hr, ⟨_, h⟩ | ⟨w, o, c, rfl, hW⟩⟩ := h
  · cases h
  · have h15 := hr.lens
    obtain ⟨r, rs, rfl, h1, h2⟩ := hr
    have hle : wl.length + 1 ≤ c := by simpa using hW.le
    refine ⟨w, o, c, rfl, r, hle, h1, rows_at hW.rd h15 0 (by simp) (by simp [h2.length]), fun o' ho1 ho2 c' hc' => ⟨rs, h2, .inr ⟨w, o', c', rfl, ⟨by omega, ?_, ?_, hW.ne, hW.off0, hW.offB⟩⟩⟩⟩
    · obtain ⟨cells, t, fz, k1, k2, k3⟩ := hW.at_
      refine ⟨cells, t, fz, k1, k2, ?_⟩
      subst hc'
      by_cases e : c = 1
      · rw [ho1 e, e]; omega
      · have := ho2 e; omega
    · obtain ⟨cells, t, fz, e1, e2, e3⟩ := rd_some hW.rd
      have hrf : rs.flatten.length = wl.length * 15 := by rw [flat15 h2.lens, h2.length]
      have hr15 := h1.len
      simp only [List.length_cons] at e2 e3
      by_cases e : c = 1
      · have : wl = [] := List.length_eq_zero_iff.1 (by omega)
        subst this
        simp only [AsksR] at h2
        subst h2
        rw [ho1 e, rd_mk e1 (by simp; omega)]; simp
      · rw [ho2 e, rd_mk e1 (by omega)]
        congr 1
        rw [List.flatten_cons] at e3
        have h3 : (r ++ rs.flatten).drop 15 = rs.flatten := by rw [List.drop_left' hr15]
        rw [← h3, e3, List.drop_take, List.drop_drop]
        congr 1
        omega

theorem WaitR.form {A0 B A : Arena} {g : Nat} {v : Value} {wl : List AskD} (h : WaitR A0 B A g v wl) : ∃ ao c, v = .slice ao wl.length c ∧ wl.length ≤ c := by
  obtain ⟨rows, _, ⟨rfl, rfl⟩ | ⟨w, o, c, rfl, h⟩⟩ := h
  · exact ⟨none, 0, rfl, Nat.le_refl _⟩
  · exact ⟨_, c, rfl, h.le⟩

theorem QR.sub {B A : Arena} {g : Nat} {ds : List AskD} (h : QR B A g ds) : B.Sub A := by
  obtain ⟨_, _, h⟩ := h
  exact h.sub

theorem QR.le {B A : Arena} {g : Nat} {ds : List AskD} (h : QR B A g ds) : ds.length ≤ 8 := by
  obtain ⟨_, _, h⟩ := h
  exact h.hi

theorem base_rd {A : Arena} {w o n : Nat} {cs : List Value} (h : A.rd w o n = some cs) : baseRd A (some (w, o)) n = some cs := by
  show (if n = 0 then some [] else A.rd w o n) = _
  split
  · rename_i h0
    subst h0
    rw [List.length_eq_zero_iff.1 (rd_len h)]
  · exact h

theorem WRow.room {A0 B A A1 : Arena} {g : Nat} {wl : List AskD} {rows : List (List Value)} {w o c : Nat} (h : WRow A0 B A g wl rows w o c) (s : A.Sub A1) (hlt : wl.length + 1 ≤ c) : A1.Room w (o + wl.length * 15) 15 := by
  obtain ⟨cells, t, fz, k1, k2, k3⟩ := h.at_
  have := Nat.mul_le_mul_right 15 hlt
  exact ⟨cells, t, fz, s _ _ k1, by omega, k2⟩

theorem capb {l c : Nat} (hl : l < 8) (hc : c < l + 1) : Builtin.nextslicecap (l + 1) c * 168 ≤ 281474976710656 := by
  unfold Builtin.nextslicecap
  split
  · omega
  · split <;> omega

theorem tail1 {o c : Nat} (h : c = 1) : o + (bif Nat.beq c 1 then 0 else 1 * 15) = o := by subst h; rfl
theorem tail2 {o c : Nat} (h : c ≠ 1) : o + (bif Nat.beq c 1 then 0 else 1 * 15) = o + 15 := by
  have : Nat.beq c 1 = false := by
    cases hb : Nat.beq c 1 with
    | false => rfl
    | true => exact absurd (Nat.eq_of_beq_eq_true hb) h
  rw [this]; rfl

theorem _root_.Go.Sx.AskR.nums {B : Arena} {d : AskD} {c0 c2 : Value} {x t : Int} {rest : List Value} (h : AskR B d (c0 :: .int .i64 x :: c2 :: .int .i64 t :: rest)) : d.xid = x ∧ d.turn = t := by
  cases d
  obtain ⟨vd, vm, vp, rows, e, _⟩ := h
  injection e with _ e
  injection e with e1 e
  injection e with _ e
  injection e with e3 _
  injection e1 with _ e1
  injection e3 with _ e3
  exact ⟨e1.symm, e3.symm⟩

theorem settle_nums {d : AskD} {tn xn : Int} (h : (!readsD d.kind && decide (d.turn = tn) && decide (d.xid = xn)) = true) : d.turn = tn ∧ d.xid = xn := by
  simp only [Bool.and_eq_true, decide_eq_true_eq] at h
  exact ⟨h.1.2, h.2⟩

structure St where
  i : Nat
  wl : List AskD
  wv : Value
  B : Arena
  A : Arena

def SInv (A0 : Arena) (g n : Nat) (s : St) : Prop := s.i ≤ n ∧ A0.Sub s.A ∧ QR s.B s.A g s.wl ∧ WaitR A0 s.B s.A g s.wv s.wl

def orderInv (A0 : Arena) (g n : Nat) : LInv := { γ := St, G := SInv A0 g n, keepS := [0, 3], keepB := [], sl := fun s => [(4, .v s.wv), (5, .v (.int .i64 s.i))], bl := fun _ => [], ar := fun s => s.A, mu := fun s => n - s.i }

def orderS : FSpec := ⟨List DoD, fun ds vs A => ∃ v, vs = [v] ∧ DosS A v ds, fun _ _ A v A' => A.Sub A' ∧ v = .bool true⟩

set_option maxRecDepth 100000 in
set_option maxHeartbeats 0 in
theorem order_ok : FOk Try.prog 4 orderS := by
  refine fok_v mixed fun ds vs A hp => ?_
  simp only [orderS] at hp
  obtain ⟨v, rfl, rows, hS, hlen, hR⟩ := hp
  obtain ⟨ao, c, rfl, hc, hl, ha1, ha2, ha3⟩ := hS
  have hrow : ∀ k (hk : k < ds.length), ∃ g0 o, ao = some ⟨g0, o, none⟩ ∧ ∃ op tn xn cs d, AskR A d cs ∧ A.rd g0 (o + k * 18 + 0) 1 = some [.int .i64 op] ∧ A.rd g0 (o + k * 18 + 1) 15 = some cs ∧ A.rd g0 (o + k * 18 + 16) 1 = some [.int .i64 tn] ∧ A.rd g0 (o + k * 18 + 17) 1 = some [.int .i64 xn] := fun k hk => by
    obtain ⟨g0, o, e, hra⟩ := Sl.at_ hc ha1 ha2 ha3 (by omega)
    exact ⟨g0, o, e, dos_at hR hra rfl hk⟩
  have hC : CTSound Try.prog (lookC [specE 8 ⟨Unit, fun _ vs _ => vs = [], fun _ _ A v A' => A' = A ∧ v = .bool true⟩, specE 5 newS, specE 11 putS, specE 15 readS, specE 18 settleS, specE 20 countS, specE 17 sameAskS', specE 9 pickS, specE 7 greatS] noC) := lookC_sound (noC_sound _) (fun x hx => by
    simp only [List.mem_cons, List.not_mem_nil, or_false] at hx
    rcases hx with rfl | rfl | rfl | rfl | rfl | rfl | rfl | rfl | rfl
    · exact specE_ok (fok_closed mixed C0_sound (noL_sound _) awake_run)
    · exact specE_ok new_ok
    · exact specE_ok put_ok
    · exact specE_ok read_ok
    · exact specE_ok settle_ok
    · exact specE_ok count_ok
    · exact specE_ok sameAsk_ok
    · exact specE_ok pick_ok
    · exact specE_ok great_ok)
  refine ⟨_, tabO Try.prog _ noL 60 [(4, 0)], 60, hC, tabO_sound mixed hC (noL_sound _) _ _, fun blk os out tape D hD => ?_⟩
  conv => lhs; whnf
  refine (hD _).2 ⟨(), rfl, fun v A' hq => ?_⟩
  obtain ⟨hA1, hv1⟩ : A' = A ∧ v = .bool true := hq
  subst hA1 hv1
  conv => lhs; whnf
  refine split_dec (fun h80 => ?_) (fun h80 => ?_)
  · have h80' : 80 < ds.length := by
      have h80 : (80 : Int) < ds.length := h80
      omega
    obtain ⟨g0, o, rfl, hra⟩ := Sl.at_ hc ha1 ha2 ha3 (by omega)
    obtain ⟨c', rfl⟩ : ∃ c', c = c' + 1 := ⟨c - 1, by omega⟩
    have hn : ∃ n : Nat, n = 80 ∧ n ≤ ds.length ∧ n ≤ c' + 1 := ⟨_, rfl, by omega, by omega⟩
    conv => lhs; whnf
    refine go_dec (by show (80 : Int) ≤ ((c' + 1 : Nat) : Int); omega) ?_
    conv => lhs; whnf
    obtain ⟨n, hn, hle, hnc⟩ := hn
    refine (hD _).2 ⟨(), rfl, fun v A1 hq => ?_⟩
    obtain ⟨s1, g, rfl, hg, hQ⟩ : A'.Sub A1 ∧ ∃ g, v = .pointer (some ⟨g, 0, none⟩) ∧ A'.blk g = none ∧ QR Arena.void A1 g [] := hq
    conv => lhs; whnf
    refine (hD _).2 ⟨orderInv A' g n, ⟨⟨0, [], .slice none 0 0, Arena.void, A1⟩, ⟨Nat.zero_le _, s1, hQ, ⟨[], by simp [AsksR], .inl ⟨rfl, rfl⟩⟩⟩, ⟨rfl, rfl, trivial⟩, trivial, rfl⟩, fun s hG => ⟨⟨trivial, trivial, trivial⟩, trivial, ?_⟩⟩
    obtain ⟨k, wl, wv, B, Ak⟩ := s
    obtain ⟨hk, sA, hQ, hW⟩ : k ≤ n ∧ A'.Sub Ak ∧ QR B Ak g wl ∧ WaitR A' B Ak g wv wl := hG
    conv => lhs; whnf
    refine split_dec (fun hlt => ?_) (fun hlt => ?_)
    rotate_left
    · conv => lhs; whnf
      exact (hD _).2 ⟨sA, rfl⟩
    have hkn : k < n := by
      have hlt : (k : Int) < (n : Int) := by rw [hn]; exact hlt
      omega
    obtain ⟨g1, o1, e1, op, tn, xn, cs, d, hR1, r0, r1, r2, r3⟩ := hrow k (by omega)
    cases e1
    conv => lhs; whnf
    have hin : (k : Int) < (n : Int) := by omega
    rw [hn] at hin
    refine go_in ⟨by show (0 : Int) ≤ (k : Int); omega, hin⟩ ?_
    conv => lhs; whnf
    obtain ⟨p0, p1, p2, p3, p4, q5, u5, n5, p6, p7, p8, p9, p10, p11, p12, q13, u13, n13, q14, u14, n14, rfl⟩ := hR1.form
    refine go_rd (rd_sub sA r1) ?_
    conv => lhs; whnf
    refine (hD _).2 ⟨d, ⟨_, rfl, AskR.sub sA _ _ hR1⟩, fun v A2 hq => ?_⟩
    obtain ⟨hA2, b, hb⟩ : A2 = Ak ∧ ∃ b, v = .bool b := hq
    have hA2 := hA2.symm
    subst hA2 hb
    conv => lhs; whnf
    refine split_b (fun _ => ?_) (fun _ => ?_) <;> (conv => lhs; whnf)
    · exact (hD _).2 ⟨sA, rfl⟩
    refine go_in ⟨by show (0 : Int) ≤ (k : Int); omega, hin⟩ ?_
    conv => lhs; whnf
    refine go_rd (rd_sub sA r0) ?_
    conv => lhs; whnf
    refine (hD _).2 ⟨op, rfl, fun v A2 hq => ?_⟩
    obtain ⟨hA2, x, hx⟩ : A2 = Ak ∧ ∃ k, v = .int .i64 k := hq
    have hA2 := hA2.symm
    subst hA2 hx
    have sB := but_sub sA hg
    obtain ⟨wo, wc, hwv, hwc⟩ := hW.form
    subst hwv
    have h8 : wl.length ≤ 8 := hQ.le
    have put : x = 0 ∨ x = 1 ∨ x = 2 ∨ x = 3 ∨ (x ≠ 0 ∧ x ≠ 1 ∧ x ≠ 2 ∧ x ≠ 3) := by omega
    rcases put with rfl | rfl | rfl | rfl | ⟨hx0, hx1, hx2, hx3⟩
    iterate 2
      · conv => lhs; whnf
        refine go_in ⟨by show (0 : Int) ≤ (k : Int); omega, hin⟩ ?_
        conv => lhs; whnf
        refine go_rd (rd_sub sA r1) ?_
        conv => lhs; whnf
        refine (hD _).2 ⟨(g, wl, d, B), ⟨_, rfl, hQ, AskR.sub sB _ _ hR1⟩, fun v A3 hq => ?_⟩
        obtain ⟨s3, hq⟩ : (Arena.but Ak g).Sub A3 ∧ ((wl.length = 8 ∧ v = .int .i64 360 ∧ QR B A3 g wl) ∨ (wl.length < 8 ∧ v = .int .i64 0 ∧ ∃ B', QR B' A3 g (wl ++ [d]) ∧ B.Sub B' ∧ ∀ k o, Ak.blk k = some o → B.blk k = none → B'.blk k = none)) := hq
        rcases hq with ⟨h9, rfl, hQ3⟩ | ⟨h9, rfl, B', hQ3, _, hB'⟩
        · conv => lhs; whnf
          refine split_b (fun hb => absurd hb (by simp [h9])) (fun _ => ?_)
          conv => lhs; whnf
          refine (hD _).2 ⟨(g, wl, B), ⟨rfl, hQ3⟩, fun v A9 hq => ?_⟩
          obtain ⟨hA9, hv9⟩ : A9 = A3 ∧ v = .int .i64 (wl).length := hq
          have hA9 := hA9.symm
          subst hA9 hv9
          conv => lhs; whnf
          refine split_b (fun hb => absurd hb (by simp)) (fun _ => ?_)
          conv => lhs; whnf
          exact (hD _).2 ⟨⟨k + 1, wl, _, B, _⟩, ⟨⟨by show k + 1 ≤ n; omega, sB.trans s3, hQ3, hW.up s3 (fun _ _ _ h => h)⟩, ⟨rfl, inc_slot (k := k) (by omega), trivial⟩, trivial, rfl⟩, by show n - (k + 1) < n - k; omega, ⟨rfl, rfl, trivial⟩, trivial⟩
        · conv => lhs; whnf
          refine split_b (fun hb => absurd hb (by simp; omega)) (fun _ => ?_)
          conv => lhs; whnf
          refine go_in ⟨by show (0 : Int) ≤ (k : Int); omega, hin⟩ ?_
          conv => lhs; whnf
          refine go_rd (rd_sub (sB.trans s3) r1) ?_
          conv => lhs; whnf
          refine (hD _).2 fun g2 A4 hN => ?_
          have hrow2 := hN.rd (o := 0) (n := 15) (by show 0 + 15 ≤ 15; omega)
          obtain ⟨wrows, hwr, ⟨e, e0⟩ | ⟨w, o2, c2, e, hW3⟩⟩ := hW.up s3 hB'
          · cases e0
            cases e
            have hw0 : wrows = [] := by simpa [AsksR] using hwr
            subst hw0
            conv => lhs; whnf
            refine (hD _).2 ⟨[], _, rfl, hrow2, rfl, askR_one hR1, by omega, fun _ => capb (l := 0) (c := 0) (by omega) (by omega), rfl, fun _ => ⟨rfl, rfl⟩, fun _ _ h => (by cases h), fun v A5 hA => ?_⟩
            obtain ⟨w1, w2, w3⟩ := wait_append (A := A3) (wl := []) (base := none) (c := 0) hwr hR1 (.inl ⟨rfl, rfl, rfl⟩) (sB.trans s3) hQ3 hg hN.sub hA
            obtain ⟨ao5, c5, hv5, _⟩ := w3.form
            subst hv5
            conv => lhs; whnf
            refine (hD _).2 ⟨(g, [] ++ [d], B'), ⟨rfl, w2⟩, fun v A9 hq => ?_⟩
            obtain ⟨hA9, hv9⟩ : A9 = A5 ∧ v = .int .i64 (([] ++ [d] : List AskD).length : Nat) := hq
            have hA9 := hA9.symm
            subst hA9 hv9
            conv => lhs; whnf
            exact (hD _).2 ⟨⟨k + 1, [] ++ [d], _, B', _⟩, ⟨⟨by show k + 1 ≤ n; omega, w1, w2, w3⟩, ⟨rfl, inc_slot (k := k) (by omega), trivial⟩, trivial, rfl⟩, by show n - (k + 1) < n - k; omega, ⟨rfl, rfl, trivial⟩, trivial⟩
          · cases e
            conv => lhs; whnf
            refine (hD _).2 ⟨wrows.flatten, _, base_rd (rd_sub hN.sub hW3.rd), hrow2, rfl, askR_one hR1, by omega, fun hlt => capb h9 hlt, rfl, fun h => (by cases h), fun g9 o9 h9 hle9 _ => ?_, fun v A5 hA => ?_⟩
            · cases h9
              exact hW3.room hN.sub hle9
            obtain ⟨w1, w2, w3⟩ := wait_append (A := A3) (base := some (w, o2)) (c := wc) hwr hR1 (.inr ⟨w, o2, rfl, hW3⟩) (sB.trans s3) hQ3 hg hN.sub hA
            obtain ⟨ao5, c5, hv5, _⟩ := w3.form
            subst hv5
            conv => lhs; whnf
            refine (hD _).2 ⟨(g, wl ++ [d], B'), ⟨rfl, w2⟩, fun v A9 hq => ?_⟩
            obtain ⟨hA9, hv9⟩ : A9 = A5 ∧ v = .int .i64 ((wl ++ [d] : List AskD).length : Nat) := hq
            have hA9 := hA9.symm
            subst hA9 hv9
            conv => lhs; whnf
            refine split_b (fun hb => absurd hb (by simp)) (fun _ => ?_)
            conv => lhs; whnf
            exact (hD _).2 ⟨⟨k + 1, wl ++ [d], _, B', _⟩, ⟨⟨by show k + 1 ≤ n; omega, w1, w2, w3⟩, ⟨rfl, inc_slot (k := k) (by omega), trivial⟩, trivial, rfl⟩, by show n - (k + 1) < n - k; omega, ⟨rfl, rfl, trivial⟩, trivial⟩
    · conv => lhs; whnf
      refine (hD _).2 ⟨(g, wl, B), ⟨rfl, hQ⟩, fun v A3 hq => ?_⟩
      obtain ⟨s3, hq⟩ : outPost B g wl _ Ak v A3 := hq
      rcases hq with ⟨cs0, rfl, rfl, hQ3, _⟩ | ⟨d0, wl', cs0, rfl, hd0, rfl, hQ3, hR0⟩
      · conv => lhs; whnf
        refine (hD _).2 ⟨(g, wl, B), ⟨rfl, hQ3⟩, fun v A9 hq => ?_⟩
        obtain ⟨hA9, hv9⟩ : A9 = A3 ∧ v = .int .i64 ((wl : List AskD).length : Nat) := hq
        have hA9 := hA9.symm
        subst hA9 hv9
        conv => lhs; whnf
        refine split_b (fun hb => absurd hb (by simp)) (fun _ => ?_)
        conv => lhs; whnf
        exact (hD _).2 ⟨⟨k + 1, wl, _, B, _⟩, ⟨⟨by show k + 1 ≤ n; omega, sB.trans s3, hQ3, hW.up s3 (fun _ _ _ h => h)⟩, ⟨rfl, inc_slot (k := k) (by omega), trivial⟩, trivial, rfl⟩, by show n - (k + 1) < n - k; omega, ⟨rfl, rfl, trivial⟩, trivial⟩
      · obtain ⟨y0, y1, y2, y3, y4, y5, z5, m5, y6, y7, y8, y9, y10, y11, y12, y13, z13, m13, y14, z14, m14, rfl⟩ := hR0.form
        have hW3 := hW.up s3 (B' := B) (fun _ _ _ h => h)
        obtain ⟨w, o2, c2, e, wr, wrest, w1, w2, w3⟩ := wait_head hW3
        cases e
        obtain ⟨a0, a1, a2, a3, a4, a5, l5, k5, a6, a7, a8, a9, a10, a11, a12, a13, l13, k13, a14, l14, k14, rfl⟩ := w1.form
        conv => lhs; whnf
        refine go_dec (by show (0 : Int) < ((d0 :: wl').length : Int); simp only [List.length_cons]; omega) ?_
        conv => lhs; whnf
        refine go_rd w2 ?_
        conv => lhs; whnf
        refine (hD _).2 ⟨(d0, d0), ⟨_, _, rfl, AskR.sub hQ3.sub _ _ hR0, AskR.sub (sB.trans s3) _ _ w1⟩, fun v A4 hq => ?_⟩
        obtain ⟨hA4, hv4⟩ : A4 = A3 ∧ v = .bool (decide (d0 = d0)) := hq
        have hA4 := hA4.symm
        subst hA4
        rw [decide_eq_true rfl] at hv4
        subst hv4
        conv => lhs; whnf
        refine go_b (by simp <;> omega) ?_
        conv => lhs; whnf
        refine (hD _).2 ⟨(g, wl', B), ⟨rfl, hQ3⟩, fun v A9 hq => ?_⟩
        obtain ⟨hA9, hv9⟩ : A9 = A3 ∧ v = .int .i64 ((wl' : List AskD).length : Nat) := hq
        have hA9 := hA9.symm
        subst hA9 hv9
        conv => lhs; whnf
        refine split_b (fun hb => absurd hb (by simp)) (fun _ => ?_)
        conv => lhs; whnf
        exact (hD _).2 ⟨⟨k + 1, wl', .slice (some ⟨w, o2 + (bif Nat.beq wc 1 then 0 else 1 * 15), none⟩) wl'.length (wc - 1), B, _⟩, ⟨⟨by show k + 1 ≤ n; omega, sB.trans s3, hQ3, w3 _ tail1 tail2 _ rfl⟩, ⟨rfl, inc_slot (k := k) (by omega), trivial⟩, trivial, rfl⟩, by show n - (k + 1) < n - k; omega, ⟨rfl, rfl, trivial⟩, trivial⟩
    · conv => lhs; whnf
      repeat (first | refine go_in ⟨by show (0 : Int) ≤ (k : Int); omega, hin⟩ ?_ | refine go_rd (rd_sub sA r2) ?_ | refine go_rd (rd_sub sA r3) ?_
              conv => lhs; whnf)
      refine (hD _).2 ⟨((g, wl, B), tn, xn), ⟨rfl, hQ⟩, fun v A3 hq => ?_⟩
      obtain ⟨s3, hq⟩ : outPost B g wl _ Ak v A3 := hq
      rcases hq with ⟨cs0, rfl, rfl, hQ3, _⟩ | ⟨d0, wl', cs0, rfl, hd0, rfl, hQ3, hR0⟩
      · conv => lhs; whnf
        refine (hD _).2 ⟨(g, wl, B), ⟨rfl, hQ3⟩, fun v A9 hq => ?_⟩
        obtain ⟨hA9, hv9⟩ : A9 = A3 ∧ v = .int .i64 ((wl : List AskD).length : Nat) := hq
        have hA9 := hA9.symm
        subst hA9 hv9
        conv => lhs; whnf
        refine split_b (fun hb => absurd hb (by simp)) (fun _ => ?_)
        conv => lhs; whnf
        exact (hD _).2 ⟨⟨k + 1, wl, _, B, _⟩, ⟨⟨by show k + 1 ≤ n; omega, sB.trans s3, hQ3, hW.up s3 (fun _ _ _ h => h)⟩, ⟨rfl, inc_slot (k := k) (by omega), trivial⟩, trivial, rfl⟩, by show n - (k + 1) < n - k; omega, ⟨rfl, rfl, trivial⟩, trivial⟩
      · obtain ⟨y0, y1, y2, y3, y4, y5, z5, m5, y6, y7, y8, y9, y10, y11, y12, y13, z13, m13, y14, z14, m14, rfl⟩ := hR0.form
        have hW3 := hW.up s3 (B' := B) (fun _ _ _ h => h)
        obtain ⟨w, o2, c2, e, wr, wrest, w1, w2, w3⟩ := wait_head hW3
        cases e
        obtain ⟨a0, a1, a2, a3, a4, a5, l5, k5, a6, a7, a8, a9, a10, a11, a12, a13, l13, k13, a14, l14, k14, rfl⟩ := w1.form
        obtain ⟨ht0, hx0⟩ := settle_nums hd0
        obtain ⟨hx1, ht1⟩ := hR0.nums
        have ht : y3 = tn := ht1.symm.trans ht0
        have hx : y1 = xn := hx1.symm.trans hx0
        conv => lhs; whnf
        repeat (first | refine go_in ⟨by show (0 : Int) ≤ (k : Int); omega, hin⟩ ?_ | refine go_rd (rd_sub (sB.trans s3) r2) ?_ | refine go_rd (rd_sub (sB.trans s3) r3) ?_
                conv => lhs; whnf)
        refine split_b (fun hb => absurd hb (by simp [ht])) (fun _ => ?_)
        conv => lhs; whnf
        repeat (first | refine go_in ⟨by show (0 : Int) ≤ (k : Int); omega, hin⟩ ?_ | refine go_rd (rd_sub (sB.trans s3) r2) ?_ | refine go_rd (rd_sub (sB.trans s3) r3) ?_
                conv => lhs; whnf)
        refine split_b (fun hb => absurd hb (by simp [hx])) (fun _ => ?_)
        conv => lhs; whnf
        refine go_dec (by show (0 : Int) < ((d0 :: wl').length : Int); simp only [List.length_cons]; omega) ?_
        conv => lhs; whnf
        refine go_rd w2 ?_
        conv => lhs; whnf
        refine (hD _).2 ⟨(d0, d0), ⟨_, _, rfl, AskR.sub hQ3.sub _ _ hR0, AskR.sub (sB.trans s3) _ _ w1⟩, fun v A4 hq => ?_⟩
        obtain ⟨hA4, hv4⟩ : A4 = A3 ∧ v = .bool (decide (d0 = d0)) := hq
        have hA4 := hA4.symm
        subst hA4
        rw [decide_eq_true rfl] at hv4
        subst hv4
        conv => lhs; whnf
        refine go_b (by simp <;> omega) ?_
        conv => lhs; whnf
        refine (hD _).2 ⟨(g, wl', B), ⟨rfl, hQ3⟩, fun v A9 hq => ?_⟩
        obtain ⟨hA9, hv9⟩ : A9 = A3 ∧ v = .int .i64 ((wl' : List AskD).length : Nat) := hq
        have hA9 := hA9.symm
        subst hA9 hv9
        conv => lhs; whnf
        refine split_b (fun hb => absurd hb (by simp)) (fun _ => ?_)
        conv => lhs; whnf
        exact (hD _).2 ⟨⟨k + 1, wl', .slice (some ⟨w, o2 + (bif Nat.beq wc 1 then 0 else 1 * 15), none⟩) wl'.length (wc - 1), B, _⟩, ⟨⟨by show k + 1 ≤ n; omega, sB.trans s3, hQ3, w3 _ tail1 tail2 _ rfl⟩, ⟨rfl, inc_slot (k := k) (by omega), trivial⟩, trivial, rfl⟩, by show n - (k + 1) < n - k; omega, ⟨rfl, rfl, trivial⟩, trivial⟩
    · conv => lhs; whnf
      repeat (refine no_dec (by omega) ?_; conv => lhs; whnf)
      refine (hD _).2 ⟨(g, wl, B), ⟨rfl, hQ⟩, fun v A9 hq => ?_⟩
      obtain ⟨hA9, hv9⟩ : A9 = Ak ∧ v = .int .i64 ((wl : List AskD).length : Nat) := hq
      have hA9 := hA9.symm
      subst hA9 hv9
      conv => lhs; whnf
      refine split_b (fun hb => absurd hb (by simp)) (fun _ => ?_)
      conv => lhs; whnf
      exact (hD _).2 ⟨⟨k + 1, wl, _, B, _⟩, ⟨⟨by show k + 1 ≤ n; omega, sA, hQ, hW⟩, ⟨rfl, inc_slot (k := k) (by omega), trivial⟩, trivial, rfl⟩, by show n - (k + 1) < n - k; omega, ⟨rfl, rfl, trivial⟩, trivial⟩
  · have hn : ∃ n : Nat, n = ds.length ∧ n ≤ ds.length ∧ n ≤ c := ⟨_, rfl, by omega, by omega⟩
    conv => lhs; whnf
    obtain ⟨n, hn, hle, hnc⟩ := hn
    refine (hD _).2 ⟨(), rfl, fun v A1 hq => ?_⟩
    obtain ⟨s1, g, rfl, hg, hQ⟩ : A'.Sub A1 ∧ ∃ g, v = .pointer (some ⟨g, 0, none⟩) ∧ A'.blk g = none ∧ QR Arena.void A1 g [] := hq
    conv => lhs; whnf
    refine (hD _).2 ⟨orderInv A' g n, ⟨⟨0, [], .slice none 0 0, Arena.void, A1⟩, ⟨Nat.zero_le _, s1, hQ, ⟨[], by simp [AsksR], .inl ⟨rfl, rfl⟩⟩⟩, ⟨rfl, rfl, trivial⟩, trivial, rfl⟩, fun s hG => ⟨⟨trivial, trivial, trivial⟩, trivial, ?_⟩⟩
    obtain ⟨k, wl, wv, B, Ak⟩ := s
    obtain ⟨hk, sA, hQ, hW⟩ : k ≤ n ∧ A'.Sub Ak ∧ QR B Ak g wl ∧ WaitR A' B Ak g wv wl := hG
    conv => lhs; whnf
    refine split_dec (fun hlt => ?_) (fun hlt => ?_)
    rotate_left
    · conv => lhs; whnf
      exact (hD _).2 ⟨sA, rfl⟩
    have hkn : k < n := by
      have hlt : (k : Int) < (n : Int) := by rw [hn]; exact hlt
      omega
    obtain ⟨g1, o1, e1, op, tn, xn, cs, d, hR1, r0, r1, r2, r3⟩ := hrow k (by omega)
    cases e1
    conv => lhs; whnf
    have hin : (k : Int) < (n : Int) := by omega
    rw [hn] at hin
    refine go_in ⟨by show (0 : Int) ≤ (k : Int); omega, hin⟩ ?_
    conv => lhs; whnf
    obtain ⟨p0, p1, p2, p3, p4, q5, u5, n5, p6, p7, p8, p9, p10, p11, p12, q13, u13, n13, q14, u14, n14, rfl⟩ := hR1.form
    refine go_rd (rd_sub sA r1) ?_
    conv => lhs; whnf
    refine (hD _).2 ⟨d, ⟨_, rfl, AskR.sub sA _ _ hR1⟩, fun v A2 hq => ?_⟩
    obtain ⟨hA2, b, hb⟩ : A2 = Ak ∧ ∃ b, v = .bool b := hq
    have hA2 := hA2.symm
    subst hA2 hb
    conv => lhs; whnf
    refine split_b (fun _ => ?_) (fun _ => ?_) <;> (conv => lhs; whnf)
    · exact (hD _).2 ⟨sA, rfl⟩
    refine go_in ⟨by show (0 : Int) ≤ (k : Int); omega, hin⟩ ?_
    conv => lhs; whnf
    refine go_rd (rd_sub sA r0) ?_
    conv => lhs; whnf
    refine (hD _).2 ⟨op, rfl, fun v A2 hq => ?_⟩
    obtain ⟨hA2, x, hx⟩ : A2 = Ak ∧ ∃ k, v = .int .i64 k := hq
    have hA2 := hA2.symm
    subst hA2 hx
    have sB := but_sub sA hg
    obtain ⟨wo, wc, hwv, hwc⟩ := hW.form
    subst hwv
    have h8 : wl.length ≤ 8 := hQ.le
    have put : x = 0 ∨ x = 1 ∨ x = 2 ∨ x = 3 ∨ (x ≠ 0 ∧ x ≠ 1 ∧ x ≠ 2 ∧ x ≠ 3) := by omega
    rcases put with rfl | rfl | rfl | rfl | ⟨hx0, hx1, hx2, hx3⟩
    iterate 2
      · conv => lhs; whnf
        refine go_in ⟨by show (0 : Int) ≤ (k : Int); omega, hin⟩ ?_
        conv => lhs; whnf
        refine go_rd (rd_sub sA r1) ?_
        conv => lhs; whnf
        refine (hD _).2 ⟨(g, wl, d, B), ⟨_, rfl, hQ, AskR.sub sB _ _ hR1⟩, fun v A3 hq => ?_⟩
        obtain ⟨s3, hq⟩ : (Arena.but Ak g).Sub A3 ∧ ((wl.length = 8 ∧ v = .int .i64 360 ∧ QR B A3 g wl) ∨ (wl.length < 8 ∧ v = .int .i64 0 ∧ ∃ B', QR B' A3 g (wl ++ [d]) ∧ B.Sub B' ∧ ∀ k o, Ak.blk k = some o → B.blk k = none → B'.blk k = none)) := hq
        rcases hq with ⟨h9, rfl, hQ3⟩ | ⟨h9, rfl, B', hQ3, _, hB'⟩
        · conv => lhs; whnf
          refine split_b (fun hb => absurd hb (by simp [h9])) (fun _ => ?_)
          conv => lhs; whnf
          refine (hD _).2 ⟨(g, wl, B), ⟨rfl, hQ3⟩, fun v A9 hq => ?_⟩
          obtain ⟨hA9, hv9⟩ : A9 = A3 ∧ v = .int .i64 (wl).length := hq
          have hA9 := hA9.symm
          subst hA9 hv9
          conv => lhs; whnf
          refine split_b (fun hb => absurd hb (by simp)) (fun _ => ?_)
          conv => lhs; whnf
          exact (hD _).2 ⟨⟨k + 1, wl, _, B, _⟩, ⟨⟨by show k + 1 ≤ n; omega, sB.trans s3, hQ3, hW.up s3 (fun _ _ _ h => h)⟩, ⟨rfl, inc_slot (k := k) (by omega), trivial⟩, trivial, rfl⟩, by show n - (k + 1) < n - k; omega, ⟨rfl, rfl, trivial⟩, trivial⟩
        · conv => lhs; whnf
          refine split_b (fun hb => absurd hb (by simp; omega)) (fun _ => ?_)
          conv => lhs; whnf
          refine go_in ⟨by show (0 : Int) ≤ (k : Int); omega, hin⟩ ?_
          conv => lhs; whnf
          refine go_rd (rd_sub (sB.trans s3) r1) ?_
          conv => lhs; whnf
          refine (hD _).2 fun g2 A4 hN => ?_
          have hrow2 := hN.rd (o := 0) (n := 15) (by show 0 + 15 ≤ 15; omega)
          obtain ⟨wrows, hwr, ⟨e, e0⟩ | ⟨w, o2, c2, e, hW3⟩⟩ := hW.up s3 hB'
          · cases e0
            cases e
            have hw0 : wrows = [] := by simpa [AsksR] using hwr
            subst hw0
            conv => lhs; whnf
            refine (hD _).2 ⟨[], _, rfl, hrow2, rfl, askR_one hR1, by omega, fun _ => capb (l := 0) (c := 0) (by omega) (by omega), rfl, fun _ => ⟨rfl, rfl⟩, fun _ _ h => (by cases h), fun v A5 hA => ?_⟩
            obtain ⟨w1, w2, w3⟩ := wait_append (A := A3) (wl := []) (base := none) (c := 0) hwr hR1 (.inl ⟨rfl, rfl, rfl⟩) (sB.trans s3) hQ3 hg hN.sub hA
            obtain ⟨ao5, c5, hv5, _⟩ := w3.form
            subst hv5
            conv => lhs; whnf
            refine (hD _).2 ⟨(g, [] ++ [d], B'), ⟨rfl, w2⟩, fun v A9 hq => ?_⟩
            obtain ⟨hA9, hv9⟩ : A9 = A5 ∧ v = .int .i64 (([] ++ [d] : List AskD).length : Nat) := hq
            have hA9 := hA9.symm
            subst hA9 hv9
            conv => lhs; whnf
            exact (hD _).2 ⟨⟨k + 1, [] ++ [d], _, B', _⟩, ⟨⟨by show k + 1 ≤ n; omega, w1, w2, w3⟩, ⟨rfl, inc_slot (k := k) (by omega), trivial⟩, trivial, rfl⟩, by show n - (k + 1) < n - k; omega, ⟨rfl, rfl, trivial⟩, trivial⟩
          · cases e
            conv => lhs; whnf
            refine (hD _).2 ⟨wrows.flatten, _, base_rd (rd_sub hN.sub hW3.rd), hrow2, rfl, askR_one hR1, by omega, fun hlt => capb h9 hlt, rfl, fun h => (by cases h), fun g9 o9 h9 hle9 _ => ?_, fun v A5 hA => ?_⟩
            · cases h9
              exact hW3.room hN.sub hle9
            obtain ⟨w1, w2, w3⟩ := wait_append (A := A3) (base := some (w, o2)) (c := wc) hwr hR1 (.inr ⟨w, o2, rfl, hW3⟩) (sB.trans s3) hQ3 hg hN.sub hA
            obtain ⟨ao5, c5, hv5, _⟩ := w3.form
            subst hv5
            conv => lhs; whnf
            refine (hD _).2 ⟨(g, wl ++ [d], B'), ⟨rfl, w2⟩, fun v A9 hq => ?_⟩
            obtain ⟨hA9, hv9⟩ : A9 = A5 ∧ v = .int .i64 ((wl ++ [d] : List AskD).length : Nat) := hq
            have hA9 := hA9.symm
            subst hA9 hv9
            conv => lhs; whnf
            refine split_b (fun hb => absurd hb (by simp)) (fun _ => ?_)
            conv => lhs; whnf
            exact (hD _).2 ⟨⟨k + 1, wl ++ [d], _, B', _⟩, ⟨⟨by show k + 1 ≤ n; omega, w1, w2, w3⟩, ⟨rfl, inc_slot (k := k) (by omega), trivial⟩, trivial, rfl⟩, by show n - (k + 1) < n - k; omega, ⟨rfl, rfl, trivial⟩, trivial⟩
    · conv => lhs; whnf
      refine (hD _).2 ⟨(g, wl, B), ⟨rfl, hQ⟩, fun v A3 hq => ?_⟩
      obtain ⟨s3, hq⟩ : outPost B g wl _ Ak v A3 := hq
      rcases hq with ⟨cs0, rfl, rfl, hQ3, _⟩ | ⟨d0, wl', cs0, rfl, hd0, rfl, hQ3, hR0⟩
      · conv => lhs; whnf
        refine (hD _).2 ⟨(g, wl, B), ⟨rfl, hQ3⟩, fun v A9 hq => ?_⟩
        obtain ⟨hA9, hv9⟩ : A9 = A3 ∧ v = .int .i64 ((wl : List AskD).length : Nat) := hq
        have hA9 := hA9.symm
        subst hA9 hv9
        conv => lhs; whnf
        refine split_b (fun hb => absurd hb (by simp)) (fun _ => ?_)
        conv => lhs; whnf
        exact (hD _).2 ⟨⟨k + 1, wl, _, B, _⟩, ⟨⟨by show k + 1 ≤ n; omega, sB.trans s3, hQ3, hW.up s3 (fun _ _ _ h => h)⟩, ⟨rfl, inc_slot (k := k) (by omega), trivial⟩, trivial, rfl⟩, by show n - (k + 1) < n - k; omega, ⟨rfl, rfl, trivial⟩, trivial⟩
      · obtain ⟨y0, y1, y2, y3, y4, y5, z5, m5, y6, y7, y8, y9, y10, y11, y12, y13, z13, m13, y14, z14, m14, rfl⟩ := hR0.form
        have hW3 := hW.up s3 (B' := B) (fun _ _ _ h => h)
        obtain ⟨w, o2, c2, e, wr, wrest, w1, w2, w3⟩ := wait_head hW3
        cases e
        obtain ⟨a0, a1, a2, a3, a4, a5, l5, k5, a6, a7, a8, a9, a10, a11, a12, a13, l13, k13, a14, l14, k14, rfl⟩ := w1.form
        conv => lhs; whnf
        refine go_dec (by show (0 : Int) < ((d0 :: wl').length : Int); simp only [List.length_cons]; omega) ?_
        conv => lhs; whnf
        refine go_rd w2 ?_
        conv => lhs; whnf
        refine (hD _).2 ⟨(d0, d0), ⟨_, _, rfl, AskR.sub hQ3.sub _ _ hR0, AskR.sub (sB.trans s3) _ _ w1⟩, fun v A4 hq => ?_⟩
        obtain ⟨hA4, hv4⟩ : A4 = A3 ∧ v = .bool (decide (d0 = d0)) := hq
        have hA4 := hA4.symm
        subst hA4
        rw [decide_eq_true rfl] at hv4
        subst hv4
        conv => lhs; whnf
        refine go_b (by simp <;> omega) ?_
        conv => lhs; whnf
        refine (hD _).2 ⟨(g, wl', B), ⟨rfl, hQ3⟩, fun v A9 hq => ?_⟩
        obtain ⟨hA9, hv9⟩ : A9 = A3 ∧ v = .int .i64 ((wl' : List AskD).length : Nat) := hq
        have hA9 := hA9.symm
        subst hA9 hv9
        conv => lhs; whnf
        refine split_b (fun hb => absurd hb (by simp)) (fun _ => ?_)
        conv => lhs; whnf
        exact (hD _).2 ⟨⟨k + 1, wl', .slice (some ⟨w, o2 + (bif Nat.beq wc 1 then 0 else 1 * 15), none⟩) wl'.length (wc - 1), B, _⟩, ⟨⟨by show k + 1 ≤ n; omega, sB.trans s3, hQ3, w3 _ tail1 tail2 _ rfl⟩, ⟨rfl, inc_slot (k := k) (by omega), trivial⟩, trivial, rfl⟩, by show n - (k + 1) < n - k; omega, ⟨rfl, rfl, trivial⟩, trivial⟩
    · conv => lhs; whnf
      repeat (first | refine go_in ⟨by show (0 : Int) ≤ (k : Int); omega, hin⟩ ?_ | refine go_rd (rd_sub sA r2) ?_ | refine go_rd (rd_sub sA r3) ?_
              conv => lhs; whnf)
      refine (hD _).2 ⟨((g, wl, B), tn, xn), ⟨rfl, hQ⟩, fun v A3 hq => ?_⟩
      obtain ⟨s3, hq⟩ : outPost B g wl _ Ak v A3 := hq
      rcases hq with ⟨cs0, rfl, rfl, hQ3, _⟩ | ⟨d0, wl', cs0, rfl, hd0, rfl, hQ3, hR0⟩
      · conv => lhs; whnf
        refine (hD _).2 ⟨(g, wl, B), ⟨rfl, hQ3⟩, fun v A9 hq => ?_⟩
        obtain ⟨hA9, hv9⟩ : A9 = A3 ∧ v = .int .i64 ((wl : List AskD).length : Nat) := hq
        have hA9 := hA9.symm
        subst hA9 hv9
        conv => lhs; whnf
        refine split_b (fun hb => absurd hb (by simp)) (fun _ => ?_)
        conv => lhs; whnf
        exact (hD _).2 ⟨⟨k + 1, wl, _, B, _⟩, ⟨⟨by show k + 1 ≤ n; omega, sB.trans s3, hQ3, hW.up s3 (fun _ _ _ h => h)⟩, ⟨rfl, inc_slot (k := k) (by omega), trivial⟩, trivial, rfl⟩, by show n - (k + 1) < n - k; omega, ⟨rfl, rfl, trivial⟩, trivial⟩
      · obtain ⟨y0, y1, y2, y3, y4, y5, z5, m5, y6, y7, y8, y9, y10, y11, y12, y13, z13, m13, y14, z14, m14, rfl⟩ := hR0.form
        have hW3 := hW.up s3 (B' := B) (fun _ _ _ h => h)
        obtain ⟨w, o2, c2, e, wr, wrest, w1, w2, w3⟩ := wait_head hW3
        cases e
        obtain ⟨a0, a1, a2, a3, a4, a5, l5, k5, a6, a7, a8, a9, a10, a11, a12, a13, l13, k13, a14, l14, k14, rfl⟩ := w1.form
        obtain ⟨ht0, hx0⟩ := settle_nums hd0
        obtain ⟨hx1, ht1⟩ := hR0.nums
        have ht : y3 = tn := ht1.symm.trans ht0
        have hx : y1 = xn := hx1.symm.trans hx0
        conv => lhs; whnf
        repeat (first | refine go_in ⟨by show (0 : Int) ≤ (k : Int); omega, hin⟩ ?_ | refine go_rd (rd_sub (sB.trans s3) r2) ?_ | refine go_rd (rd_sub (sB.trans s3) r3) ?_
                conv => lhs; whnf)
        refine split_b (fun hb => absurd hb (by simp [ht])) (fun _ => ?_)
        conv => lhs; whnf
        repeat (first | refine go_in ⟨by show (0 : Int) ≤ (k : Int); omega, hin⟩ ?_ | refine go_rd (rd_sub (sB.trans s3) r2) ?_ | refine go_rd (rd_sub (sB.trans s3) r3) ?_
                conv => lhs; whnf)
        refine split_b (fun hb => absurd hb (by simp [hx])) (fun _ => ?_)
        conv => lhs; whnf
        refine go_dec (by show (0 : Int) < ((d0 :: wl').length : Int); simp only [List.length_cons]; omega) ?_
        conv => lhs; whnf
        refine go_rd w2 ?_
        conv => lhs; whnf
        refine (hD _).2 ⟨(d0, d0), ⟨_, _, rfl, AskR.sub hQ3.sub _ _ hR0, AskR.sub (sB.trans s3) _ _ w1⟩, fun v A4 hq => ?_⟩
        obtain ⟨hA4, hv4⟩ : A4 = A3 ∧ v = .bool (decide (d0 = d0)) := hq
        have hA4 := hA4.symm
        subst hA4
        rw [decide_eq_true rfl] at hv4
        subst hv4
        conv => lhs; whnf
        refine go_b (by simp <;> omega) ?_
        conv => lhs; whnf
        refine (hD _).2 ⟨(g, wl', B), ⟨rfl, hQ3⟩, fun v A9 hq => ?_⟩
        obtain ⟨hA9, hv9⟩ : A9 = A3 ∧ v = .int .i64 ((wl' : List AskD).length : Nat) := hq
        have hA9 := hA9.symm
        subst hA9 hv9
        conv => lhs; whnf
        refine split_b (fun hb => absurd hb (by simp)) (fun _ => ?_)
        conv => lhs; whnf
        exact (hD _).2 ⟨⟨k + 1, wl', .slice (some ⟨w, o2 + (bif Nat.beq wc 1 then 0 else 1 * 15), none⟩) wl'.length (wc - 1), B, _⟩, ⟨⟨by show k + 1 ≤ n; omega, sB.trans s3, hQ3, w3 _ tail1 tail2 _ rfl⟩, ⟨rfl, inc_slot (k := k) (by omega), trivial⟩, trivial, rfl⟩, by show n - (k + 1) < n - k; omega, ⟨rfl, rfl, trivial⟩, trivial⟩
    · conv => lhs; whnf
      repeat (refine no_dec (by omega) ?_; conv => lhs; whnf)
      refine (hD _).2 ⟨(g, wl, B), ⟨rfl, hQ⟩, fun v A9 hq => ?_⟩
      obtain ⟨hA9, hv9⟩ : A9 = Ak ∧ v = .int .i64 ((wl : List AskD).length : Nat) := hq
      have hA9 := hA9.symm
      subst hA9 hv9
      conv => lhs; whnf
      refine split_b (fun hb => absurd hb (by simp)) (fun _ => ?_)
      conv => lhs; whnf
      exact (hD _).2 ⟨⟨k + 1, wl, _, B, _⟩, ⟨⟨by show k + 1 ≤ n; omega, sA, hQ, hW⟩, ⟨rfl, inc_slot (k := k) (by omega), trivial⟩, trivial, rfl⟩, by show n - (k + 1) < n - k; omega, ⟨rfl, rfl, trivial⟩, trivial⟩

end
end Go.Proofs.Ytompigcfojbpkaa
