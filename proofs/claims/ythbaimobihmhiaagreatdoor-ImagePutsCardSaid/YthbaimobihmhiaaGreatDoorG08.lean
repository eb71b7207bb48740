/-
  Contracts: the document's: is a stat right; may rows be a tree's nodes?
  Members as plain data.
  Contracts: may a config be?
  Plain: numbers, seven bits a byte.
  Plain: a config's bytes.
  Plain: what an image is, and its bytes.
  Contracts: path.Check.
-/
import Derived.Test.YthbaimobihmhiaaGreatDoorG07
import Derived.Test.YthbaimobihmhiaaGreatDoorG06
namespace Go.Proofs.YthbaimobihmhiaaGreatDoor
open Go.Sx Go.RowKit
noncomputable section
open Classical

def rstatS : FSpec := ⟨StatD, fun s vs _ => vs = [.agg s.cells.toArray], fun s _ A v A' => A' = A ∧ v = .bool (decide (StatOk s))⟩

set_option maxRecDepth 100000 in
set_option maxHeartbeats 0 in
theorem rstat_ok : FOk Tryz.prog 68 rstatS := by
  refine fok_v mixed fun (s : StatD) vs A hp => ?_
  obtain ⟨s1, s2, s3, s4, s5, s6, s7, s8, s9, s10⟩ := s
  obtain rfl : vs = [.agg #[.int .i64 s1, .int .i64 s2, .int .i64 s3, .int .i64 s4, .int .i64 s5, .int .i64 s6, .int .i64 s7, .int .i64 s8, .int .i64 s9, .int .i64 s10]] := hp
  refine ⟨noC, noL, 60, noC_sound _, noL_sound _, fun blk os out tape D hD => ?_⟩
  have hbad : ¬ StatOk ⟨s1, s2, s3, s4, s5, s6, s7, s8, s9, s10⟩ → rstatS.post (⟨s1, s2, s3, s4, s5, s6, s7, s8, s9, s10⟩ : StatD) [] A (.bool false) A := fun h => by
    refine ⟨rfl, ?_⟩
    show Value.bool false = .bool (decide _)
    rw [decide_eq_false h]
  conv => lhs; whnf
  refine split_dec (fun h1 => ?_) (fun h1 => ?_)
  rotate_left
  · have hend := hbad fun h => h1 (by unfold StatOk at h; dsimp only at h; omega)
    conv => lhs; whnf
    exact (hD _).2 hend
  conv => lhs; whnf
  refine split_dec (fun h2 => ?_) (fun h2 => ?_)
  rotate_left
  · have hend := hbad fun h => h2 (by unfold StatOk at h; dsimp only at h; omega)
    conv => lhs; whnf
    exact (hD _).2 hend
  conv => lhs; whnf
  refine split_dec (fun h3 => ?_) (fun h3 => ?_)
  rotate_left
  · have hend := hbad fun h => h3 (by unfold StatOk at h; dsimp only at h; omega)
    conv => lhs; whnf
    exact (hD _).2 hend
  conv => lhs; whnf
  refine split_dec (fun h4 => ?_) (fun h4 => ?_)
  rotate_left
  · have hend := hbad fun h => h4 (by unfold StatOk at h; dsimp only at h; omega)
    conv => lhs; whnf
    exact (hD _).2 hend
  conv => lhs; whnf
  refine split_dec (fun h5 => ?_) (fun h5 => ?_)
  rotate_left
  · have hend := hbad fun h => h5 (by unfold StatOk at h; dsimp only at h; omega)
    conv => lhs; whnf
    exact (hD _).2 hend
  conv => lhs; whnf
  refine split_dec (fun h6 => ?_) (fun h6 => ?_)
  rotate_left
  · have hend := hbad fun h => h6 (by unfold StatOk at h; dsimp only at h; omega)
    conv => lhs; whnf
    exact (hD _).2 hend
  conv => lhs; whnf
  refine split_dec (fun h7 => ?_) (fun h7 => ?_)
  rotate_left
  · have hend := hbad fun h => h7 (by unfold StatOk at h; dsimp only at h; omega)
    conv => lhs; whnf
    exact (hD _).2 hend
  conv => lhs; whnf
  refine split_dec (fun h8 => ?_) (fun h8 => ?_)
  rotate_left
  · have hend := hbad fun h => h8 (by unfold StatOk at h; dsimp only at h; omega)
    conv => lhs; whnf
    exact (hD _).2 hend
  conv => lhs; whnf
  refine split_dec (fun h9 => ?_) (fun h9 => ?_)
  rotate_left
  · have hend := hbad fun h => h9 (by unfold StatOk at h; dsimp only at h; omega)
    conv => lhs; whnf
    exact (hD _).2 hend
  conv => lhs; whnf
  have hd : decide (0 ≤ s10) = decide (StatOk ⟨s1, s2, s3, s4, s5, s6, s7, s8, s9, s10⟩) := decide_eq_decide.2 ⟨fun h10 => ⟨h1, h2, h3, h4, h5, h6, h7, h8, h9, h10⟩, fun h => h.2.2.2.2.2.2.2.2.2⟩
  exact (hD _).2 ⟨rfl, congrArg Value.bool hd⟩

def ShortL (l : List (ToldD × Value)) : Prop := ∀ x ∈ l, x.1.path.data.toList.length ≤ 140737488351232

def rrowsInv (A0 : Arena) (l : List (ToldD × Value)) : LInv :=
  { γ := Nat × Arena, G := fun g => g.1 ≤ l.length ∧ A0.Sub g.2 ∧ ∀ i (h : i < l.length), i < g.1 → NodeFits l[i].1 ∧ (0 < i → ltL (pathL l[i - 1].1.path) (pathL l[i].1.path) = true),
    keepS := [0], keepB := [], sl := fun g => [(3, .v (.int .i64 g.1))], bl := fun _ => [], ar := fun g => g.2, mu := fun g => l.length - g.1 }

def rrowsS : FSpec := ⟨List (ToldD × Value), fun l vs A => ∃ x, vs = [x] ∧ NodesR A x l ∧ l.length ≤ 1000000 ∧ ShortL l,
  fun l _ A v A' => A.Sub A' ∧ v = .bool (decide (LoadC (l.map (·.1))))⟩

set_option maxRecDepth 100000 in
set_option maxHeartbeats 0 in
theorem rrows_ok : FOk Tryz.prog 40 rrowsS := by
  refine fok_v mixed fun (l : List (ToldD × Value)) vs A hp => ?_
  obtain ⟨x, rfl, ⟨⟨ao, c, rfl, hc, _, ha1, ha2, ha3⟩, hda⟩, hl1, hsh⟩ : ∃ x, vs = [x] ∧ NodesR A x l ∧ l.length ≤ 1000000 ∧ ShortL l := hp
  have hC : CTSound Tryz.prog (lookC [specE 67 refCheckS, specE 68 rstatS] noC) := lookC_sound (noC_sound _) (fun x hx => by
    simp only [List.mem_cons, List.not_mem_nil, or_false] at hx
    rcases hx with rfl | rfl
    · exact specE_ok refCheck_ok
    · exact specE_ok rstat_ok)
  refine ⟨_, tabO Tryz.prog _ noL 60 [(40, 0)], 60, hC, tabO_sound mixed hC (noL_sound _) _ _, fun blk os out tape D hD => ?_⟩
  have hbad : ∀ As, A.Sub As → ¬ LoadC (l.map (·.1)) → rrowsS.post l [.slice ao l.length c] A (.bool false) As := fun As hs hn => by
    refine ⟨hs, ?_⟩
    show Value.bool false = .bool (decide _)
    rw [decide_eq_false hn]
  conv => lhs; whnf
  refine (hD _).2 ⟨rrowsInv A l, ⟨((0, A) : Nat × Arena), ⟨Nat.zero_le _, Arena.Sub.refl _, fun i _ h0 => absurd h0 (Nat.not_lt_zero _)⟩, ⟨rfl, trivial⟩, trivial, rfl⟩, fun (sg : Nat × Arena) hG => ⟨⟨trivial, trivial⟩, trivial, ?_⟩⟩
  obtain ⟨k, As⟩ := sg
  obtain ⟨hk, hAs, hfit⟩ : k ≤ l.length ∧ A.Sub As ∧ ∀ i (h : i < l.length), i < k → NodeFits l[i].1 ∧ (0 < i → ltL (pathL l[i - 1].1.path) (pathL l[i].1.path) = true) := hG
  conv => lhs; whnf
  refine split_dec (fun hlt => ?_) (fun hlt => ?_)
  · have hkl : k < l.length := by
      have hlt : (k : Int) < (l.length : Int) := hlt
      omega
    obtain ⟨g, o, rfl, hra⟩ := Sl.at_ hc ha1 ha2 ha3 (by omega)
    have r1 := row_at (enc := nodeC) (fun _ => rfl) hra k hkl rfl
    have i0 : (0 : Int) ≤ (k : Int) ∧ (k : Int) < (l.length : Int) := by omega
    have hpl := hsh l[k] (List.getElem_mem hkl)
    obtain ⟨⟨⟨p, d, ⟨s1, s2, s3, s4, s5, s6, s7, s8, s9', s10⟩⟩, vd⟩, hx⟩ : ∃ y, y = l[k] := ⟨_, rfl⟩
    have hd : SlB A vd d := hda ((⟨p, d, ⟨s1, s2, s3, s4, s5, s6, s7, s8, s9', s10⟩⟩ : ToldD), vd) (by rw [hx]; exact List.getElem_mem _)
    obtain ⟨ad, cd, rfl⟩ := hd.1.form
    rw [← hx] at r1 hpl
    dsimp only at hpl
    have r1 : As.rd g (o + k * 12) 12 = some [.string p, .slice ad d.length cd, .int .i64 s1, .int .i64 s2, .int .i64 s3, .int .i64 s4, .int .i64 s5, .int .i64 s6, .int .i64 s7, .int .i64 s8, .int .i64 s9', .int .i64 s10] := rd_sub hAs r1
    have rp : ∀ A9, As.Sub A9 → A9.rd g (o + k * 12) 1 = some [.string p] := fun A9 h9 => rd_sub h9 (rd_at r1 (i := 0) (m := 1) (by omega))
    have rd1 : ∀ A9, As.Sub A9 → A9.rd g (o + k * 12 + 1) 1 = some [.slice ad d.length cd] := fun A9 h9 => rd_sub h9 (rd_at r1 (i := 1) (m := 1) (by omega))
    have rs : ∀ A9, As.Sub A9 → A9.rd g (o + k * 12 + 2) 10 = some [.int .i64 s1, .int .i64 s2, .int .i64 s3, .int .i64 s4, .int .i64 s5, .int .i64 s6, .int .i64 s7, .int .i64 s8, .int .i64 s9', .int .i64 s10] := fun A9 h9 => rd_sub h9 (rd_at r1 (i := 2) (m := 10) (by omega))
    have hk1 : k - 1 < l.length := by omega
    have hw : 0 < k → IntKind.i64.wrap ((k : Int) - 1) = ((k - 1 : Nat) : Int) := fun hk0 => by
      rw [Sx.wrap_i64 (by omega) (by omega)]; omega
    have hin0 : 0 < k → 0 ≤ IntKind.i64.wrap ((k : Int) - 1) ∧ IntKind.i64.wrap ((k : Int) - 1) < (l.length : Int) := fun hk0 => by rw [hw hk0]; omega
    have r0 := row_at (enc := nodeC) (fun _ => rfl) hra (k - 1) hk1 rfl
    have r0p : 0 < k → ∀ A9, As.Sub A9 → A9.rd g (o + (IntKind.i64.wrap ((k : Int) - 1)).toNat * 12) 1 = some [.string l[k - 1].1.path] := fun hk0 A9 h9 => by
      have := rd_at (rd_sub (hAs.trans h9) r0) (i := 0) (m := 1) (by omega)
      rw [hw hk0, Int.toNat_natCast]
      exact this
    have rp0 := rp As (Arena.Sub.refl _)
    conv => lhs; whnf
    repeat (first | refine go_in i0 ?_ | refine go_rd rp0 ?_
            conv => lhs; whnf)
    have hbadk := fun A9 h9 hn => hbad A9 (hAs.trans h9) (loadC_fail hkl hn)
    rw [← hx] at hbadk
    dsimp only at hbadk
    refine (hD _).2 ⟨p, ⟨rfl, hpl⟩, fun v A1 hq => ?_⟩
    have hq : As.Sub A1 ∧ v = .bool (pathOk p.data.toList) := hq
    obtain ⟨s9, hv⟩ := hq
    have rp1 := rp A1 s9
    have rd11 := rd1 A1 s9
    have rs1 := rs A1 s9
    by_cases hpk : pathOk p.data.toList = true
    rotate_left
    · have hv : v = .bool false := by rw [hv]; simpa using hpk
      subst hv
      have hend := hbadk A1 s9 fun hh => hpk hh.1.1
      conv => lhs; whnf
      exact (hD _).2 hend
    have hv : v = .bool true := by rw [hv, hpk]
    subst hv
    have hstep : (0 < k → ltL (pathL l[k - 1].1.path) (pathL p) = true) → d.length ≤ 1000 → StatOk ⟨s1, s2, s3, s4, s5, s6, s7, s8, s9', s10⟩ → (rrowsInv A l).G ((k + 1, A1) : Nat × Arena) := fun h1 h2 h3 => ⟨by show k + 1 ≤ l.length; omega, hAs.trans s9, fun i h hi => by
      have hi : i < k + 1 := hi
      by_cases e : i = k
      · subst e
        rw [← hx]
        exact ⟨⟨hpk, h2, h3⟩, h1⟩
      · exact hfit i h (by omega)⟩
    conv => lhs; whnf
    refine split_dec (fun h0 => ?_) (fun h0 => ?_)
    have hk0 : 0 < k := by
      have h0 : (0 : Int) < (k : Int) := h0
      omega
    have r0q := r0p hk0 A1 s9
    have hi0 := hin0 hk0
    conv => lhs; whnf
    repeat (first | refine go_in i0 ?_ | refine go_in hi0 ?_ | refine go_rd rp1 ?_ | refine go_rd r0q ?_
            conv => lhs; whnf)
    refine split_b (fun hb => ?_) (fun hb => ?_)
    · have hend := hbadk A1 s9 fun hh => absurd (hb.symm.trans (ltL_no (hh.2 hk0))) (by simp)
      conv => lhs; whnf
      exact (hD _).2 hend
    have hlt0 : 0 < k → ltL (pathL l[k - 1].1.path) (pathL p) = true := fun _ => ltL_yes hb
    rotate_left
    have hlt0 : 0 < k → ltL (pathL l[k - 1].1.path) (pathL p) = true := fun hk0 => absurd (show (0 : Int) < (k : Int) by omega) h0
    rotate_left
    all_goals
      conv => lhs; whnf
      repeat (first | refine go_in i0 ?_ | refine go_rd rd11 ?_
              conv => lhs; whnf)
      refine split_dec (fun h1000 => ?_) (fun h1000 => ?_)
      · have hend := hbadk A1 s9 fun hh => by have := hh.1.2.1; dsimp only at this; omega
        conv => lhs; whnf
        exact (hD _).2 hend
      conv => lhs; whnf
      repeat (first | refine go_in i0 ?_ | refine go_rd rs1 ?_
              conv => lhs; whnf)
      refine (hD _).2 ⟨(⟨s1, s2, s3, s4, s5, s6, s7, s8, s9', s10⟩ : StatD), rfl, fun v A9 hq => ?_⟩
      have hq : A9 = A1 ∧ v = .bool (decide (StatOk ⟨s1, s2, s3, s4, s5, s6, s7, s8, s9', s10⟩)) := hq
      have h9 := hq.1.symm
      have hv := hq.2
      subst h9
      by_cases hst : StatOk ⟨s1, s2, s3, s4, s5, s6, s7, s8, s9', s10⟩
      rotate_left
      · have hv : v = .bool false := by rw [hv, decide_eq_false hst]
        subst hv
        have hend := hbadk A1 s9 fun hh => hst hh.1.2.2
        conv => lhs; whnf
        exact (hD _).2 hend
      have hv : v = .bool true := by rw [hv, decide_eq_true hst]
      subst hv
      have hG := hstep hlt0 (by omega) hst
      conv => lhs; whnf
      exact (hD _).2 ⟨((k + 1, A1) : Nat × Arena), ⟨hG, ⟨inc_slot (k := k) (by omega), trivial⟩, trivial, rfl⟩, by show l.length - (k + 1) < l.length - k; omega, ⟨same1 rfl rfl, trivial⟩, trivial⟩
  · have e : k = l.length := by
      have hlt : ¬ (k : Int) < (l.length : Int) := hlt
      omega
    conv => lhs; whnf
    refine split_dec (fun hpos => ?_) (fun hpos => ?_)
    · have hpos : 0 < l.length := by
        have hpos : (0 : Int) < (l.length : Int) := hpos
        omega
      obtain ⟨g, o, rfl, hra⟩ := Sl.at_ hc ha1 ha2 ha3 hpos
      have r1 := row_at (enc := nodeC) (fun _ => rfl) hra 0 hpos rfl
      have r1 := rd_sub hAs (rd_at r1 (i := 0) (m := 1) (by omega))
      have r1 : As.rd g (o + 0 * 12) 1 = some [.string l[0].1.path] := r1
      have i0 : (0 : Int) ≤ (0 : Int) ∧ (0 : Int) < (l.length : Int) := by omega
      have hres : beqL l[0].1.path.data.toList [47] = decide (LoadC (l.map (·.1))) := by
        have hhead : (l.map (·.1)).head? = some l[0].1 := by
          rw [List.head?_map, List.head?_eq_getElem?, List.getElem?_eq_getElem hpos]; rfl
        cases hb : beqL l[0].1.path.data.toList [47] with
        | true =>
          refine (decide_eq_true (loadC_all (fun i h => hfit i h (by omega)) ⟨l[0].1, hhead, ?_⟩)).symm
          exact bytes_ext (beqL_iff.1 hb)
        | false =>
          refine (decide_eq_false fun h => ?_).symm
          obtain ⟨x, hx, hxp⟩ := h.2
          rw [hhead] at hx
          injection hx with hx
          refine beqL_ff.1 hb ?_
          rw [hx, hxp]; rfl
      have hend : rrowsS.post l [] A (.bool (beqL l[0].1.path.data.toList [47])) As := ⟨hAs, by rw [hres]⟩
      conv => lhs; whnf
      repeat (first | refine go_in i0 ?_ | refine go_rd r1 ?_
              conv => lhs; whnf)
      exact (hD _).2 hend
    · have hend := hbad As hAs fun h => by
        obtain ⟨x, hx, _⟩ := h.2
        have h0 : l = [] := List.length_eq_zero_iff.1 (by
          have hpos : ¬ (0 : Int) < (l.length : Int) := hpos
          omega)
        rw [h0] at hx; cases hx
      conv => lhs; whnf
      exact (hD _).2 hend

end
end Go.Proofs.YthbaimobihmhiaaGreatDoor

namespace Go.Sx
noncomputable section

structure MemD where
  id : Int
  role : Int
  weight : Int
  group : Int

def MemD.cells (m : MemD) : List Value := [.int .i64 m.id, .int .u8 m.role, .int .i64 m.weight, .int .i64 m.group]

def memCells (l : List MemD) : List Value := (l.map MemD.cells).flatten

theorem memCells_rows (l : List MemD) : ∀ r ∈ l.map MemD.cells, r.length = 4 := fun r hr => by
  obtain ⟨m, _, rfl⟩ := List.mem_map.1 hr; rfl

/-- Members. -/
def MemR (B : Arena) (v : Value) (l : List MemD) : Prop := Sl B 4 l.length v (memCells l) ∧ l.length * 32 ≤ 140737488351232

theorem MemR.sub {A B : Arena} (h : B.Sub A) {v : Value} {l : List MemD} (hs : MemR B v l) : MemR A v l := ⟨hs.1.sub h, hs.2⟩

end
end Go.Sx

namespace Go.Proofs.YthbaimobihmhiaaGreatDoor
open Go.Sx Go.RowKit
noncomputable section
open Classical

def memberOk (last : Int) (m : MemD) : Bool :=
  if m.id ≤ last ∨ 7 < m.id then false
  else if m.role = 2 then decide (m.weight = 0 ∧ m.group = 0)
  else decide (m.role = 1 ∧ 0 ≤ m.weight ∧ m.weight ≤ 1000 ∧ 0 ≤ m.group ∧ m.group < 7)

theorem memberOk_iff (last : Int) (m : MemD) : memberOk last m = true ↔ last < m.id ∧ m.id ≤ 7 ∧ ((m.role = 2 ∧ m.weight = 0 ∧ m.group = 0) ∨ (m.role = 1 ∧ 0 ≤ m.weight ∧ m.weight ≤ 1000 ∧ 0 ≤ m.group ∧ m.group < 7)) := by
  unfold memberOk
  split
  · simp; omega
  · split
    · simp; omega
    · simp; omega

def ensGo (last w : Int) : List MemD → Option (Int × Int)
  | [] => some (last, w)
  | m :: ms => if memberOk last m = true then ensGo m.id (w + m.weight) ms else none

/-- The error's number of a config. -/
def ensD (ver : Int) (ms : List MemD) : Int :=
  if 7 < ms.length then 3 else match ensGo 0 0 ms with
    | none => 140
    | some (_, w) => if w = 0 ∨ ver < 0 ∨ 4611686018427387904 < ver then 140 else 0

theorem mem_at {A : Arena} {g o n : Nat} {l : List MemD} (h : A.rd g o (n * 4) = some (memCells l)) (k : Nat) (hk : k < l.length) (hn : n = l.length) : A.rd g (o + k * 4) 4 = some [.int .i64 l[k].id, .int .u8 l[k].role, .int .i64 l[k].weight, .int .i64 l[k].group] := by
  have := rows_at (rows := l.map MemD.cells) h (memCells_rows l) k (by simpa using hk) (by simpa using hn)
  simpa [MemD.cells] using this

def ensS : FSpec := ⟨Int × List MemD, fun g vs A => ∃ vm, vs = [.agg #[.int .i64 g.1, vm]] ∧ MemR A vm g.2, fun g _ A v A' => A' = A ∧ v = .int .i64 (ensD g.1 g.2)⟩

def ensInv (A : Arena) (ms : List MemD) : LInv := { γ := Nat × Int × Int, G := fun s => s.1 ≤ ms.length ∧ ensGo s.2.1 s.2.2 (ms.drop s.1) = ensGo 0 0 ms ∧ 0 ≤ s.2.2 ∧ s.2.2 ≤ 1000 * s.1, keepS := [1, 3, 5, 14, 15], keepB := [0], sl := fun s => [(4, .v (.int .i64 s.2.2)), (16, .v (.int .i64 s.1))], bl := fun s => [(1, .cells [.v (.int .i64 s.2.1)] 0 (3 + 1))], ar := fun _ => A, mu := fun s => ms.length - s.1 }

set_option maxRecDepth 100000 in
set_option maxHeartbeats 0 in
theorem ens_ok : FOk Tryz.prog 58 ensS := by
  refine fok_v mixed fun ⟨ver, ms⟩ vs A hp => ?_
  simp only [ensS] at hp
  obtain ⟨vm, rfl, ⟨ao, c, rfl, hc, hl, ha1, ha2, ha3⟩, hxl⟩ := hp
  refine ⟨noC, tabO Tryz.prog noC noL 60 [(58, 0)], 60, noC_sound _, tabO_sound mixed (noC_sound _) (noL_sound _) _ _, fun blk os out tape D hD => ?_⟩
  conv => lhs; whnf
  refine split_dec (fun h7 => ?_) (fun h7 => ?_) <;> (conv => lhs; whnf)
  · refine (hD _).2 ⟨rfl, ?_⟩
    have h7 : (7 : Int) < ms.length := h7
    rw [ensD, if_pos (show 7 < ms.length by omega)]
  have h7 : ¬ (7 : Int) < ms.length := h7
  refine (hD _).2 ⟨ensInv A ms, ⟨(0, 0, 0), ⟨Nat.zero_le _, rfl, by simp, by simp⟩, ⟨rfl, rfl, trivial⟩, ⟨rfl, trivial⟩, rfl⟩, fun ⟨k, last, w⟩ hG => ⟨⟨trivial, trivial, trivial⟩, ⟨Nat.lt_succ_self 1, ⟨trivial, trivial⟩, trivial⟩, ?_⟩⟩
  obtain ⟨hk, hgo, hw0, hw1⟩ : k ≤ ms.length ∧ ensGo last w (ms.drop k) = ensGo 0 0 ms ∧ 0 ≤ w ∧ w ≤ 1000 * k := hG
  conv => lhs; whnf
  refine split_dec (fun hlt => ?_) (fun hlt => ?_)
  · have hkn : k < ms.length := by
      have hlt : (k : Int) < ms.length := hlt
      omega
    obtain ⟨g, o, rfl, hra⟩ := Sl.at_ hc ha1 ha2 ha3 (by omega)
    conv => lhs; whnf
    refine go_in ⟨by show (0 : Int) ≤ (k : Int); omega, hlt⟩ ?_
    conv => lhs; whnf
    refine go_rd (mem_at hra k hkn rfl) ?_
    have hdrop : ms.drop k = ms[k] :: ms.drop (k + 1) := List.drop_eq_getElem_cons hkn
    rw [hdrop] at hgo
    generalize ms[k] = m at hgo
    obtain ⟨id, role, weight, group⟩ := m
    have bad : ¬ (last < id ∧ id ≤ 7 ∧ ((role = 2 ∧ weight = 0 ∧ group = 0) ∨ (role = 1 ∧ 0 ≤ weight ∧ weight ≤ 1000 ∧ 0 ≤ group ∧ group < 7))) → Value.int .i64 140 = .int .i64 (ensD ver ms) := fun h => by
      have hm : ¬ memberOk last ⟨id, role, weight, group⟩ = true := fun hm => h ((memberOk_iff _ _).1 hm)
      rw [ensD, if_neg (by omega), ← hgo, ensGo, if_neg hm]
    have good : last < id → id ≤ 7 → ((role = 2 ∧ weight = 0 ∧ group = 0) ∨ (role = 1 ∧ 0 ≤ weight ∧ weight ≤ 1000 ∧ 0 ≤ group ∧ group < 7)) → IntKind.i64.wrap (w + weight) = w + weight ∧ (ensInv A ms).G (k + 1, id, w + weight) := fun h1 h2 h3 => by
      have hm : memberOk last ⟨id, role, weight, group⟩ = true := (memberOk_iff _ _).2 ⟨h1, h2, h3⟩
      rw [ensGo, if_pos hm] at hgo
      exact ⟨wrapI (by omega) (by omega), by show k + 1 ≤ ms.length; omega, hgo, by show 0 ≤ w + weight; omega, by show w + weight ≤ 1000 * ((k + 1 : Nat) : Int); omega⟩
    clear hgo hdrop hra ha1 ha2 ha3
    conv => lhs; whnf
    repeat' (first
      | exact (hD _).2 ⟨rfl, bad (by dsimp only at *; omega)⟩
      | (have hg := good (by dsimp only at *; omega) (by dsimp only at *; omega) (by dsimp only at *; omega)
         exact (hD _).2 ⟨(k + 1, id, w + weight), ⟨hg.2, ⟨congrArg (fun x => some (SV.v (.int .i64 x))) hg.1, inc_slot (by omega), trivial⟩, ⟨rfl, trivial⟩, rfl⟩, by show ms.length - (k + 1) < ms.length - k; omega, ⟨rfl, rfl, rfl, rfl, rfl, trivial⟩, ⟨rfl, trivial⟩⟩)
      | (refine split_nd (fun _ => ?_) (fun _ => ?_) <;> (conv => lhs; whnf))
      | (refine split_dec (fun _ => ?_) (fun _ => ?_) <;> (conv => lhs; whnf))
      | (refine go_in ⟨by show (0 : Int) ≤ (k : Int); omega, hlt⟩ ?_; conv => lhs; whnf))
  · conv => lhs; whnf
    have hkn : k = ms.length := by
      have hlt : ¬ (k : Int) < ms.length := hlt
      omega
    subst hkn
    rw [List.drop_eq_nil_of_le (Nat.le_refl _), ensGo] at hgo
    have fin1 : (w = 0 ∨ ver < 0 ∨ 4611686018427387904 < ver) → Value.int .i64 140 = .int .i64 (ensD ver ms) := fun h => by
      rw [ensD, if_neg (by omega), ← hgo]; dsimp only; rw [if_pos h]
    have fin2 : ¬ (w = 0 ∨ ver < 0 ∨ 4611686018427387904 < ver) → Value.int .i64 0 = .int .i64 (ensD ver ms) := fun h => by
      rw [ensD, if_neg (by omega), ← hgo]; dsimp only; rw [if_neg h]
    repeat' (first
      | exact (hD _).2 ⟨rfl, fin1 (by dsimp only at *; omega)⟩
      | exact (hD _).2 ⟨rfl, fin2 (by dsimp only at *; omega)⟩
      | (refine split_dec (fun _ => ?_) (fun _ => ?_) <;> (conv => lhs; whnf)))

end
end Go.Proofs.YthbaimobihmhiaaGreatDoor

namespace Go.Proofs.YthbaimobihmhiaaGreatDoor
open Go.Sx Go.RowKit
noncomputable section

/-- A number with a sign as one without. -/
def zig (n : Int) : Nat := if 0 ≤ n then (2 * n).toNat else (-2 * n - 1).toNat

theorem zig_lt {n : Int} (h1 : -9223372036854775808 ≤ n) (h2 : n ≤ 9223372036854775807) : zig n < 18446744073709551616 := by
  unfold zig
  split <;> omega

/-- Its bytes. -/
def vput : Nat → Nat → List UInt8
  | 0, u => [UInt8.ofNat u]
  | f + 1, u => if u < 128 then [UInt8.ofNat u] else UInt8.ofNat (u % 128 + 128) :: vput f (u / 128)

def vints (n : Int) : List UInt8 := vput 9 (zig n)

theorem vput_len : ∀ f u, (vput f u).length ≤ f + 1
  | 0, _ => Nat.le_refl _
  | f + 1, u => by
    unfold vput
    split
    · simp
    · have := vput_len f (u / 128)
      simp only [List.length_cons]
      omega

/-- What is put so far, and what is left. -/
def VI (T L : List UInt8) (u f : Nat) : Prop := L ++ vput f u = T ∧ u < 2 * 128 ^ f

theorem VI.start {n : Int} (h1 : -9223372036854775808 ≤ n) (h2 : n ≤ 9223372036854775807) (L : List UInt8) : VI (L ++ vints n) L (zig n) 9 :=
  ⟨rfl, by have := zig_lt h1 h2; exact Nat.lt_of_lt_of_eq this (by decide)⟩

theorem VI.next {T L : List UInt8} {u f : Nat} (h : VI T L u f) (hu : 128 ≤ u) : ∃ f', VI T (L ++ [UInt8.ofNat (u % 128 + 128)]) (u / 128) f' := by
  obtain ⟨h1, h2⟩ := h
  cases f with
  | zero => exact absurd h2 (by simp; omega)
  | succ f =>
    refine ⟨f, ?_, ?_⟩
    · rw [← h1]
      show _ = L ++ (if u < 128 then _ else _)
      rw [if_neg (by omega), List.append_assoc]
      rfl
    · rw [Nat.pow_succ] at h2
      omega

theorem VI.last {T L : List UInt8} {u f : Nat} (h : VI T L u f) (hu : u < 128) : L ++ [UInt8.ofNat u] = T := by
  obtain ⟨h1, _⟩ := h
  rw [← h1]
  cases f with
  | zero => rfl
  | succ f =>
    show _ = L ++ (if u < 128 then _ else _)
    rw [if_pos hu]

theorem VI.len {T L : List UInt8} {u f : Nat} (h : VI T L u f) : L.length ≤ T.length := by
  rw [← h.1, List.length_append]
  omega

/-! ### As the program reckons -/

theorem u8_wrap (u : Nat) : IntKind.u8.wrap (u : Int) = ((u % 256 : Nat) : Int) := by
  have h : IntKind.u8.wrap (u : Int) = (u : Int) % 256 := rfl
  rw [h]; omega

theorem u64_wrap {n : Int} (h0 : 0 ≤ n) (h1 : n < 18446744073709551616) : IntKind.u64.wrap n = n := by
  have h : IntKind.u64.wrap n = n % 18446744073709551616 := rfl
  rw [h]; omega

theorem or_128 (u : Nat) : bitsOf .or .u8 ((u % 256 : Nat) : Int) 128 = ((u % 128 + 128 : Nat) : Int) := by
  have key : ∀ x : Fin 256, bitsOf .or .u8 ((x.val : Nat) : Int) 128 = ((x.val % 128 + 128 : Nat) : Int) := by decide +kernel
  have := key ⟨u % 256, Nat.mod_lt _ (by decide)⟩
  rw [this]
  congr 1
  show u % 256 % 128 + 128 = _
  omega

theorem bv_ofNat {x : Nat} (h : x < 256) : bv (UInt8.ofNat x) = .int .u8 (x : Int) := by
  unfold bv
  rw [UInt8.toNat_ofNat_of_lt' h]

theorem shr_7 (u : Nat) : (u : Int).fdiv (2 ^ (min (7 : Int).toNat IntKind.u64.bits)) = ((u / 128 : Nat) : Int) := by
  show (u : Int).fdiv 128 = _
  rw [Int.fdiv_eq_ediv_of_nonneg _ (by decide)]
  omega

theorem shr_63 {n : Int} (h1 : -9223372036854775808 ≤ n) (h2 : n ≤ 9223372036854775807) : n.fdiv (2 ^ (min (63 : Int).toNat IntKind.i64.bits)) = if 0 ≤ n then 0 else -1 := by
  show n.fdiv 9223372036854775808 = _
  rw [Int.fdiv_eq_ediv_of_nonneg _ (by decide)]
  split <;> omega

theorem zig_prog {n : Int} (h1 : -9223372036854775808 ≤ n) (h2 : n ≤ 9223372036854775807) :
    bitsOf .xor .u64 (IntKind.u64.wrap (IntKind.u64.wrap n * 2 ^ (min (1 : Int).toNat IntKind.u64.bits))) (IntKind.u64.wrap (n.fdiv (2 ^ (min (63 : Int).toNat IntKind.i64.bits)))) = (zig n : Int) := by
  rw [shr_63 h1 h2]
  have hw : ∀ m : Int, IntKind.u64.wrap m = m % 18446744073709551616 := fun _ => rfl
  unfold zig
  by_cases h0 : 0 ≤ n
  · rw [if_pos h0, if_pos h0]
    have e1 : IntKind.u64.wrap (IntKind.u64.wrap n * 2 ^ (min (1 : Int).toNat IntKind.u64.bits)) = ((2 * n).toNat : Int) := by
      rw [hw, hw]
      show n % 18446744073709551616 * 2 % 18446744073709551616 = _
      omega
    rw [e1]
    show IntKind.u64.wrap (BitVec.ofInt 64 ((2 * n).toNat : Int) ^^^ BitVec.ofInt 64 0).toNat = _
    have e2 : BitVec.ofInt 64 0 = 0#64 := rfl
    rw [e2, BitVec.xor_zero, hw, BitVec.toNat_ofInt]
    omega
  · rw [if_neg h0, if_neg h0]
    have e1 : IntKind.u64.wrap (IntKind.u64.wrap n * 2 ^ (min (1 : Int).toNat IntKind.u64.bits)) = 18446744073709551616 + 2 * n := by
      rw [hw, hw]
      show n % 18446744073709551616 * 2 % 18446744073709551616 = _
      omega
    rw [e1]
    show IntKind.u64.wrap (BitVec.ofInt 64 (18446744073709551616 + 2 * n) ^^^ BitVec.ofInt 64 (IntKind.u64.wrap (-1))).toNat = _
    have e2 : BitVec.ofInt 64 (IntKind.u64.wrap (-1)) = BitVec.allOnes 64 := by decide +kernel
    rw [e2, BitVec.xor_allOnes, BitVec.toNat_not, BitVec.toNat_ofInt, hw]
    omega

theorem i64_in {n : Int} (h0 : -9223372036854775808 ≤ n) (h1 : n ≤ 9223372036854775807) : IntKind.i64.wrap n = n := by
  simp only [IntKind.wrap, IntKind.bits, IntKind.signed]
  simp
  omega

/-- As the document reckons. -/
theorem zig_ref_neg {n : Int} (h1 : -9223372036854775808 ≤ n) (h0 : n < 0) : IntKind.u64.wrap (IntKind.u64.wrap (2 * IntKind.u64.wrap (IntKind.i64.wrap (-IntKind.i64.wrap (n + 1)))) + 1) = (zig n : Int) := by
  have hw : ∀ m : Int, IntKind.u64.wrap m = m % 18446744073709551616 := fun _ => rfl
  unfold zig
  have e1 : IntKind.i64.wrap (n + 1) = n + 1 := i64_in (by omega) (by omega)
  have e2 : IntKind.i64.wrap (-(n + 1)) = -(n + 1) := i64_in (by omega) (by omega)
  rw [if_neg (by omega), e1, e2, hw, hw, hw]
  omega

theorem zig_ref_pos {n : Int} (h2 : n ≤ 9223372036854775807) (h0 : 0 ≤ n) : IntKind.u64.wrap (2 * IntKind.u64.wrap n) = (zig n : Int) := by
  have hw : ∀ m : Int, IntKind.u64.wrap m = m % 18446744073709551616 := fun _ => rfl
  unfold zig
  rw [if_pos h0, hw, hw]
  omega

end
end Go.Proofs.YthbaimobihmhiaaGreatDoor

namespace Go.Proofs.YthbaimobihmhiaaGreatDoor
open Go.Sx Go.RowKit
noncomputable section
open Classical

def memB (m : MemD) : List UInt8 := vints m.id ++ vints m.role ++ vints m.weight ++ vints m.group

def ensB (ver : Int) (ms : List MemD) : List UInt8 := vints ver ++ vints ms.length ++ ms.flatMap memB

def MemIn (m : MemD) : Prop := 0 ≤ m.id ∧ m.id ≤ 7 ∧ 0 ≤ m.role ∧ m.role ≤ 2 ∧ 0 ≤ m.weight ∧ m.weight ≤ 1000 ∧ 0 ≤ m.group ∧ m.group ≤ 7

theorem ensGo_in : ∀ (ms : List MemD) {last w : Int} {x : Int × Int}, 0 ≤ last → ensGo last w ms = some x → ∀ m ∈ ms, MemIn m
  | [], _, _, _, _, _, m, hm => by cases hm
  | a :: ms, last, w, x, hl, h, m, hm => by
    simp only [ensGo] at h
    split at h
    · rename_i hk
      have hk := (memberOk_iff _ _).1 hk
      rcases List.mem_cons.1 hm with rfl | hm
      · unfold MemIn
        omega
      · exact ensGo_in ms (by omega) h m hm
    · cases h

theorem ens_in {ver : Int} {ms : List MemD} (h : ensD ver ms = 0) : ms.length ≤ 7 ∧ 0 ≤ ver ∧ ver ≤ 4611686018427387904 ∧ ∀ m ∈ ms, MemIn m := by
  unfold ensD at h
  split at h
  · cases h
  · rename_i h7
    split at h
    · cases h
    · rename_i last w hg
      split at h
      · cases h
      · rename_i hv
        refine ⟨by omega, by omega, by omega, ensGo_in ms (Int.le_refl 0) hg⟩

theorem memB_len (m : MemD) : (memB m).length ≤ 40 := by
  unfold memB
  have h1 := vput_len 9 (zig m.id)
  have h2 := vput_len 9 (zig m.role)
  have h3 := vput_len 9 (zig m.weight)
  have h4 := vput_len 9 (zig m.group)
  simp only [List.length_append]
  show (vput 9 (zig m.id)).length + (vput 9 (zig m.role)).length + (vput 9 (zig m.weight)).length + (vput 9 (zig m.group)).length ≤ 40
  omega

theorem flat_len_le {α : Type} {f : α → List UInt8} {c : Nat} (h : ∀ x, (f x).length ≤ c) : ∀ l : List α, (l.flatMap f).length ≤ l.length * c
  | [] => by simp
  | x :: l => by
    have h1 := h x
    have h2 := flat_len_le h l
    rw [List.flatMap_cons, List.length_append, List.length_cons, Nat.succ_mul]
    omega

theorem vints_le (n : Int) : (vints n).length ≤ 10 := vput_len 9 (zig n)

theorem flatMap_snoc {α β : Type} (f : α → List β) (l : List α) {k : Nat} (h : k < l.length) : (l.take (k + 1)).flatMap f = (l.take k).flatMap f ++ f l[k] := by
  rw [List.take_succ_eq_append_getElem h, List.flatMap_append]
  simp

end
end Go.Proofs.YthbaimobihmhiaaGreatDoor

namespace Go.Proofs.YthbaimobihmhiaaGreatDoor
open Go.Sx Go.RowKit
noncomputable section
open Classical

def sitsOk : Int → List SitD → Bool
  | _, [] => true
  | last, s :: l => if last < s.ses ∧ 0 ≤ s.tmo ∧ 0 ≤ s.turn then sitsOk s.ses l else false

/-- May these be an image? -/
def RightI (l : List ToldD) (ss : List SitD) (ver : Int) (ms : List MemD) (f t : Int) : Prop := LoadC l ∧ l.length ≤ 500 ∧ ss.length ≤ 200 ∧ ensD ver ms = 0 ∧ 0 ≤ f ∧ f ≤ t ∧ sitsOk 0 ss = true

structure ImgG where
  l : List (ToldD × Value)
  ss : List SitD
  ver : Int
  ms : List MemD
  f : Int
  t : Int

/-- An image as arguments. -/
def ImgA (g : ImgG) (vs : List Value) (A : Arena) : Prop := ∃ x y vm, vs = [x, y, .agg #[.int .i64 g.ver, vm], .int .i64 g.f, .int .i64 g.t] ∧ NodesR A x g.l ∧ SlS A y g.ss ∧ MemR A vm g.ms ∧ g.l.length ≤ 1000000 ∧ ShortL g.l

def ImgG.ok (g : ImgG) : Prop := RightI (g.l.map (·.1)) g.ss g.ver g.ms g.f g.t

/-- Sittings, one after the other. -/
def SitI (ss : List SitD) (s : Nat × Int) : Prop := s.1 ≤ ss.length ∧ sitsOk s.2 (ss.drop s.1) = sitsOk 0 ss

theorem sitI_zero (ss : List SitD) : SitI ss (0, 0) := ⟨Nat.zero_le _, rfl⟩

theorem sitI_next {ss : List SitD} {k : Nat} {last : Int} (h : SitI ss (k, last)) (hk : k < ss.length) (h1 : last < ss[k].ses) (h2 : 0 ≤ ss[k].tmo) (h3 : 0 ≤ ss[k].turn) : SitI ss (k + 1, ss[k].ses) := by
  obtain ⟨_, h⟩ := h
  refine ⟨hk, ?_⟩
  rw [← h]
  show _ = sitsOk last (ss.drop k)
  rw [List.drop_eq_getElem_cons hk, sitsOk, if_pos ⟨h1, h2, h3⟩]

theorem sitI_bad {ss : List SitD} {k : Nat} {last : Int} (h : SitI ss (k, last)) (hk : k < ss.length) (h1 : ¬ (last < ss[k].ses ∧ 0 ≤ ss[k].tmo ∧ 0 ≤ ss[k].turn)) : sitsOk 0 ss = false := by
  obtain ⟨_, h⟩ := h
  rw [← h]
  show sitsOk last (ss.drop k) = false
  rw [List.drop_eq_getElem_cons hk, sitsOk, if_neg h1]

theorem sitI_end {ss : List SitD} {last : Int} (h : SitI ss (ss.length, last)) : sitsOk 0 ss = true := by
  rw [← h.2]
  show sitsOk last (ss.drop ss.length) = true
  rw [List.drop_eq_nil_of_le (Nat.le_refl _), sitsOk]

theorem img_no {g : ImgG} (h : ¬ g.ok) : Value.bool false = .bool (decide g.ok) := by rw [decide_eq_false h]
theorem img_yes {g : ImgG} (h : g.ok) : Value.bool true = .bool (decide g.ok) := by rw [decide_eq_true h]

/-! ### Numbers that are numbers of 64 bits -/

def I64 (n : Int) : Prop := -9223372036854775808 ≤ n ∧ n ≤ 9223372036854775807
def StatIn (s : StatD) : Prop := I64 s.czxid ∧ I64 s.mzxid ∧ I64 s.pzxid ∧ I64 s.ctime ∧ I64 s.mtime ∧ I64 s.ver ∧ I64 s.cver ∧ I64 s.owner
def SitIn (s : SitD) : Prop := I64 s.ses ∧ I64 s.tmo ∧ I64 s.turn
def ImgIn (g : ImgG) : Prop := (∀ x ∈ g.l, StatIn x.1.stat) ∧ (∀ s ∈ g.ss, SitIn s) ∧ I64 g.f ∧ I64 g.t

/-! ### Bytes -/

def statB (s : StatD) : List UInt8 := vints s.czxid ++ vints s.mzxid ++ vints s.pzxid ++ vints s.ctime ++ vints s.mtime ++ vints s.ver ++ vints s.cver ++ vints s.owner

def nodeB (x : ToldD) : List UInt8 := vints x.path.data.toList.length ++ x.path.data.toList ++ (vints x.data.length ++ x.data) ++ statB x.stat

def sitB (s : SitD) : List UInt8 := vints s.ses ++ vints s.tmo ++ vints s.turn

def loadB (l : List ToldD) (ss : List SitD) (ver : Int) (ms : List MemD) (f t : Int) : List UInt8 :=
  [1] ++ vints l.length ++ l.flatMap nodeB ++ vints ss.length ++ ss.flatMap sitB ++ vints (ensB ver ms).length ++ ensB ver ms ++ vints f ++ vints t

theorem pathOk_len {l : List UInt8} (h : pathOk l = true) : l.length ≤ 200 := by
  unfold pathOk at h
  split at h
  · simp at h
    simp; omega
  · cases h

theorem node_len {x : ToldD} (h : NodeFits x) : (nodeB x).length ≤ 1310 := by
  have h1 := pathOk_len h.1
  have h2 := h.2.1
  have k1 := vints_le (x.path.data.toList.length : Int)
  have k2 := vints_le (x.data.length : Int)
  have s1 := vints_le x.stat.czxid
  have s2 := vints_le x.stat.mzxid
  have s3 := vints_le x.stat.pzxid
  have s4 := vints_le x.stat.ctime
  have s5 := vints_le x.stat.mtime
  have s6 := vints_le x.stat.ver
  have s7 := vints_le x.stat.cver
  have s8 := vints_le x.stat.owner
  unfold nodeB statB
  simp only [List.length_append]
  omega

theorem sitB_len (s : SitD) : (sitB s).length ≤ 30 := by
  have s1 := vints_le s.ses
  have s2 := vints_le s.tmo
  have s3 := vints_le s.turn
  unfold sitB
  simp only [List.length_append]
  omega

theorem nodesB_len : ∀ {l : List ToldD}, (∀ x ∈ l, NodeFits x) → (l.flatMap nodeB).length ≤ l.length * 1310
  | [], _ => by simp
  | x :: l, h => by
    have h1 := node_len (h x (by simp))
    have h2 := nodesB_len (l := l) fun y hy => h y (List.mem_cons_of_mem _ hy)
    rw [List.flatMap_cons, List.length_append, List.length_cons, Nat.succ_mul]
    omega

theorem right_fits {l : List ToldD} {ss : List SitD} {ver : Int} {ms : List MemD} {f t : Int} (h : RightI l ss ver ms f t) : ∀ x ∈ l, NodeFits x := fun x hx => by
  obtain ⟨i, hi, rfl⟩ := List.mem_iff_getElem.1 hx
  exact (h.1.1 i hi).1

end
end Go.Proofs.YthbaimobihmhiaaGreatDoor

namespace Go.Proofs.YthbaimobihmhiaaGreatDoor
open Go.Sx Go.RowKit
noncomputable section
open Classical

def checkS : FSpec := ⟨ByteArray, fun p vs _ => vs = [.string p], fun p _ A v A' => A' = A ∧ v = .bool (pathOk p.data.toList)⟩

theorem check_ok : FOk Tryz.prog 59 checkS := by
  intro p vs A w hA hp
  obtain rfl : vs = [.string p] := hp
  refine goes_of_calls Tryz.func59 ⟨by kernel_rfl, by kernel_rfl⟩ ?_
  intro cs
  obtain ⟨e, w', fr, ⟨k1, b1, b2, b3, _, b5⟩, k3⟩ := check1 p w cs
  have hlt : ∀ k o, A.blk k = some o → k < w.heap.size := fun k o hk => (Array.getElem?_eq_some_iff.1 (hA k o hk)).1
  exact ⟨e, w', fr, ⟨_, k1, A, ⟨rfl, rfl⟩, b1, b3, b2, fun k _ hk => b5 k hk, fun k o hk => (b5 k (hlt k o hk)).trans (hA k o hk), fun k o ho => .inl ⟨o, ho⟩⟩, k3⟩

end
end Go.Proofs.YthbaimobihmhiaaGreatDoor
