/-
  Contracts: the document's ensembles: may a config be?
  The document's: is an image right?
  The document's writer: bytes in a row that grows.
  The document's writer: Int.
  The document's writer: Text.
  The document's writer: Bytes, Done; as those want it that make one.
  The document's Write and Put of a config.
  The document's Sum.
  The document's: a number's four bytes; a frame.
-/
import Derived.Test.YthbaimobihmhiaaGreatDoorG08
import Derived.Test.YthbaimobihmhiaaGreatDoorG10
import Derived.Test.YthbaimobihmhiaaGreatDoorG07
import Derived.Test.YthbaimobihmhiaaGreatDoorG11
namespace Go.Proofs.YthbaimobihmhiaaGreatDoor
open Go.Sx Go.RowKit
noncomputable section
open Classical

def MemOk (m : MemD) : Prop := 1 ≤ m.id ∧ m.id ≤ 7 ∧ ((m.role = 2 ∧ m.weight = 0 ∧ m.group = 0) ∨ (m.role = 1 ∧ 0 ≤ m.weight ∧ m.weight ≤ 1000 ∧ 0 ≤ m.group ∧ m.group < 7))

theorem memOk_iff {last : Int} (h0 : 0 ≤ last) (m : MemD) : memberOk last m = true ↔ MemOk m ∧ last < m.id := by
  rw [memberOk_iff]
  unfold MemOk
  constructor
  · rintro ⟨h1, h2, h3⟩
    exact ⟨⟨by omega, h2, h3⟩, h1⟩
  · rintro ⟨⟨_, h2, h3⟩, h1⟩
    exact ⟨h1, h2, h3⟩

def rmemS : FSpec := ⟨MemD, fun m vs _ => vs = [.agg #[.int .i64 m.id, .int .u8 m.role, .int .i64 m.weight, .int .i64 m.group]], fun m _ A v A' => A' = A ∧ v = .bool (decide (MemOk m))⟩

set_option maxRecDepth 100000 in
set_option maxHeartbeats 0 in
theorem rmem_ok : FOk Tryz.prog 69 rmemS := by
  refine fok_v mixed fun ⟨id, role, weight, group⟩ vs A hp => ?_
  obtain rfl : vs = [.agg #[.int .i64 id, .int .u8 role, .int .i64 weight, .int .i64 group]] := hp
  refine ⟨noC, noL, 60, noC_sound _, noL_sound _, fun blk os out tape D hD => ?_⟩
  have bad : ¬ MemOk ⟨id, role, weight, group⟩ → A = A ∧ Value.bool false = .bool (decide (MemOk ⟨id, role, weight, group⟩)) := fun hb => ⟨rfl, by rw [decide_eq_false hb]⟩
  have good : ∀ b : Bool, (b = true ↔ MemOk ⟨id, role, weight, group⟩) → A = A ∧ Value.bool b = .bool (decide (MemOk ⟨id, role, weight, group⟩)) := fun b hb => ⟨rfl, by
    congr 1
    rw [Bool.eq_iff_iff, hb, decide_eq_true_iff]⟩
  conv => lhs; whnf
  refine split_dec (fun h1 => ?_) (fun h1 => ?_) <;> (conv => lhs; whnf)
  · exact (hD _).2 (bad fun hB => by unfold MemOk at hB; dsimp only at hB; omega)
  refine split_dec (fun h2 => ?_) (fun h2 => ?_) <;> (conv => lhs; whnf)
  · exact (hD _).2 (bad fun hB => by unfold MemOk at hB; dsimp only at hB; omega)
  refine split_dec (fun h3 => ?_) (fun h3 => ?_) <;> (conv => lhs; whnf)
  · refine split_dec (fun h4 => ?_) (fun h4 => ?_) <;> (conv => lhs; whnf)
    · exact (hD _).2 (good (decide (group = 0)) (by unfold MemOk; simp only [decide_eq_true_iff]; omega))
    · exact (hD _).2 (bad fun hB => by unfold MemOk at hB; dsimp only at hB; omega)
  refine split_dec (fun h4 => ?_) (fun h4 => ?_) <;> (conv => lhs; whnf)
  rotate_left
  · exact (hD _).2 (bad fun hB => by unfold MemOk at hB; dsimp only at hB; omega)
  refine split_dec (fun h5 => ?_) (fun h5 => ?_) <;> (conv => lhs; whnf)
  rotate_left
  · exact (hD _).2 (bad fun hB => by unfold MemOk at hB; dsimp only at hB; omega)
  refine split_dec (fun h6 => ?_) (fun h6 => ?_) <;> (conv => lhs; whnf)
  rotate_left
  · exact (hD _).2 (bad fun hB => by unfold MemOk at hB; dsimp only at hB; omega)
  refine split_dec (fun h7 => ?_) (fun h7 => ?_) <;> (conv => lhs; whnf)
  rotate_left
  · exact (hD _).2 (bad fun hB => by unfold MemOk at hB; dsimp only at hB; omega)
  exact (hD _).2 (good (decide (group < 7)) (by unfold MemOk; simp only [decide_eq_true_iff]; omega))

theorem ensGo_snoc : ∀ (xs : List MemD) (l w : Int) (m : MemD), ensGo l w (xs ++ [m]) = match ensGo l w xs with
    | some (l', w') => if memberOk l' m = true then some (m.id, w' + m.weight) else none
    | none => none
  | [], l, w, m => by
    show (if memberOk l m = true then ensGo m.id (w + m.weight) [] else none) = _
    rfl
  | x :: xs, l, w, m => by
    show (if memberOk l x = true then ensGo x.id (w + x.weight) (xs ++ [m]) else none) = match (if memberOk l x = true then ensGo x.id (w + x.weight) xs else none) with
      | some (l', w') => if memberOk l' m = true then some (m.id, w' + m.weight) else none
      | none => none
    by_cases h : memberOk l x = true
    · rw [if_pos h, if_pos h, ensGo_snoc xs]
    · rw [if_neg h, if_neg h]

theorem ensGo_app : ∀ (xs ys : List MemD) (l w : Int), ensGo l w xs = none → ensGo l w (xs ++ ys) = none
  | [], _, _, _, h => by cases h
  | x :: xs, ys, l, w, h => by
    have h : (if memberOk l x = true then ensGo x.id (w + x.weight) xs else none) = none := h
    show (if memberOk l x = true then ensGo x.id (w + x.weight) (xs ++ ys) else none) = none
    by_cases hm : memberOk l x = true
    · rw [if_pos hm] at h ⊢
      exact ensGo_app xs ys _ _ h
    · rw [if_neg hm]

structure EnI (ms : List MemD) (s : Nat × Int) : Prop where
  le : s.1 ≤ ms.length
  go : ∃ last, ensGo 0 0 (ms.take s.1) = some (last, s.2) ∧ (s.1 = 0 → last = 0) ∧ (∀ h : s.1 - 1 < ms.length, 0 < s.1 → last = ms[s.1 - 1].id ∧ 1 ≤ last)
  lo : 0 ≤ s.2
  hi : s.2 ≤ 1000 * s.1

def renInv (A : Arena) (ms : List MemD) : LInv := { γ := Nat × Int, G := EnI ms, keepS := [1], keepB := [0], sl := fun s => [(3, .v (.int .i64 s.2)), (4, .v (.int .i64 s.1))], bl := fun _ => [], ar := fun _ => A, mu := fun s => ms.length - s.1 }

def renS : FSpec := ⟨Int × List MemD, fun g vs A => ∃ vm, vs = [.agg #[.int .i64 g.1, vm]] ∧ MemR A vm g.2, fun g _ A v A' => A' = A ∧ ∃ z, v = .int .i64 z ∧ (z = 0 ↔ ensD g.1 g.2 = 0)⟩

set_option maxRecDepth 100000 in
set_option maxHeartbeats 0 in
theorem ren_ok : FOk Tryz.prog 41 renS := by
  refine fok_v mixed fun ⟨ver, ms⟩ vs A hp => ?_
  obtain ⟨vm, rfl, ⟨ao, c, rfl, hc, hml, ha1, ha2, ha3⟩, hm32⟩ : ∃ vm, vs = [.agg #[.int .i64 ver, vm]] ∧ MemR A vm ms := hp
  have hC : CTSound Tryz.prog (lookC [specE 69 rmemS] noC) := lookC_sound (noC_sound _) (fun x hx => by
    simp only [List.mem_singleton] at hx
    subst hx; exact specE_ok rmem_ok)
  refine ⟨_, tabO Tryz.prog _ noL 60 [(41, 0)], 60, hC, tabO_sound mixed hC (noL_sound _) _ _, fun blk os out tape D hD => ?_⟩
  have hend : ∀ z : Int, (z = 0 ↔ ensD ver ms = 0) → A = A ∧ ∃ z', Value.int .i64 z = .int .i64 z' ∧ (z' = 0 ↔ ensD ver ms = 0) := fun z h => ⟨rfl, z, rfl, h⟩
  conv => lhs; whnf
  refine split_dec (fun h7 => ?_) (fun h7 => ?_) <;> (conv => lhs; whnf)
  · have h7 : (7 : Int) < (ms.length : Int) := h7
    exact (hD _).2 (hend 3 (by
      unfold ensD
      rw [if_pos (by omega)]))
  have h7 : ms.length ≤ 7 := by
    have h7 : ¬ (7 : Int) < (ms.length : Int) := h7
    omega
  have hI0 : EnI ms (0, 0) := ⟨Nat.zero_le _, ⟨0, rfl, fun _ => rfl, fun _ h => absurd h (Nat.lt_irrefl _)⟩, Int.le_refl _, Int.le_refl _⟩
  refine (hD _).2 ⟨renInv A ms, ⟨((0, 0) : Nat × Int), hI0, ⟨rfl, rfl, trivial⟩, trivial, rfl⟩, fun (s : Nat × Int) hG => ⟨⟨trivial, trivial, trivial⟩, trivial, ?_⟩⟩
  obtain ⟨k, w⟩ := s
  obtain ⟨hk, ⟨last, hgo, hl0, hl1⟩, hw0, hw1⟩ : EnI ms (k, w) := hG
  dsimp only at hk hgo hl0 hl1 hw0 hw1
  conv => lhs; whnf
  refine split_dec (fun hlt => ?_) (fun hlt => ?_) <;> (conv => lhs; whnf)
  rotate_left
  · have e : k = ms.length := by
      have hlt : ¬ (k : Int) < (ms.length : Int) := hlt
      omega
    rw [e, List.take_length] at hgo
    have hen : ensD ver ms = 0 ↔ ¬ (w = 0 ∨ ver < 0 ∨ 4611686018427387904 < ver) := by
      unfold ensD
      rw [if_neg (by omega), hgo]
      dsimp only
      by_cases h : w = 0 ∨ ver < 0 ∨ 4611686018427387904 < ver
      · rw [if_pos h]
        simp [h]
      · rw [if_neg h]
        simp [h]
    refine split_dec (fun h1 => ?_) (fun h1 => ?_) <;> (conv => lhs; whnf)
    · exact (hD _).2 (hend 140 (by rw [hen]; omega))
    refine split_dec (fun h2 => ?_) (fun h2 => ?_) <;> (conv => lhs; whnf)
    · exact (hD _).2 (hend 140 (by rw [hen]; omega))
    refine split_dec (fun h3 => ?_) (fun h3 => ?_) <;> (conv => lhs; whnf)
    · exact (hD _).2 (hend 140 (by rw [hen]; omega))
    · exact (hD _).2 (hend 0 (by rw [hen]; omega))
  have hkl : k < ms.length := by
    have hlt : (k : Int) < (ms.length : Int) := hlt
    omega
  obtain ⟨g0, o, rfl, hra⟩ := Sl.at_ hc ha1 ha2 ha3 (by omega)
  have r1 := mem_at hra k hkl rfl
  have r1i : A.rd g0 (o + k * 4) 1 = some [.int .i64 ms[k].id] := rd_at r1 (i := 0) (m := 1) (by omega)
  have r1w : A.rd g0 (o + k * 4 + 2) 1 = some [.int .i64 ms[k].weight] := rd_at r1 (i := 2) (m := 1) (by omega)
  have i0 : (0 : Int) ≤ (k : Int) ∧ (k : Int) < (ms.length : Int) := by omega
  have hlast : 0 ≤ last := by
    rcases Nat.eq_zero_or_pos k with h | h
    · rw [hl0 h]
      exact Int.le_refl _
    · have := (hl1 (by omega) h).2
      omega
  have hsn : ensGo 0 0 (ms.take (k + 1)) = if memberOk last ms[k] = true then some (ms[k].id, w + ms[k].weight) else none := by
    rw [List.take_succ_eq_append_getElem hkl, ensGo_snoc, hgo]
  have hnone : memberOk last ms[k] ≠ true → ensD ver ms = 140 := fun h => by
    rw [if_neg h] at hsn
    have h2 := ensGo_app (ms.take (k + 1)) (ms.drop (k + 1)) 0 0 hsn
    rw [List.take_append_drop] at h2
    unfold ensD
    rw [if_neg (by omega), h2]
  have hmo := memOk_iff hlast ms[k]
  repeat (first | refine go_in i0 ?_ | refine go_rd r1 ?_
          conv => lhs; whnf)
  refine (hD _).2 ⟨ms[k], rfl, fun v A9 hq => ?_⟩
  have hq : A9 = A ∧ v = .bool (decide (MemOk ms[k])) := hq
  have h9 := hq.1.symm
  have hv := hq.2
  subst h9
  by_cases hm : MemOk ms[k]
  rotate_left
  · rw [decide_eq_false hm] at hv
    subst hv
    conv => lhs; whnf
    exact (hD _).2 (hend 140 (by rw [hnone fun h => hm (hmo.1 h).1]))
  rw [decide_eq_true hm] at hv
  subst hv
  have hwt : 0 ≤ ms[k].weight ∧ ms[k].weight ≤ 1000 := by
    rcases hm.2.2 with h | h <;> omega
  have hgood : last < ms[k].id → EnI ms (k + 1, w + ms[k].weight) := fun hlt2 => by
    rw [if_pos (hmo.2 ⟨hm, hlt2⟩)] at hsn
    exact ⟨hkl, ⟨ms[k].id, hsn, fun h => absurd h (Nat.succ_ne_zero k), fun h _ => ⟨rfl, hm.1⟩⟩, by show 0 ≤ w + ms[k].weight; omega, by show w + ms[k].weight ≤ 1000 * ((k + 1 : Nat) : Int); omega⟩
  conv => lhs; whnf
  have hww : IntKind.i64.wrap (w + ms[k].weight) = w + ms[k].weight := by
    rw [Sx.wrap_i64 (by omega) (by omega)]
  refine split_dec (fun h0 => ?_) (fun h0 => ?_) <;> (conv => lhs; whnf)
  · have hk0 : 0 < k := by
      have h0 : (0 : Int) < (k : Int) := h0
      omega
    have hk1 : k - 1 < ms.length := by omega
    have hx : IntKind.i64.wrap ((k : Int) - 1) = ((k - 1 : Nat) : Int) := by
      rw [Sx.wrap_i64 (by omega) (by omega)]; omega
    have hin1 : (0 : Int) ≤ IntKind.i64.wrap ((k : Int) - 1) ∧ IntKind.i64.wrap ((k : Int) - 1) < (ms.length : Int) := by rw [hx]; omega
    have r0 : A.rd g0 (o + (IntKind.i64.wrap ((k : Int) - 1)).toNat * 4) 1 = some [.int .i64 ms[k - 1].id] := by
      rw [hx, Int.toNat_natCast]
      exact rd_at (mem_at hra (k - 1) hk1 rfl) (i := 0) (m := 1) (by omega)
    repeat (first | refine go_in i0 ?_ | refine go_rd r1i ?_ | refine go_in hin1 ?_ | refine go_rd r0 ?_
            conv => lhs; whnf)
    have hle := (hl1 hk1 hk0).1
    refine split_dec (fun h8 => ?_) (fun h8 => ?_) <;> (conv => lhs; whnf)
    · exact (hD _).2 (hend 140 (by rw [hnone fun h => by have := (hmo.1 h).2; omega]))
    have hI := hgood (by omega)
    repeat (first | refine go_in i0 ?_ | refine go_rd r1w ?_
            conv => lhs; whnf)
    exact (hD _).2 ⟨((k + 1, w + ms[k].weight) : Nat × Int), ⟨hI, ⟨congrArg (fun z => some (SV.v (.int .i64 z))) hww, inc_slot (k := k) (by omega), trivial⟩, trivial, rfl⟩, by show ms.length - (k + 1) < ms.length - k; omega, ⟨same1 rfl rfl, trivial⟩, ⟨same1 rfl rfl, trivial⟩⟩
  · have hk0 : k = 0 := by
      have h0 : ¬ (0 : Int) < (k : Int) := h0
      omega
    have hI := hgood (by rw [hl0 hk0]; have := hm.1; omega)
    repeat (first | refine go_in i0 ?_ | refine go_rd r1w ?_
            conv => lhs; whnf)
    exact (hD _).2 ⟨((k + 1, w + ms[k].weight) : Nat × Int), ⟨hI, ⟨congrArg (fun z => some (SV.v (.int .i64 z))) hww, inc_slot (k := k) (by omega), trivial⟩, trivial, rfl⟩, by show ms.length - (k + 1) < ms.length - k; omega, ⟨same1 rfl rfl, trivial⟩, ⟨same1 rfl rfl, trivial⟩⟩

end
end Go.Proofs.YthbaimobihmhiaaGreatDoor

namespace Go.Proofs.YthbaimobihmhiaaGreatDoor
open Go.Sx Go.RowKit
noncomputable section
open Classical

def rimgS : FSpec := ⟨ImgG, ImgA, fun g _ A v A' => A.Sub A' ∧ v = .bool (decide g.ok)⟩

def rimgInv (A : Arena) (ss : List SitD) : LInv :=
  { γ := Nat × Int, G := SitI ss, keepS := [1], keepB := [], sl := fun s => [(12, .v (.int .i64 s.1)), (11, .v (.int .i64 s.2))], bl := fun _ => [], ar := fun _ => A, mu := fun s => ss.length - s.1 }

set_option maxRecDepth 100000 in
set_option maxHeartbeats 0 in
theorem rimg_ok : FOk Tryz.prog 16 rimgS := by
  refine fok_v mixed fun (g : ImgG) vs A hp => ?_
  obtain ⟨l, ss, ver, ms, f, t⟩ := g
  obtain ⟨x, y, vm, rfl, hN, hS, hM, hl1, hsh⟩ : ∃ x y vm, vs = [x, y, .agg #[.int .i64 ver, vm], .int .i64 f, .int .i64 t] ∧ NodesR A x l ∧ SlS A y ss ∧ MemR A vm ms ∧ l.length ≤ 1000000 ∧ ShortL l := hp
  have hX := hN.1.form
  obtain ⟨ax, cx, rfl⟩ := hX
  have hY := hM.1.form
  obtain ⟨am, cm, rfl⟩ := hY
  have hS0 := hS
  obtain ⟨⟨ao, c, rfl, hc, -, ha1, ha2, ha3⟩, hsl⟩ := hS0
  have hC : CTSound Tryz.prog (lookC [specE 40 rrowsS, specE 41 renS] noC) := lookC_sound (noC_sound _) (fun x hx => by
    simp only [List.mem_cons, List.not_mem_nil, or_false] at hx
    rcases hx with rfl | rfl
    · exact specE_ok rrows_ok
    · exact specE_ok ren_ok)
  refine ⟨_, tabO Tryz.prog _ noL 60 [(16, 0)], 60, hC, tabO_sound mixed hC (noL_sound _) _ _, fun blk os out tape D hD => ?_⟩
  have hbad : ∀ As, A.Sub As → ¬ (ImgG.mk l ss ver ms f t).ok → rimgS.post ⟨l, ss, ver, ms, f, t⟩ [] A (.bool false) As := fun As hs hn => ⟨hs, img_no hn⟩
  conv => lhs; whnf
  refine (hD _).2 ⟨l, ⟨_, rfl, hN, hl1, hsh⟩, fun v A1 hq => ?_⟩
  obtain ⟨s1, hv⟩ : A.Sub A1 ∧ v = .bool (decide (LoadC (l.map (·.1)))) := hq
  by_cases hL : LoadC (l.map (·.1))
  rotate_left
  · rw [decide_eq_false hL] at hv
    subst hv
    have hend := hbad A1 s1 fun h => hL h.1
    conv => lhs; whnf
    exact (hD _).2 hend
  rw [decide_eq_true hL] at hv
  subst hv
  conv => lhs; whnf
  refine split_dec (fun h500 => ?_) (fun h500 => ?_)
  · have hend := hbad A1 s1 fun h => by
      have h2 := h.2.1
      have h500 : (500 : Int) < (l.length : Int) := h500
      rw [List.length_map] at h2
      have h2 : l.length ≤ 500 := h2
      omega
    conv => lhs; whnf
    exact (hD _).2 hend
  conv => lhs; whnf
  refine split_dec (fun h200 => ?_) (fun h200 => ?_)
  · have hend := hbad A1 s1 fun h => by
      have h2 : ss.length ≤ 200 := h.2.2.1
      have h200 : (200 : Int) < (ss.length : Int) := h200
      omega
    conv => lhs; whnf
    exact (hD _).2 hend
  conv => lhs; whnf
  refine (hD _).2 ⟨((ver, ms) : Int × List MemD), ⟨_, rfl, hM.sub s1⟩, fun v A2 hq => ?_⟩
  have hq : A2 = A1 ∧ ∃ z, v = .int .i64 z ∧ (z = 0 ↔ ensD ver ms = 0) := hq
  have h9 := hq.1.symm
  have hz := hq.2
  subst h9
  obtain ⟨z, hv, hz⟩ := hz
  subst hv
  conv => lhs; whnf
  refine split_nd (fun hz0 => ?_) (fun hz0 => ?_)
  rotate_left
  · have hend := hbad A1 s1 fun h => hz0 (hz.2 h.2.2.2.1)
    conv => lhs; whnf
    exact (hD _).2 hend
  have hE := hz.1 hz0
  conv => lhs; whnf
  refine split_dec (fun hf => ?_) (fun hf => ?_)
  · have hend := hbad A1 s1 fun h => by
      have h2 : 0 ≤ f := h.2.2.2.2.1
      omega
    conv => lhs; whnf
    exact (hD _).2 hend
  conv => lhs; whnf
  refine split_dec (fun ht => ?_) (fun ht => ?_)
  · have hend := hbad A1 s1 fun h => by
      have h2 : f ≤ t := h.2.2.2.2.2.1
      omega
    conv => lhs; whnf
    exact (hD _).2 hend
  conv => lhs; whnf
  have hlm : (l.map (·.1)).length = l.length := List.length_map _
  have hno : ∀ As, A.Sub As → sitsOk 0 ss = false → rimgS.post ⟨l, ss, ver, ms, f, t⟩ [] A (.bool false) As := fun As hs hn => hbad As hs fun h => absurd (hn.symm.trans h.2.2.2.2.2.2) Bool.false_ne_true
  have hyes : sitsOk 0 ss = true → (ImgG.mk l ss ver ms f t).ok := fun h => ⟨hL, by
    show (l.map (·.1)).length ≤ 500
    rw [hlm]
    have h500 : ¬ (500 : Int) < (l.length : Int) := h500
    omega, by
    show ss.length ≤ 200
    have h200 : ¬ (200 : Int) < (ss.length : Int) := h200
    omega, hE, by show 0 ≤ f; omega, by show f ≤ t; omega, h⟩
  refine (hD _).2 ⟨rimgInv A1 ss, ⟨((0, 0) : Nat × Int), sitI_zero ss, ⟨rfl, rfl, trivial⟩, trivial, rfl⟩, fun (s : Nat × Int) hG => ⟨⟨trivial, trivial, trivial⟩, trivial, ?_⟩⟩
  obtain ⟨k, last⟩ := s
  have hG : SitI ss (k, last) := hG
  have hk : k ≤ ss.length := hG.1
  conv => lhs; whnf
  refine split_dec (fun hlt => ?_) (fun hlt => ?_)
  · have hkl : k < ss.length := by
      have hlt : (k : Int) < (ss.length : Int) := hlt
      omega
    obtain ⟨g, o, rfl, hra⟩ := Sl.at_ hc ha1 ha2 ha3 (by omega)
    have r1 := rd_sub s1 (row_at (enc := sitC) (fun _ => rfl) hra k hkl rfl)
    have i0 : (0 : Int) ≤ (k : Int) ∧ (k : Int) < (ss.length : Int) := by omega
    have hnext := sitI_next hG hkl
    have hbads := fun h => hno A1 s1 (sitI_bad hG hkl h)
    generalize ss[k] = sk at *
    obtain ⟨ses, tmo, trn⟩ := sk
    have r1 : A1.rd g (o + k * 3) 3 = some [.int .i64 ses, .int .i64 tmo, .int .i64 trn] := r1
    dsimp only at hnext hbads
    conv => lhs; whnf
    repeat (first | refine go_in i0 ?_ | refine go_rd r1 ?_ | refine go_D hD rfl ?_
            conv => lhs; whnf)
    refine split_dec (fun h1 => ?_) (fun h1 => ?_)
    · have hend := hbads fun h => by omega
      conv => lhs; whnf
      exact (hD _).2 hend
    conv => lhs; whnf
    refine split_dec (fun h2 => ?_) (fun h2 => ?_)
    · have hend := hbads fun h => by omega
      conv => lhs; whnf
      exact (hD _).2 hend
    conv => lhs; whnf
    refine split_dec (fun h3 => ?_) (fun h3 => ?_)
    · have hend := hbads fun h => by omega
      conv => lhs; whnf
      exact (hD _).2 hend
    have hG2 := hnext (by omega) (by omega) (by omega)
    conv => lhs; whnf
    exact (hD _).2 ⟨((k + 1, ses) : Nat × Int), ⟨hG2, ⟨inc_slot (by omega), rfl, trivial⟩, trivial, rfl⟩, by show ss.length - (k + 1) < ss.length - k; omega, ⟨same1 rfl rfl, trivial⟩, trivial⟩
  · have hk9 : k = ss.length := by
      have hlt : ¬ (k : Int) < (ss.length : Int) := hlt
      omega
    subst hk9
    have hend : rimgS.post ⟨l, ss, ver, ms, f, t⟩ [] A (.bool true) A1 := ⟨s1, img_yes (hyes (sitI_end hG))⟩
    conv => lhs; whnf
    exact (hD _).2 hend

end
end Go.Proofs.YthbaimobihmhiaaGreatDoor

namespace Go.Proofs.YthbaimobihmhiaaGreatDoor
open Go.Sx Go.RowKit
noncomputable section
open Classical

/-- In block w; what was put lies in the list L. -/
structure WdR (A : Arena) (w : Nat) (L : LsD) (l : List UInt8) : Prop where
  top : CellsAt A w [L.v]
  row : LsR A 1 5 L (l.map bv)
  ne : L.g ≠ some w

/-- What writing leaves. -/
def WdTo (A : Arena) (w : Nat) (L : LsD) (l : List UInt8) (A' : Arena) : Prop :=
  ∃ L', WdR A' w L' l ∧ (∀ k o, A.blk k = some o → k ≠ w → L.g ≠ some k → A'.blk k = some o) ∧ ∀ g, L'.g = some g → L.g = some g ∨ A.blk g = none

theorem WdTo.refl {A : Arena} {w : Nat} {L : LsD} {l : List UInt8} (h : WdR A w L l) : WdTo A w L l A := ⟨L, h, fun _ _ h _ _ => h, fun _ h => .inl h⟩

theorem WdTo.then {A A' A'' : Arena} {w : Nat} {L L' : LsD} {l : List UInt8} (h1 : ∀ k o, A.blk k = some o → k ≠ w → L.g ≠ some k → A'.blk k = some o) (h2 : ∀ g, L'.g = some g → L.g = some g ∨ A.blk g = none) (h : WdTo A' w L' l A'') : WdTo A w L l A'' := by
  obtain ⟨L9, k1, k2, k3⟩ := h
  refine ⟨L9, k1, fun k o hk hw hL => k2 k o (h1 k o hk hw hL) hw fun e => ?_, fun g hg => ?_⟩
  · rcases h2 k e with h | h
    · exact hL h
    · rw [h] at hk; cases hk
  · rcases k3 g hg with h | h
    · exact h2 g h
    · cases hA : A.blk g with
      | none => exact .inr rfl
      | some o =>
        by_cases hw : g = w
        · subst hw
          exact absurd hg k1.ne
        · by_cases hL : L.g = some g
          · exact .inl hL
          · rw [h1 g o hA hw hL] at h; cases h

theorem WdR.len {A : Arena} {w : Nat} {L : LsD} {l : List UInt8} (h : WdR A w L l) : L.n = l.length := by
  have := h.row.len
  rw [List.length_map] at this
  omega

/-- Bytes more. -/
theorem WdR.more {A A8 A7 A6 : Arena} {w : Nat} {L L9 : LsD} {l ys : List UInt8} (h : WdR A w L l) (hs : A.Sub A8) (q3 : LsR A7 1 5 L9 (l.map bv ++ ys.map bv)) (q4 : ∀ g, L9.g = some g → L.g = some g ∨ A8.blk g = none) (q5 : ∀ k o, A8.blk k = some o → L.g ≠ some k → A7.blk k = some o)
    (hP : A7.Put A6 w 0 [L9.v]) : WdTo A w L (l ++ ys) A6 := by
  obtain ⟨ow, how⟩ := h.top.dom
  have ht7 : CellsAt A7 w [L.v] := h.top.sub fun o ho => q5 w o (hs w o ho) h.ne
  have hne : L9.g ≠ some w := fun e => by
    rcases q4 w e with h1 | h1
    · exact h.ne h1
    · rw [hs w ow how] at h1; cases h1
  have ht6 : CellsAt A6 w ([L.v].take 0 ++ [L9.v] ++ [L.v].drop (0 + 1)) := ht7.put hP (Nat.le_refl 1)
  refine ⟨L9, ⟨ht6, ?_, hne⟩, fun k o hk hw hL => ?_, fun g hg => ?_⟩
  · rw [List.map_append]
    exact q3.keep fun g o hg ho => by rw [hP.other g fun e => hne (by rw [← e]; exact hg)]; exact ho
  · rw [hP.other k hw]
    exact q5 k o (hs k o hk) hL
  · rcases q4 g hg with h1 | h1
    · exact .inl h1
    · cases hA : A.blk g with
      | none => exact .inr rfl
      | some o => rw [hs g o hA] at h1; cases h1

structure WdG where
  w : Nat
  L : LsD
  l : List UInt8

def wdByteS : FSpec := ⟨WdG × UInt8, fun g vs A => vs = [.pointer (some ⟨g.1.w, 0, none⟩), bv g.2] ∧ WdR A g.1.w g.1.L g.1.l ∧ g.1.l.length ≤ 900000000, fun g _ A v A' => v = .tuple #[] ∧ WdTo A g.1.w g.1.L (g.1.l ++ [g.2]) A'⟩

set_option maxRecDepth 100000 in
set_option maxHeartbeats 0 in
theorem wdByte_ok : FOk Tryz.prog 18 wdByteS := by
  refine fok_v mixed fun ⟨⟨w, L, l⟩, b⟩ vs A hp => ?_
  obtain ⟨rfl, hW, hlen⟩ : vs = [.pointer (some ⟨w, 0, none⟩), bv b] ∧ WdR A w L l ∧ l.length ≤ 900000000 := hp
  refine ⟨noC, noL, 60, noC_sound _, noL_sound _, fun blk os out tape D hD => ?_⟩
  have hap0 := hW.row.app
  obtain ⟨base0, hbv, -⟩ := hap0
  have hn := hW.len
  have r1 : A.rd w 0 1 = some [.slice (addrA base0) L.n L.c] := by
    rw [← hbv]
    exact hW.top.rd (o := 0) (n := 1) (by show 0 + 1 ≤ 1; omega)
  conv => lhs; whnf
  repeat (first | refine go_rd r1 ?_ | refine go_D hD rfl ?_
          conv => lhs; whnf)
  refine (hD _).2 fun ge A8 hN8 => ?_
  have hN8 : A.New A8 ge #[.int .u8 b.toNat] 5 := hN8
  have hap := (hW.row.keep fun g o _ ho => hN8.sub g o ho).app
  obtain ⟨base, hbv2, hbase, hG, hcont⟩ := hap
  have hbb : base0 = base := by
    rw [hbv] at hbv2
    injection hbv2 with h1 _ _
    exact addrA_inj h1
  subst hbb
  have hPd := hG 1 1 (by omega) (by omega) (by omega)
  have hrow9 : A8.rd ge 0 (1 * 1) = some [.int .u8 b.toNat] := hN8.rd (o := 0) (n := 1 * 1) (by show 0 + 1 * 1 ≤ 1; omega)
  rcases hbase with rfl | ⟨gx, ox, rfl⟩ <;> (conv => lhs; whnf)
  all_goals
    refine (hD _).2 ⟨_, [.int .u8 b.toNat], hPd.rd, hrow9, rfl, fun v hv => by
      rw [List.mem_singleton] at hv
      rw [hv]
      rfl, ?_, hPd.cap, rfl, hPd.none_, fun g' o' he' hle' _ => hPd.room 1 rfl g' o' he' hle', fun v9 A7 hAp => ?_⟩
    · show L.n + 1 ≤ 9223372036854775807
      omega
    · have hc9 := hcont 1 [.int .u8 b.toNat] v9 A7 rfl (by omega) hAp
      obtain ⟨L9, q1, -, q3, q4, q5, -⟩ := hc9
      have hap9 := q3.app
      obtain ⟨b9, hb9, -⟩ := hap9
      rw [q1] at hb9
      subst hb9
      have hroom : A7.Room w 0 1 := by
        have h9 : CellsAt A7 w [L.v] := hW.top.sub fun o ho => q5 w o (hN8.sub w o ho) hW.ne
        exact h9.room (by show 0 + 1 ≤ 1; omega)
      conv => lhs; whnf
      repeat (first | refine go_D hD rfl ?_
              conv => lhs; whnf)
      refine (hD _).2 ⟨hroom, fun A6 hPut => ?_⟩
      have hPut : A7.Put A6 w 0 [L9.v] := by rw [q1]; exact hPut
      have hfin := hW.more (ys := [b]) hN8.sub q3 q4 q5 hPut
      conv => lhs; whnf
      exact (hD _).2 ⟨rfl, hfin⟩

end
end Go.Proofs.YthbaimobihmhiaaGreatDoor

namespace Go.Proofs.YthbaimobihmhiaaGreatDoor
open Go.Sx Go.RowKit
noncomputable section
open Classical

theorem zig_neg9 {n : Int} (h1 : -9223372036854775808 ≤ n) (h0 : n < 0) : IntKind.u64.wrap (IntKind.u64.wrap (2 * IntKind.u64.wrap (IntKind.i64.wrap (0 - IntKind.i64.wrap (n + 1)))) + 1) = (zig n : Int) := by
  rw [Int.zero_sub]
  exact zig_ref_neg h1 h0

theorem rem_128 (u : Nat) : IntKind.u8.wrap (IntKind.u8.wrap ((u : Int).tmod 128) + 128) = (((UInt8.ofNat (u % 128 + 128)).toNat : Nat) : Int) := by
  have hw : ∀ m : Int, IntKind.u8.wrap m = m % 256 := fun _ => rfl
  rw [UInt8.toNat_ofNat_of_lt' (by omega : u % 128 + 128 < 256), Int.tmod_eq_emod_of_nonneg (by omega), hw, hw]
  omega

theorem quo_128 {u : Nat} (h : u < 18446744073709551616) : IntKind.u64.wrap ((u : Int).tdiv 128) = ((u / 128 : Nat) : Int) := by
  rw [Int.tdiv_eq_ediv_of_nonneg (by omega), u64_wrap (by omega) (by omega)]
  omega

structure WjS where
  A : Arena
  L : LsD
  l : List UInt8
  u : Nat
  f : Nat

def wjInv (A0 : Arena) (w : Nat) (L0 : LsD) (T : List UInt8) : LInv :=
  { γ := WjS, G := fun s => WdR s.A w s.L s.l ∧ VI T s.l s.u s.f ∧ (∀ k o, A0.blk k = some o → k ≠ w → L0.g ≠ some k → s.A.blk k = some o) ∧ (∀ g, s.L.g = some g → L0.g = some g ∨ A0.blk g = none) ∧ s.u < 18446744073709551616,
    keepS := [0], keepB := [], sl := fun s => [(4, .v (.int .u64 s.u))], bl := fun _ => [], ar := fun s => s.A, mu := fun s => s.u }

structure WjG where
  w : Nat
  L : LsD
  l : List UInt8
  n : Int

def wdIntS : FSpec := ⟨WjG, fun g vs A => vs = [.pointer (some ⟨g.w, 0, none⟩), .int .i64 g.n] ∧ WdR A g.w g.L g.l ∧ g.l.length ≤ 880000000 ∧ -9223372036854775808 ≤ g.n ∧ g.n ≤ 9223372036854775807, fun g _ A v A' => v = .tuple #[] ∧ WdTo A g.w g.L (g.l ++ vints g.n) A'⟩

set_option maxRecDepth 100000 in
set_option maxHeartbeats 0 in
theorem wdInt_ok : FOk Tryz.prog 19 wdIntS := by
  refine fok_v mixed fun ⟨w, L, l, n⟩ vs A hp => ?_
  obtain ⟨rfl, hW, hlen, hn1, hn2⟩ : vs = [.pointer (some ⟨w, 0, none⟩), .int .i64 n] ∧ WdR A w L l ∧ l.length ≤ 880000000 ∧ -9223372036854775808 ≤ n ∧ n ≤ 9223372036854775807 := hp
  refine ⟨_, tabO Tryz.prog _ noL 60 [(19, 0)], 60, noC_sound _, tabO_sound mixed (noC_sound _) (noL_sound _) _ _, fun blk os out tape D hD => ?_⟩
  conv => lhs; whnf
  repeat (first | refine go_D hD rfl ?_
          conv => lhs; whnf)
  refine split_dec (fun h => ?_) (fun h => ?_) <;> (conv => lhs; whnf)
  all_goals
    repeat (first | refine go_D hD rfl ?_
            conv => lhs; whnf)
  all_goals
    have hG0 : (wjInv A w L (l ++ vints n)).G ⟨A, L, l, zig n, 9⟩ := ⟨hW, VI.start hn1 hn2 l, fun _ _ h _ _ => h, fun _ h => .inl h, zig_lt hn1 hn2⟩
    refine (hD _).2 ⟨wjInv A w L (l ++ vints n), ⟨(⟨A, L, l, zig n, 9⟩ : WjS), hG0, ⟨(by first | exact congrArg (fun x : Int => some (SV.v (.int .u64 x))) (zig_neg9 hn1 h) | exact congrArg (fun x : Int => some (SV.v (.int .u64 x))) (zig_ref_pos hn2 (Int.not_lt.1 h))), trivial⟩, trivial, rfl⟩, fun (s : WjS) hG => ⟨⟨trivial, trivial⟩, trivial, ?_⟩⟩
    clear hG0
    obtain ⟨A1, L1, l1, u, f⟩ := s
    obtain ⟨hW1, hV, hk1, hg1, hu64⟩ : WdR A1 w L1 l1 ∧ VI (l ++ vints n) l1 u f ∧ (∀ k o, A.blk k = some o → k ≠ w → L.g ≠ some k → A1.blk k = some o) ∧ (∀ g, L1.g = some g → L.g = some g ∨ A.blk g = none) ∧ u < 18446744073709551616 := hG
    have hTl : (l ++ vints n).length ≤ 880000010 := by
      have := vput_len 9 (zig n)
      rw [List.length_append]
      show l.length + (vput 9 (zig n)).length ≤ _
      omega
    have hll := hV.len
    have hap0 := hW1.row.app
    obtain ⟨base0, hbv, -⟩ := hap0
    have hn := hW1.len
    have r1 : A1.rd w 0 1 = some [.slice (addrA base0) L1.n L1.c] := by
      rw [← hbv]
      exact hW1.top.rd (o := 0) (n := 1) (by show 0 + 1 ≤ 1; omega)
    conv => lhs; whnf
    repeat (first | refine go_D hD rfl ?_
            conv => lhs; whnf)
    refine split_dec (fun h => ?_) (fun h => ?_)
    · have h : (128 : Int) ≤ (u : Int) := h
      have hu : 128 ≤ u := by omega
      have hb : IntKind.u8.wrap (IntKind.u8.wrap ((u : Int).tmod 128) + 128) = (((UInt8.ofNat (u % 128 + 128)).toNat : Nat) : Int) := rem_128 u
      conv => lhs; whnf
      repeat (first | refine go_rd r1 ?_ | refine go_D hD rfl ?_
              conv => lhs; whnf)
      refine (hD _).2 fun ge A8 hN8 => ?_
      have hN8 : A1.New A8 ge #[.int .u8 (IntKind.u8.wrap (IntKind.u8.wrap ((u : Int).tmod 128) + 128))] 5 := hN8
      rw [hb] at hN8
      have hap := (hW1.row.keep fun g o _ ho => hN8.sub g o ho).app
      obtain ⟨base, hbv2, hbase, hG, hcont⟩ := hap
      have hbb : base0 = base := by
        rw [hbv] at hbv2
        injection hbv2 with h1 _ _
        exact addrA_inj h1
      subst hbb
      have hPd := hG 1 1 (by omega) (by omega) (by omega)
      have hrow9 : A8.rd ge 0 (1 * 1) = some [.int .u8 (UInt8.ofNat (u % 128 + 128)).toNat] := hN8.rd (o := 0) (n := 1 * 1) (by show 0 + 1 * 1 ≤ 1; omega)
      rcases hbase with rfl | ⟨gx, ox, rfl⟩ <;> (conv => lhs; whnf)
      all_goals
        refine (hD _).2 ⟨_, [.int .u8 (UInt8.ofNat (u % 128 + 128)).toNat], hPd.rd, hrow9, rfl, fun v hv => by
          rw [List.mem_singleton] at hv
          rw [hv]
          rfl, ?_, hPd.cap, rfl, hPd.none_, fun g' o' he' hle' _ => hPd.room 1 rfl g' o' he' hle', fun v9 A7 hAp => ?_⟩
        · show L1.n + 1 ≤ 9223372036854775807
          omega
        · have hc9 := hcont 1 [.int .u8 (UInt8.ofNat (u % 128 + 128)).toNat] v9 A7 rfl (by omega) hAp
          obtain ⟨L9, q1, -, q3, q4, q5, -⟩ := hc9
          have hap9 := q3.app
          obtain ⟨b9, hb9, -⟩ := hap9
          rw [q1] at hb9
          subst hb9
          have hroom : A7.Room w 0 1 := by
            have h9 : CellsAt A7 w [L1.v] := hW1.top.sub fun o ho => q5 w o (hN8.sub w o ho) hW1.ne
            exact h9.room (by show 0 + 1 ≤ 1; omega)
          conv => lhs; whnf
          repeat (first | refine go_D hD rfl ?_
                  conv => lhs; whnf)
          refine (hD _).2 ⟨hroom, fun A6 hPut => ?_⟩
          have hPut : A7.Put A6 w 0 [L9.v] := by rw [q1]; exact hPut
          have hfin := hW1.more (ys := [UInt8.ofNat (u % 128 + 128)]) hN8.sub q3 q4 q5 hPut
          obtain ⟨L2, hW2, hk2, hg2⟩ := hfin
          have hnx := hV.next hu
          obtain ⟨f', hV2⟩ := hnx
          have hk3 : ∀ k o, A.blk k = some o → k ≠ w → L.g ≠ some k → A6.blk k = some o := fun k o hk hw hL => hk2 k o (hk1 k o hk hw hL) hw fun e => (hg1 k e).elim hL fun h9 => (by rw [h9] at hk; cases hk)
          have hg3 : ∀ g, L2.g = some g → L.g = some g ∨ A.blk g = none := fun g hg => by
            rcases hg2 g hg with h9 | h9
            · exact hg1 g h9
            · cases hA : A.blk g with
              | none => exact .inr rfl
              | some o =>
                by_cases hw : g = w
                · subst hw
                  exact absurd hg hW2.ne
                · by_cases hL : L.g = some g
                  · exact .inl hL
                  · rw [hk1 g o hA hw hL] at h9; cases h9
          have hG2 : (wjInv A w L (l ++ vints n)).G ⟨A6, L2, l1 ++ [UInt8.ofNat (u % 128 + 128)], u / 128, f'⟩ := ⟨hW2, hV2, hk3, hg3, by show u / 128 < 18446744073709551616; omega⟩
          conv => lhs; whnf
          repeat (first | refine go_D hD rfl ?_
                  conv => lhs; whnf)
          exact (hD _).2 ⟨(⟨A6, L2, l1 ++ [UInt8.ofNat (u % 128 + 128)], u / 128, f'⟩ : WjS), ⟨hG2, ⟨congrArg (fun x : Int => some (SV.v (.int .u64 x))) (quo_128 hu64), trivial⟩, trivial, rfl⟩, by show u / 128 < u; omega, ⟨same1 rfl rfl, trivial⟩, trivial⟩
    · have h : ¬ (128 : Int) ≤ (u : Int) := h
      have hu : u < 128 := by omega
      have hb : IntKind.u8.wrap (u : Int) = (((UInt8.ofNat u).toNat : Nat) : Int) := by
        rw [u8_wrap, UInt8.toNat_ofNat_of_lt' (by omega : u < 256)]
        omega
      conv => lhs; whnf
      repeat (first | refine go_rd r1 ?_ | refine go_D hD rfl ?_
              conv => lhs; whnf)
      refine (hD _).2 fun ge A8 hN8 => ?_
      have hN8 : A1.New A8 ge #[.int .u8 (IntKind.u8.wrap (u : Int))] 5 := hN8
      rw [hb] at hN8
      have hap := (hW1.row.keep fun g o _ ho => hN8.sub g o ho).app
      obtain ⟨base, hbv2, hbase, hG, hcont⟩ := hap
      have hbb : base0 = base := by
        rw [hbv] at hbv2
        injection hbv2 with h1 _ _
        exact addrA_inj h1
      subst hbb
      have hPd := hG 1 1 (by omega) (by omega) (by omega)
      have hrow9 : A8.rd ge 0 (1 * 1) = some [.int .u8 (UInt8.ofNat u).toNat] := hN8.rd (o := 0) (n := 1 * 1) (by show 0 + 1 * 1 ≤ 1; omega)
      rcases hbase with rfl | ⟨gx, ox, rfl⟩ <;> (conv => lhs; whnf)
      all_goals
        refine (hD _).2 ⟨_, [.int .u8 (UInt8.ofNat u).toNat], hPd.rd, hrow9, rfl, fun v hv => by
          rw [List.mem_singleton] at hv
          rw [hv]
          rfl, ?_, hPd.cap, rfl, hPd.none_, fun g' o' he' hle' _ => hPd.room 1 rfl g' o' he' hle', fun v9 A7 hAp => ?_⟩
        · show L1.n + 1 ≤ 9223372036854775807
          omega
        · have hc9 := hcont 1 [.int .u8 (UInt8.ofNat u).toNat] v9 A7 rfl (by omega) hAp
          obtain ⟨L9, q1, -, q3, q4, q5, -⟩ := hc9
          have hap9 := q3.app
          obtain ⟨b9, hb9, -⟩ := hap9
          rw [q1] at hb9
          subst hb9
          have hroom : A7.Room w 0 1 := by
            have h9 : CellsAt A7 w [L1.v] := hW1.top.sub fun o ho => q5 w o (hN8.sub w o ho) hW1.ne
            exact h9.room (by show 0 + 1 ≤ 1; omega)
          conv => lhs; whnf
          repeat (first | refine go_D hD rfl ?_
                  conv => lhs; whnf)
          refine (hD _).2 ⟨hroom, fun A6 hPut => ?_⟩
          have hPut : A7.Put A6 w 0 [L9.v] := by rw [q1]; exact hPut
          have hfin := hW1.more (ys := [UInt8.ofNat u]) hN8.sub q3 q4 q5 hPut
          rw [hV.last hu] at hfin
          have hend : wdIntS.post ⟨w, L, l, n⟩ [] A (.tuple #[]) A6 := ⟨rfl, WdTo.then hk1 hg1 hfin⟩
          conv => lhs; whnf
          repeat (first | refine go_D hD rfl ?_
                  conv => lhs; whnf)
          exact (hD _).2 hend

end
end Go.Proofs.YthbaimobihmhiaaGreatDoor

namespace Go.Proofs.YthbaimobihmhiaaGreatDoor
open Go.Sx Go.RowKit
noncomputable section
open Classical

structure WtG where
  w : Nat
  L : LsD
  l : List UInt8
  s : List UInt8

def wdTextS : FSpec := ⟨WtG, fun g vs A => vs = [.pointer (some ⟨g.w, 0, none⟩), .string ⟨g.s.toArray⟩] ∧ WdR A g.w g.L g.l ∧ g.l.length + g.s.length ≤ 880000000, fun g _ A v A' => v = .tuple #[] ∧ WdTo A g.w g.L (g.l ++ vints g.s.length ++ g.s) A'⟩

set_option maxRecDepth 100000 in
set_option maxHeartbeats 0 in
theorem wdText_ok : FOk Tryz.prog 20 wdTextS := by
  refine fok_v mixed fun ⟨w, L, l, s⟩ vs A hp => ?_
  obtain ⟨rfl, hW, hlen⟩ : vs = [.pointer (some ⟨w, 0, none⟩), .string ⟨s.toArray⟩] ∧ WdR A w L l ∧ l.length + s.length ≤ 880000000 := hp
  have hC : CTSound Tryz.prog (lookC [specE 19 wdIntS] noC) := lookC_sound (noC_sound _) (fun x hx => by
    simp only [List.mem_singleton] at hx
    subst hx
    exact specE_ok wdInt_ok)
  refine ⟨_, noL, 60, hC, noL_sound _, fun blk os out tape D hD => ?_⟩
  have hvl : (vints s.length).length ≤ 10 := vput_len 9 (zig s.length)
  conv => lhs; whnf
  repeat (first | refine go_D hD rfl ?_
          conv => lhs; whnf)
  refine (hD _).2 ⟨(⟨w, L, l, (s.length : Int)⟩ : WjG), ⟨rfl, hW, by show l.length ≤ 880000000; omega, by show -9223372036854775808 ≤ (s.length : Int); omega, by show (s.length : Int) ≤ 9223372036854775807; omega⟩, fun v A1 hq => ?_⟩
  obtain ⟨hv, L1, hW1, hk1, hg1⟩ : v = .tuple #[] ∧ WdTo A w L (l ++ vints s.length) A1 := hq
  subst hv
  have hap0 := hW1.row.app
  obtain ⟨base0, hbv, hbase, hG, hcont⟩ := hap0
  have hn := hW1.len
  rw [List.length_append] at hn
  have r1 : A1.rd w 0 1 = some [.slice (addrA base0) L1.n L1.c] := by
    rw [← hbv]
    exact hW1.top.rd (o := 0) (n := 1) (by show 0 + 1 ≤ 1; omega)
  have e10 : s.length = s.length := rfl
  by_cases hs : s = []
  · subst hs
    have hle : L1.n ≤ L1.c := by
      rcases hW1.row with ⟨_, h2, _⟩ | ⟨g, _, _, _, h5⟩
      · omega
      · exact h5.le
    have hP1 := hG 1 1 (by omega) (by show L1.n + 1 ≤ _; omega) (by omega)
    rcases hbase with rfl | ⟨gx, ox, rfl⟩ <;> (conv => lhs; whnf)
    all_goals
      repeat (first | refine go_rd r1 ?_ | refine go_D hD rfl ?_
              conv => lhs; whnf)
      refine (hD _).2 ⟨_, [], hP1.rd, src_str rfl, rfl, fun v hv => (by cases hv), (by show L1.n + 0 ≤ 9223372036854775807; omega), fun h => absurd h (by show ¬ L1.c < L1.n + 0; omega), rfl, hP1.none_, fun _ _ _ _ h => absurd rfl h, fun v9 A7 hAp => ?_⟩
      have hsame : ∀ k, A7.blk k = A1.blk k := by
        rcases hAp with ⟨_, _, ⟨_, rfl⟩ | ⟨g, o, _, hP⟩⟩ | ⟨h, _⟩
        · exact fun _ => rfl
        · exact put_nil hP
        · exact absurd h (by show ¬ L1.c < L1.n + 0; omega)
      have hv9 : v9 = L1.v := by
        rcases hAp with ⟨_, h, _⟩ | ⟨h, _⟩
        · exact h.trans hbv.symm
        · exact absurd h (by show ¬ L1.c < L1.n + 0; omega)
      have hv9 := hv9.trans hbv
      subst hv9
      have ht7 : CellsAt A7 w [L1.v] := hW1.top.sub fun o ho => (hsame w).trans ho
      conv => lhs; whnf
      repeat (first | refine go_D hD rfl ?_
              conv => lhs; whnf)
      refine (hD _).2 ⟨ht7.room (by show 0 + 1 ≤ 1; omega), fun A6 hPut => ?_⟩
      have hPut : A7.Put A6 w 0 [L1.v] := by rw [hbv]; exact hPut
      have ht6 : CellsAt A6 w [L1.v] := ht7.put hPut (Nat.le_refl 1)
      have hW6 : WdR A6 w L1 (l ++ vints ((([] : List UInt8).length : Nat) : Int) ++ []) := by
        rw [List.append_nil]
        exact ⟨ht6, hW1.row.keep fun g o hg ho => by rw [hPut.other g fun e => hW1.ne (by rw [← e]; exact hg), hsame g]; exact ho, hW1.ne⟩
      have hfin : WdTo A1 w L1 (l ++ vints ((([] : List UInt8).length : Nat) : Int) ++ []) A6 := ⟨L1, hW6, fun k o hk hw _ => by rw [hPut.other k hw, hsame k]; exact hk, fun g hg => .inl hg⟩
      have hend : wdTextS.post ⟨w, L, l, []⟩ [] A (.tuple #[]) A6 := ⟨rfl, WdTo.then hk1 hg1 hfin⟩
      conv => lhs; whnf
      repeat (first | refine go_D hD rfl ?_
              conv => lhs; whnf)
      exact (hD _).2 hend
  have hpos : 0 < s.length := by
    cases s with
    | nil => exact absurd rfl hs
    | cons x xs => simp
  have hPd := hG s.length 1 (by omega) (by omega) hpos
  rcases hbase with rfl | ⟨gx, ox, rfl⟩ <;> (conv => lhs; whnf)
  all_goals
    repeat (first | refine go_rd r1 ?_ | refine go_D hD rfl ?_
            conv => lhs; whnf)
    refine (hD _).2 ⟨_, s.map bv, hPd.rd, src_str rfl, by rw [List.length_map]; exact (Nat.mul_one _).symm, bv_one s, ?_, hPd.cap, rfl, hPd.none_, fun g' o' he' hle' _ => hPd.room (s.map bv).length (by rw [List.length_map, Nat.mul_one]) g' o' he' hle', fun v9 A7 hAp => ?_⟩
    · show L1.n + s.length ≤ 9223372036854775807
      omega
    · have hc9 := hcont s.length (s.map bv) v9 A7 (by rw [List.length_map, Nat.mul_one]) hpos hAp
      obtain ⟨L9, q1, -, q3, q4, q5, -⟩ := hc9
      have hap9 := q3.app
      obtain ⟨b9, hb9, -⟩ := hap9
      rw [q1] at hb9
      subst hb9
      have hroom : A7.Room w 0 1 := by
        have h9 : CellsAt A7 w [L1.v] := hW1.top.sub fun o ho => q5 w o ho hW1.ne
        exact h9.room (by show 0 + 1 ≤ 1; omega)
      conv => lhs; whnf
      repeat (first | refine go_D hD rfl ?_
              conv => lhs; whnf)
      refine (hD _).2 ⟨hroom, fun A6 hPut => ?_⟩
      have hPut : A7.Put A6 w 0 [L9.v] := by rw [q1]; exact hPut
      have hfin := hW1.more (ys := s) (Arena.Sub.refl _) q3 q4 q5 hPut
      have hend : wdTextS.post ⟨w, L, l, s⟩ [] A (.tuple #[]) A6 := ⟨rfl, WdTo.then hk1 hg1 hfin⟩
      conv => lhs; whnf
      repeat (first | refine go_D hD rfl ?_
              conv => lhs; whnf)
      exact (hD _).2 hend

end
end Go.Proofs.YthbaimobihmhiaaGreatDoor

namespace Go.Proofs.YthbaimobihmhiaaGreatDoor
open Go.Sx Go.RowKit
noncomputable section
open Classical

def wdBytesS : FSpec := ⟨WtG, fun g vs A => ∃ x, vs = [.pointer (some ⟨g.w, 0, none⟩), x] ∧ WdR A g.w g.L g.l ∧ g.l.length + g.s.length ≤ 880000000 ∧ Sl A 1 g.s.length x (g.s.map bv), fun g _ A v A' => v = .tuple #[] ∧ WdTo A g.w g.L (g.l ++ vints g.s.length ++ g.s) A'⟩

set_option maxRecDepth 100000 in
set_option maxHeartbeats 0 in
theorem wdBytes_ok : FOk Tryz.prog 21 wdBytesS := by
  refine fok_v mixed fun ⟨w, L, l, s⟩ vs A hp => ?_
  obtain ⟨x, rfl, hW, hlen, ⟨ao, c, rfl, hc, -, ha1, ha2, ha3⟩⟩ : ∃ x, vs = [.pointer (some ⟨w, 0, none⟩), x] ∧ WdR A w L l ∧ l.length + s.length ≤ 880000000 ∧ Sl A 1 s.length x (s.map bv) := hp
  have hC : CTSound Tryz.prog (lookC [specE 20 wdTextS] noC) := lookC_sound (noC_sound _) (fun x hx => by
    simp only [List.mem_singleton] at hx
    subst hx
    exact specE_ok wdText_ok)
  refine ⟨_, noL, 60, hC, noL_sound _, fun blk os out tape D hD => ?_⟩
  by_cases hs : s = []
  · subst hs
    cases ao with
    | none =>
      conv => lhs; whnf
      refine (hD _).2 ⟨(⟨w, L, l, []⟩ : WtG), ⟨rfl, hW, hlen⟩, fun v A' hq => ?_⟩
      obtain ⟨hv, hto⟩ : v = .tuple #[] ∧ WdTo A w L (l ++ vints ((([] : List UInt8).length : Nat) : Int) ++ []) A' := hq
      subst hv
      have hend : wdBytesS.post ⟨w, L, l, []⟩ [] A (.tuple #[]) A' := ⟨rfl, hto⟩
      conv => lhs; whnf
      exact (hD _).2 hend
    | some a =>
      conv => lhs; whnf
      refine (hD _).2 ⟨(⟨w, L, l, []⟩ : WtG), ⟨rfl, hW, hlen⟩, fun v A' hq => ?_⟩
      obtain ⟨hv, hto⟩ : v = .tuple #[] ∧ WdTo A w L (l ++ vints ((([] : List UInt8).length : Nat) : Int) ++ []) A' := hq
      subst hv
      have hend : wdBytesS.post ⟨w, L, l, []⟩ [] A (.tuple #[]) A' := ⟨rfl, hto⟩
      conv => lhs; whnf
      exact (hD _).2 hend
  · have hpos : 0 < s.length := List.length_pos_iff.2 hs
    have hsrc := Sl.at_ hc ha1 ha2 ha3 hpos
    obtain ⟨gx, ox, e, hra⟩ := hsrc
    subst e
    rw [Nat.mul_one] at hra
    have hz : Nat.beq s.length 0 = false := beq_ne (by omega)
    conv => lhs; whnf
    refine split_b (fun h => absurd (hz.symm.trans h) Bool.false_ne_true) (fun _ => ?_)
    conv => lhs; whnf
    refine go_rd hra ?_
    conv => lhs; whnf
    refine go_by (bytesVs_u8 s) ?_
    conv => lhs; whnf
    refine (hD _).2 ⟨(⟨w, L, l, s⟩ : WtG), ⟨rfl, hW, hlen⟩, fun v A' hq => ?_⟩
    obtain ⟨hv, hto⟩ : v = .tuple #[] ∧ WdTo A w L (l ++ vints s.length ++ s) A' := hq
    subst hv
    have hend : wdBytesS.post ⟨w, L, l, s⟩ [] A (.tuple #[]) A' := ⟨rfl, hto⟩
    conv => lhs; whnf
    repeat (first | refine go_rd hra ?_ | refine go_D hD rfl ?_
            conv => lhs; whnf)
    exact (hD _).2 hend

/-- A writer that is new behind A0. -/
def WdN (A0 A : Arena) (w : Nat) (l : List UInt8) : Prop := A0.Sub A ∧ A0.blk w = none ∧ ∃ L, WdR A w L l ∧ ∀ g, L.g = some g → A0.blk g = none

theorem WdN.to {A0 A A' : Arena} {w : Nat} {L : LsD} {l' : List UInt8} (hs : A0.Sub A) (hw : A0.blk w = none) (hg : ∀ g, L.g = some g → A0.blk g = none) (h : WdTo A w L l' A') : WdN A0 A' w l' := by
  obtain ⟨L', h1, h2, h3⟩ := h
  refine ⟨fun k o hk => h2 k o (hs k o hk) (fun e => (by rw [e, hw] at hk; cases hk)) fun e => (by rw [hg k e] at hk; cases hk), hw, L', h1, fun g hg' => ?_⟩
  rcases h3 g hg' with h | h
  · exact hg g h
  · exact none_of hs h

theorem WdN.grow {A0 A A' : Arena} {w : Nat} {l : List UInt8} (h : WdN A0 A w l) (hs : A.Sub A') : WdN A0 A' w l := by
  obtain ⟨h1, h2, L, ⟨k1, k2, k3⟩, h4⟩ := h
  exact ⟨h1.trans hs, h2, L, ⟨k1.sub fun o ho => hs w o ho, k2.keep fun g o _ ho => hs g o ho, k3⟩, h4⟩

theorem WdN.new {A0 A A' : Arena} {w : Nat} {c : Array Value} {t : TypeId} (h0 : A0.Sub A) (h : A.New A' w c t) (hc : c.toList = [.slice none 0 0]) : WdN A0 A' w [] :=
  ⟨h0.trans h.sub, none_of h0 h.none_, ⟨.slice none 0 0, 0, 0, none⟩, ⟨⟨c, t, (0, 0), h.at_, .inl rfl, hc⟩, .inl ⟨rfl, rfl, rfl, rfl, none, rfl⟩, fun e => (by cases e)⟩, fun g e => (by cases e)⟩

def mByteS : FSpec := ⟨NwG × UInt8, fun g vs A => vs = [.pointer (some ⟨g.1.w, 0, none⟩), .int .u8 g.2.toNat] ∧ WdN g.1.A0 A g.1.w g.1.l ∧ g.1.l.length ≤ 880000000, fun g _ _ v A' => v = .tuple #[] ∧ WdN g.1.A0 A' g.1.w (g.1.l ++ [g.2])⟩

theorem mByte_ok : FOk Tryz.prog 18 mByteS := fok_weak wdByte_ok fun ⟨⟨_, w, l⟩, b⟩ _ _ ⟨h1, ⟨h2, h3, L, h4, h5⟩, h6⟩ =>
  ⟨⟨⟨w, L, l⟩, b⟩, ⟨h1, h4, by have h6 : l.length ≤ 880000000 := h6; show l.length ≤ 900000000; omega⟩, fun _ _ ⟨k1, k2⟩ => ⟨k1, WdN.to h2 h3 h5 k2⟩⟩

def mIntS : FSpec := ⟨NwG × Int, fun g vs A => vs = [.pointer (some ⟨g.1.w, 0, none⟩), .int .i64 g.2] ∧ WdN g.1.A0 A g.1.w g.1.l ∧ g.1.l.length ≤ 880000000 ∧ -9223372036854775808 ≤ g.2 ∧ g.2 ≤ 9223372036854775807, fun g _ _ v A' => v = .tuple #[] ∧ WdN g.1.A0 A' g.1.w (g.1.l ++ vints g.2)⟩

theorem mInt_ok : FOk Tryz.prog 19 mIntS := fok_weak wdInt_ok fun ⟨⟨_, w, l⟩, n⟩ _ _ ⟨h1, ⟨h2, h3, L, h4, h5⟩, h6⟩ =>
  ⟨⟨w, L, l, n⟩, ⟨h1, h4, h6⟩, fun _ _ ⟨k1, k2⟩ => ⟨k1, WdN.to h2 h3 h5 k2⟩⟩

def mTextS : FSpec := ⟨NwG × List UInt8, fun g vs A => vs = [.pointer (some ⟨g.1.w, 0, none⟩), .string ⟨g.2.toArray⟩] ∧ WdN g.1.A0 A g.1.w g.1.l ∧ g.1.l.length + g.2.length ≤ 880000000, fun g _ _ v A' => v = .tuple #[] ∧ WdN g.1.A0 A' g.1.w (g.1.l ++ vints g.2.length ++ g.2)⟩

theorem mText_ok : FOk Tryz.prog 20 mTextS := fok_weak wdText_ok fun ⟨⟨_, w, l⟩, s⟩ _ _ ⟨h1, ⟨h2, h3, L, h4, h5⟩, h6⟩ =>
  ⟨⟨w, L, l, s⟩, ⟨h1, h4, h6⟩, fun _ _ ⟨k1, k2⟩ => ⟨k1, WdN.to h2 h3 h5 k2⟩⟩

def mBytesS : FSpec := ⟨NwG × List UInt8, fun g vs A => ∃ x, vs = [.pointer (some ⟨g.1.w, 0, none⟩), x] ∧ WdN g.1.A0 A g.1.w g.1.l ∧ g.1.l.length + g.2.length ≤ 880000000 ∧ Sl A 1 g.2.length x (g.2.map bv), fun g _ _ v A' => v = .tuple #[] ∧ WdN g.1.A0 A' g.1.w (g.1.l ++ vints g.2.length ++ g.2)⟩

theorem mBytes_ok : FOk Tryz.prog 21 mBytesS := fok_weak wdBytes_ok fun ⟨⟨_, w, l⟩, s⟩ _ _ ⟨x, h1, ⟨h2, h3, L, h4, h5⟩, h6, h7⟩ =>
  ⟨⟨w, L, l, s⟩, ⟨x, h1, h4, h6, h7⟩, fun _ _ ⟨k1, k2⟩ => ⟨k1, WdN.to h2 h3 h5 k2⟩⟩

/-- All that was put, in a row of its own. -/
def mDoneS : FSpec := ⟨NwG, fun g vs A => vs = [.pointer (some ⟨g.w, 0, none⟩)] ∧ WdN g.A0 A g.w g.l ∧ g.l.length ≤ 890000000, fun g _ A v A' => A.Sub A' ∧ SlB (A'.minus A) v g.l⟩

set_option maxRecDepth 100000 in
set_option maxHeartbeats 0 in
theorem mDone_ok : FOk Tryz.prog 24 mDoneS := by
  refine fok_v mixed fun ⟨A0, w, l⟩ vs A hp => ?_
  obtain ⟨rfl, ⟨h1, h2, L, hW, h5⟩, hlen⟩ : vs = [.pointer (some ⟨w, 0, none⟩)] ∧ WdN A0 A w l ∧ l.length ≤ 890000000 := hp
  refine ⟨noC, noL, 60, noC_sound _, noL_sound _, fun blk os out tape D hD => ?_⟩
  have hL := hW.len
  have hap0 := hW.row.app
  obtain ⟨base0, hbv, hbase, hG, -⟩ := hap0
  have r1 : A.rd w 0 1 = some [.slice (addrA base0) L.n L.c] := by
    rw [← hbv]
    exact hW.top.rd (o := 0) (n := 1) (by show 0 + 1 ≤ 1; omega)
  have hsrc : ∀ {A1 : Arena}, A.Sub A1 → L.n = 0 ∨ ∃ g, base0 = some (g, 0) ∧ A1.rd g 0 (L.n * 1) = some (l.map bv) := fun {A1} hs => by
    rcases hW.row with ⟨_, k2, _⟩ | ⟨g, k1, k2, k3, k5⟩
    · exact .inl k2
    · refine .inr ⟨g, ?_, rd_sub hs k5.rd⟩
      rw [hbv] at k2
      injection k2 with k2 _ _
      exact addrA_inj (b' := some (g, 0)) k2
  rcases hbase with rfl | ⟨gx, ox, rfl⟩
  all_goals
    conv => lhs; whnf
    repeat (first | refine go_rd r1 ?_ | refine go_D hD rfl ?_
            conv => lhs; whnf)
    refine (hD _).2 fun g1 A1 hN => ?_
    have hN : A.New A1 g1 #[] 5 := hN
    have hy : (l.map bv).length = L.n * 1 := by rw [List.length_map]; omega
    have r2 := rd_sub hN.sub r1
    conv => lhs; whnf
    repeat (first | refine go_rd r2 ?_ | refine go_D hD rfl ?_
            conv => lhs; whnf)
    refine (hD _).2 ⟨[], l.map bv, rfl, ?_, hy, bv_one l, by show 0 + L.n ≤ _; omega, fun h0 => ?_, rfl, fun h => (by cases h), fun _ _ _ h1 h2 => ?_, fun v A2 hA => ?_⟩
    · rcases hsrc hN.sub with h0 | ⟨g, e, hr⟩
      · rw [show l.map bv = [] from List.length_eq_zero_iff.1 (by rw [hy]; omega)]
        exact src_none h0
      · by_cases h0 : L.n = 0
        · rw [show l.map bv = [] from List.length_eq_zero_iff.1 (by rw [hy]; omega)]
          exact src_none h0
        · first
          | (cases e; done)
          | (injection e with e; injection e with e1 e2; subst e1; subst e2; exact src_row h0 hr)
    · have h0 : 0 < 0 + L.n := h0
      show Builtin.nextslicecap (0 + L.n) 0 * 1 ≤ _
      rw [nextcap0 h0]
      omega
    · exfalso
      have h1 : 0 + L.n ≤ 0 := h1
      exact h2 (List.length_eq_zero_iff.1 (by rw [hy]; omega))
    · have hce := clone_end hN.sub hA hy
      obtain ⟨k1, k2⟩ := hce
      rw [hL] at k2
      have hend : mDoneS.post ⟨A0, w, l⟩ [] A v A2 := ⟨k1, k2, by show l.length ≤ 140737488351232; omega⟩
      conv => lhs; whnf
      exact (hD _).2 hend

end
end Go.Proofs.YthbaimobihmhiaaGreatDoor

namespace Go.Proofs.YthbaimobihmhiaaGreatDoor
open Go.Sx Go.RowKit
noncomputable section
open Classical

def alWd : TypeId → Bool := fun t => Nat.beq t 76

structure EwG where
  A0 : Arena
  w : Nat
  l : List UInt8
  ver : Int
  ms : List MemD

def EwOk (ver : Int) (ms : List MemD) : Prop := ms.length ≤ 7 ∧ 0 ≤ ver ∧ ver ≤ 4611686018427387904 ∧ ∀ m ∈ ms, MemIn m

def ensWrS : FSpec := ⟨EwG, fun g vs A => ∃ vm, vs = [.pointer (some ⟨g.w, 0, none⟩), .agg #[.int .i64 g.ver, vm]] ∧ WdN g.A0 A g.w g.l ∧ MemR g.A0 vm g.ms ∧ EwOk g.ver g.ms ∧ g.l.length ≤ 800000000, fun g _ _ v A' => v = .tuple #[] ∧ WdN g.A0 A' g.w (g.l ++ ensB g.ver g.ms)⟩

def ensWrInv (A0 : Arena) (w : Nat) (l : List UInt8) (ver : Int) (ms : List MemD) : LInv :=
  { γ := Nat × Arena, G := fun s => s.1 ≤ ms.length ∧ WdN A0 s.2 w (l ++ vints ver ++ vints ms.length ++ (ms.take s.1).flatMap memB),
    keepS := [0, 3], keepB := [0], sl := fun s => [(4, .v (.int .i64 s.1))], bl := fun _ => [], ar := fun s => s.2, mu := fun s => ms.length - s.1 }

set_option maxRecDepth 100000 in
set_option maxHeartbeats 0 in
theorem ensWr_ok : FOk Tryz.prog 42 ensWrS := by
  refine fok_v mixed fun ⟨A0, w, l, ver, ms⟩ vs A hp => ?_
  obtain ⟨vm, rfl, hW0, hM, ⟨h7, hv0, hv1, hmi⟩, hl⟩ : ∃ vm, vs = [.pointer (some ⟨w, 0, none⟩), .agg #[.int .i64 ver, vm]] ∧ WdN A0 A w l ∧ MemR A0 vm ms ∧ EwOk ver ms ∧ l.length ≤ 800000000 := hp
  obtain ⟨⟨ao, c, rfl, hc, hml, ha1, ha2, ha3⟩, hm32⟩ := hM
  have hC : CTSound Tryz.prog (lookC [specE 19 mIntS] noC) := lookC_sound (noC_sound _) (fun x hx => by
    simp only [List.mem_singleton] at hx
    subst hx
    exact specE_ok mInt_ok)
  refine ⟨_, tabO Tryz.prog _ noL 60 [(42, 0)], 60, hC, tabO_sound mixed hC (noL_sound _) _ _, fun blk os out tape D hD => ?_⟩
  have hlv := vints_le ver
  have hln := vints_le (ms.length : Int)
  conv => lhs; whnf
  refine (hD _).2 ⟨((⟨A0, w, l⟩, ver) : NwG × Int), ⟨rfl, hW0, by show l.length ≤ _; omega, by show _ ≤ ver; omega, by show ver ≤ _; omega⟩, fun v A2 hq => ?_⟩
  obtain ⟨hv, hW1⟩ : v = .tuple #[] ∧ WdN A0 A2 w (l ++ vints ver) := hq
  subst hv
  conv => lhs; whnf
  refine (hD _).2 ⟨((⟨A0, w, l ++ vints ver⟩, (ms.length : Int)) : NwG × Int), ⟨rfl, hW1, by show (l ++ vints ver).length ≤ _; rw [List.length_append]; omega, by show _ ≤ (ms.length : Int); omega, by show (ms.length : Int) ≤ _; omega⟩, fun v A3 hq => ?_⟩
  obtain ⟨hv, hW2⟩ : v = .tuple #[] ∧ WdN A0 A3 w (l ++ vints ver ++ vints ms.length) := hq
  subst hv
  conv => lhs; whnf
  have hG0 : (ensWrInv A0 w l ver ms).G (0, A3) := ⟨Nat.zero_le _, by show WdN A0 A3 w (l ++ vints ver ++ vints ms.length ++ []); rw [List.append_nil]; exact hW2⟩
  refine (hD _).2 ⟨ensWrInv A0 w l ver ms, ⟨((0, A3) : Nat × Arena), hG0, ⟨rfl, trivial⟩, trivial, rfl⟩, fun (s : Nat × Arena) hG => ⟨⟨trivial, trivial⟩, trivial, ?_⟩⟩
  clear hG0 hW2 hW1 hW0
  obtain ⟨k, A4⟩ := s
  obtain ⟨hk, hW⟩ : k ≤ ms.length ∧ WdN A0 A4 w (l ++ vints ver ++ vints ms.length ++ (ms.take k).flatMap memB) := hG
  obtain ⟨b0, hb0⟩ : ∃ b0, b0 = l ++ vints ver ++ vints ms.length ++ (ms.take k).flatMap memB := ⟨_, rfl⟩
  have hbl : b0.length ≤ 800000300 := by
    have h9 := flat_len_le memB_len (ms.take k)
    rw [List.length_take] at h9
    have h8 : min k ms.length * 40 ≤ 280 := by
      have : min k ms.length ≤ 7 := by omega
      omega
    rw [hb0, List.length_append, List.length_append, List.length_append]
    omega
  rw [← hb0] at hW
  conv => lhs; whnf
  refine split_dec (fun hlt => ?_) (fun hlt => ?_)
  · have hkl : k < ms.length := by
      have hlt : (k : Int) < (ms.length : Int) := hlt
      omega
    obtain ⟨g, o, rfl, hra⟩ := Sl.at_ hc ha1 ha2 ha3 (by omega)
    have r1 := rd_sub hW.1 (mem_at hra k hkl rfl)
    have i0 : (0 : Int) ≤ (k : Int) ∧ (k : Int) < (ms.length : Int) := by omega
    have hmk := hmi ms[k] (List.getElem_mem _)
    have hfin : ∀ A9, WdN A0 A9 w (b0 ++ vints ms[k].id ++ vints ms[k].role ++ vints ms[k].weight ++ vints ms[k].group) → (ensWrInv A0 w l ver ms).G (k + 1, A9) := fun A9 h9 => by
      refine ⟨hkl, ?_⟩
      show WdN A0 A9 w (l ++ vints ver ++ vints ms.length ++ (ms.take (k + 1)).flatMap memB)
      rw [flatMap_snoc memB ms hkl, ← List.append_assoc, ← hb0]
      unfold memB
      simp only [← List.append_assoc]
      exact h9
    generalize ms[k] = m at *
    obtain ⟨id, role, weight, group⟩ := m
    obtain ⟨m1, m2, m3, m4, m5, m6, m7, m8⟩ := hmk
    dsimp only at m1 m2 m3 m4 m5 m6 m7 m8 r1 hfin
    conv => lhs; whnf
    repeat (first | refine go_in i0 ?_ | refine go_rd r1 ?_ | refine go_D hD rfl ?_
            conv => lhs; whnf)
    have hrole : [Value.pointer (some ⟨w, 0, none⟩), .int .i64 (IntKind.i64.wrap role)] = [.pointer (some ⟨w, 0, none⟩), .int .i64 role] := by rw [i64_in (by omega) (by omega)]
    have l1 := vints_le id
    have l2 := vints_le role
    have l3 := vints_le weight
    have l4 := vints_le group
    refine (hD _).2 ⟨((⟨A0, w, b0⟩, id) : NwG × Int), ⟨rfl, hW, by show (b0).length ≤ _; (try simp only [List.length_append]); omega, by show _ ≤ id; omega, by show id ≤ _; omega⟩, fun v A9 hq => ?_⟩
    have hq : v = .tuple #[] ∧ WdN A0 A9 w (b0 ++ vints id) := hq
    have hv := hq.1
    have hW := hq.2
    subst hv
    clear hq
    conv => lhs; whnf
    repeat (first | refine go_D hD rfl ?_
            conv => lhs; whnf)
    refine (hD _).2 ⟨((⟨A0, w, b0 ++ vints id⟩, role) : NwG × Int), ⟨hrole, hW, by show (b0 ++ vints id).length ≤ _; (try simp only [List.length_append]); omega, by show _ ≤ role; omega, by show role ≤ _; omega⟩, fun v A9 hq => ?_⟩
    have hq : v = .tuple #[] ∧ WdN A0 A9 w (b0 ++ vints id ++ vints role) := hq
    have hv := hq.1
    have hW := hq.2
    subst hv
    clear hq
    conv => lhs; whnf
    repeat (first | refine go_D hD rfl ?_
            conv => lhs; whnf)
    refine (hD _).2 ⟨((⟨A0, w, b0 ++ vints id ++ vints role⟩, weight) : NwG × Int), ⟨rfl, hW, by show (b0 ++ vints id ++ vints role).length ≤ _; (try simp only [List.length_append]); omega, by show _ ≤ weight; omega, by show weight ≤ _; omega⟩, fun v A9 hq => ?_⟩
    have hq : v = .tuple #[] ∧ WdN A0 A9 w (b0 ++ vints id ++ vints role ++ vints weight) := hq
    have hv := hq.1
    have hW := hq.2
    subst hv
    clear hq
    conv => lhs; whnf
    repeat (first | refine go_D hD rfl ?_
            conv => lhs; whnf)
    refine (hD _).2 ⟨((⟨A0, w, b0 ++ vints id ++ vints role ++ vints weight⟩, group) : NwG × Int), ⟨rfl, hW, by show (b0 ++ vints id ++ vints role ++ vints weight).length ≤ _; (try simp only [List.length_append]); omega, by show _ ≤ group; omega, by show group ≤ _; omega⟩, fun v A9 hq => ?_⟩
    have hq : v = .tuple #[] ∧ WdN A0 A9 w (b0 ++ vints id ++ vints role ++ vints weight ++ vints group) := hq
    have hv := hq.1
    have hW := hq.2
    subst hv
    clear hq
    conv => lhs; whnf
    repeat (first | refine go_D hD rfl ?_
            conv => lhs; whnf)
    have hG9 := hfin _ hW
    exact (hD _).2 ⟨((k + 1, _) : Nat × Arena), ⟨hG9, ⟨inc_slot (by omega), trivial⟩, trivial, rfl⟩, by show ms.length - (k + 1) < ms.length - k; omega, ⟨same1 rfl rfl, same1 rfl rfl, trivial⟩, ⟨same1 rfl rfl, trivial⟩⟩
  · have hk9 : k = ms.length := by
      have hlt : ¬ (k : Int) < (ms.length : Int) := hlt
      omega
    have hend : ensWrS.post ⟨A0, w, l, ver, ms⟩ [] A (.tuple #[]) A4 := by
      refine ⟨rfl, ?_⟩
      have e : l ++ ensB ver ms = b0 := by
        rw [hb0, hk9, List.take_length]
        unfold ensB
        simp only [← List.append_assoc]
      show WdN A0 A4 w (l ++ ensB ver ms)
      rw [e]
      exact hW
    conv => lhs; whnf
    exact (hD _).2 hend

def rensPutS : FSpec := ⟨Int × List MemD, fun g vs A => ∃ vm, vs = [.agg #[.int .i64 g.1, vm]] ∧ MemR A vm g.2 ∧ ensD g.1 g.2 = 0, fun g _ A v A' => A.Sub A' ∧ ∃ x, v = .tuple #[x, .int .i64 0] ∧ SlB (A'.minus A) x (ensB g.1 g.2)⟩

set_option maxRecDepth 100000 in
set_option maxHeartbeats 0 in
theorem rensPut_ok : FOk Tryz.prog 22 rensPutS := by
  refine fok_a mixed alWd fun ⟨ver, ms⟩ vs A hp => ?_
  obtain ⟨vm, rfl, hM, hE⟩ : ∃ vm, vs = [.agg #[.int .i64 ver, vm]] ∧ MemR A vm ms ∧ ensD ver ms = 0 := hp
  have hM0 := hM
  obtain ⟨⟨ao, c, rfl, hc, hml, ha1, ha2, ha3⟩, hm32⟩ := hM0
  have hin := ens_in hE
  have hC : CTSound Tryz.prog (lookC [specE 41 renS, specE 42 ensWrS, specE 24 mDoneS] noC) := lookC_sound (noC_sound _) (fun x hx => by
    simp only [List.mem_cons, List.not_mem_nil, or_false] at hx
    rcases hx with rfl | rfl | rfl
    · exact specE_ok ren_ok
    · exact specE_ok ensWr_ok
    · exact specE_ok mDone_ok)
  refine ⟨_, noL, 60, hC, noL_sound _, fun blk os out tape D hD => ?_⟩
  conv => lhs; whnf
  refine (hD _).2 ⟨((ver, ms) : Int × List MemD), ⟨_, rfl, hM⟩, fun v A1 hq => ?_⟩
  have hq : A1 = A ∧ ∃ z, v = .int .i64 z ∧ (z = 0 ↔ ensD ver ms = 0) := hq
  have h9 := hq.1.symm
  have hz := hq.2
  subst h9
  obtain ⟨z, hv, hz⟩ := hz
  have hz := hz.2 hE
  subst hz
  subst hv
  conv => lhs; whnf
  refine (hD _).2 fun w A1 hN => ?_
  have hN : A.New A1 w #[.slice none 0 0] 76 := hN
  have hW0 := WdN.new (Arena.Sub.refl A) hN rfl
  conv => lhs; whnf
  refine (hD _).2 ⟨(⟨A, w, [], ver, ms⟩ : EwG), ⟨_, rfl, hW0, hM, hin, Nat.zero_le _⟩, fun v A2 hq => ?_⟩
  obtain ⟨hv, hW1⟩ : v = .tuple #[] ∧ WdN A A2 w ([] ++ ensB ver ms) := hq
  subst hv
  rw [List.nil_append] at hW1
  have hbl : (ensB ver ms).length ≤ 300 := by
    have h9 := flat_len_le memB_len ms
    have h1 := vints_le ver
    have h2 := vints_le (ms.length : Int)
    have h3 := hin.1
    unfold ensB
    rw [List.length_append, List.length_append]
    have : ms.length * 40 ≤ 280 := by omega
    omega
  conv => lhs; whnf
  refine (hD _).2 ⟨(⟨A, w, ensB ver ms⟩ : NwG), ⟨rfl, hW1, by show (ensB ver ms).length ≤ _; omega⟩, fun v A5 hq => ?_⟩
  obtain ⟨s5, hS⟩ : A2.Sub A5 ∧ SlB (A5.minus A2) v (ensB ver ms) := hq
  have hS1 := hS.sub (minus_later (A2 := A5) hW1.1)
  obtain ⟨av, cv, hv⟩ := hS.1.form
  subst hv
  have hend : rensPutS.post (ver, ms) [] A (.tuple #[.slice av (ensB ver ms).length cv, .int .i64 0]) A5 := ⟨hW1.1.trans s5, _, rfl, hS1⟩
  conv => lhs; whnf
  repeat (first | refine go_D hD rfl ?_
          conv => lhs; whnf)
  exact (hD _).2 hend

end
end Go.Proofs.YthbaimobihmhiaaGreatDoor

namespace Go.Proofs.YthbaimobihmhiaaGreatDoor
open Go.Sx Go.RowKit
noncomputable section
open Classical

def rsumInv (A : Arena) (l : List UInt8) : LInv :=
  { γ := Nat, G := fun k => k ≤ l.length,
    keepS := [0], keepB := [], sl := fun k => [(4, .v (.int .i64 k)), (3, .v (.int .u32 (u32v (crcFold (l.take k) (BitVec.allOnes 32)))))], bl := fun _ => [], ar := fun _ => A, mu := fun k => l.length - k }

def rbitInv (A : Arena) (d : BitVec 32) : LInv :=
  { γ := Nat, G := fun j => j ≤ 8,
    keepS := [0, 4], keepB := [], sl := fun j => [(5, .v (.int .i64 j)), (3, .v (.int .u32 (u32v (crcBits j d))))], bl := fun _ => [], ar := fun _ => A, mu := fun j => 8 - j }

def rsumS : FSpec := ⟨List UInt8, fun l vs A => ∃ x, vs = [x] ∧ SlB A x l, fun l _ A v A' => A.Sub A' ∧ v = .int .u32 (u32v (crcSum l))⟩

set_option maxRecDepth 100000 in
set_option maxHeartbeats 0 in
theorem rsum_ok : FOk Tryz.prog 44 rsumS := by
  refine fok_v mixed fun (l : List UInt8) vs A hp => ?_
  obtain ⟨x, rfl, hX⟩ : ∃ x, vs = [x] ∧ SlB A x l := hp
  obtain ⟨⟨ao, c, rfl, hc, -, ha1, ha2, ha3⟩, hxl⟩ := hX
  have hin : LTSound Tryz.prog (tabO Tryz.prog noC noL 60 [(44, 2)]) := tabO_sound mixed (noC_sound _) (noL_sound _) _ _
  refine ⟨_, tabO Tryz.prog _ (tabO Tryz.prog noC noL 60 [(44, 2)]) 60 [(44, 0)], 60, noC_sound _, tabO_sound mixed (noC_sound _) hin _ _, fun blk os out tape D hD => ?_⟩
  conv => lhs; whnf
  have hG0 : (rsumInv A l).G (0 : Nat) := Nat.zero_le _
  refine (hD _).2 ⟨rsumInv A l, ⟨(0 : Nat), hG0, ⟨rfl, congrArg (fun x : Int => some (SV.v (.int .u32 x))) (show (4294967295 : Int) = u32v (BitVec.allOnes 32) by decide +kernel), trivial⟩, trivial, rfl⟩, fun (k : Nat) hk => ⟨⟨trivial, trivial, trivial⟩, trivial, ?_⟩⟩
  clear hG0
  have hk : k ≤ l.length := hk
  conv => lhs; whnf
  refine split_dec (fun hlt => ?_) (fun hlt => ?_)
  · have hkl : k < l.length := by
      have hlt : (k : Int) < (l.length : Int) := hlt
      omega
    obtain ⟨gx, ox, rfl, hra⟩ := Sl.at_ hc ha1 ha2 ha3 (by omega)
    have r1 := byte_at hra k hkl rfl
    have i0 : (0 : Int) ≤ (k : Int) ∧ (k : Int) < (l.length : Int) := by omega
    have x1 : bitsOf .xor .u32 (u32v (crcFold (l.take k) (BitVec.allOnes 32))) (IntKind.u32.wrap (l[k].toNat : Int)) = u32v (crcFold (l.take k) (BitVec.allOnes 32) ^^^ l[k].toBitVec.setWidth 32) := by rw [byte_u32, xor_u32]
    obtain ⟨d0, hd0⟩ : ∃ d0, d0 = crcFold (l.take k) (BitVec.allOnes 32) ^^^ l[k].toBitVec.setWidth 32 := ⟨_, rfl⟩
    rw [← hd0] at x1
    conv => lhs; whnf
    repeat (first | refine go_in i0 ?_ | refine go_rd r1 ?_ | refine go_D hD rfl ?_
            conv => lhs; whnf)
    have hI0 : (rbitInv A d0).G (0 : Nat) := Nat.zero_le _
    refine (hD _).2 ⟨rbitInv A d0, ⟨(0 : Nat), hI0, ⟨rfl, congrArg (fun x : Int => some (SV.v (.int .u32 x))) x1, trivial⟩, trivial, rfl⟩, fun (j : Nat) hj => ⟨⟨trivial, trivial, trivial⟩, trivial, ?_⟩⟩
    have hj : j ≤ 8 := hj
    conv => lhs; whnf
    refine split_dec (fun hlt8 => ?_) (fun hlt8 => ?_)
    · have hj8 : j < 8 := by
        have hlt8 : (j : Int) < 8 := hlt8
        omega
      have hnx : ∀ b : Bool, (crcBits j d0).getLsbD 0 = b → (if b = true then bitsOf .xor .u32 (u32v (crcBits j d0 >>> 1)) 3988292384 else u32v (crcBits j d0 >>> 1)) = u32v (crcBits (j + 1) d0) := fun b hb => by
        rw [← hb, bit_u32, crcBits_add j 1]
        rfl
      have hI1 : (rbitInv A d0).G (j + 1 : Nat) := hj8
      have ho := odd_u32 (crcBits j d0)
      have hh := half_u32 (crcBits j d0)
      conv => lhs; whnf
      refine split_dec (fun h1 => ?_) (fun h1 => ?_)
      · have h2 := hnx true (by rw [← ho]; exact decide_eq_true h1)
        rw [if_pos rfl, ← hh] at h2
        conv => lhs; whnf
        exact (hD _).2 ⟨(j + 1 : Nat), ⟨hI1, ⟨inc_slot (by omega), congrArg (fun x : Int => some (SV.v (.int .u32 x))) h2, trivial⟩, trivial, rfl⟩, by show 8 - (j + 1) < 8 - j; omega, ⟨same1 rfl rfl, same1 rfl rfl, trivial⟩, trivial⟩
      · have h2 := hnx false (by rw [← ho]; exact decide_eq_false h1)
        rw [if_neg Bool.false_ne_true, ← hh] at h2
        conv => lhs; whnf
        exact (hD _).2 ⟨(j + 1 : Nat), ⟨hI1, ⟨inc_slot (by omega), congrArg (fun x : Int => some (SV.v (.int .u32 x))) h2, trivial⟩, trivial, rfl⟩, by show 8 - (j + 1) < 8 - j; omega, ⟨same1 rfl rfl, same1 rfl rfl, trivial⟩, trivial⟩
    · have hj9 : j = 8 := by
        have hlt8 : ¬ (j : Int) < 8 := hlt8
        omega
      subst hj9
      have hfin : u32v (crcBits 8 d0) = u32v (crcFold (l.take (k + 1)) (BitVec.allOnes 32)) := by
        rw [hd0, List.take_succ_eq_append_getElem hkl]
        unfold crcFold
        rw [List.foldl_append]
        rfl
      have hG3 : (rsumInv A l).G (k + 1 : Nat) := hkl
      conv => lhs; whnf
      exact (hD _).2 ⟨(k + 1 : Nat), ⟨hG3, ⟨inc_slot (by omega), congrArg (fun x : Int => some (SV.v (.int .u32 x))) hfin, trivial⟩, trivial, rfl⟩, by show l.length - (k + 1) < l.length - k; omega, ⟨same1 rfl rfl, trivial⟩, trivial⟩
  · have hk9 : k = l.length := by
      have hlt : ¬ (k : Int) < (l.length : Int) := hlt
      omega
    have hend : rsumS.post l [.slice ao l.length c] A (.int .u32 (IntKind.u32.wrap (4294967295 - u32v (crcFold (l.take k) (BitVec.allOnes 32))))) A := by
      refine ⟨Arena.Sub.refl _, congrArg (Value.int .u32) ?_⟩
      rw [hk9, List.take_length, minus_u32]
      rfl
    conv => lhs; whnf
    exact (hD _).2 hend

end
end Go.Proofs.YthbaimobihmhiaaGreatDoor

namespace Go.Proofs.YthbaimobihmhiaaGreatDoor
open Go.Sx Go.RowKit
noncomputable section
open Classical

def dfourS : FSpec := ⟨Nat, fun n vs _ => vs = [.int .u32 n], fun n _ A v A' => A.Sub A' ∧ ∃ g, v = .slice (some ⟨g, 0, none⟩) 4 4 ∧ A.blk g = none ∧ LRow A' g 1 5 4 4 ((fourL n).map bv)⟩

set_option maxRecDepth 100000 in
set_option maxHeartbeats 0 in
theorem dfour_ok : FOk Tryz.prog 43 dfourS := by
  refine fok_v mixed fun (n : Nat) vs A hp => ?_
  obtain rfl : vs = [.int .u32 n] := hp
  refine ⟨noC, noL, 60, noC_sound _, noL_sound _, fun blk os out tape D hD => ?_⟩
  have f0 := four_at0 n
  have f1 := four_at n 8 (by decide)
  have f2 := four_at n 16 (by decide)
  have f3 := four_at n 24 (by decide)
  conv => lhs; whnf
  refine (hD _).2 fun g A1 hN => ?_
  have hN : A.New A1 g #[.int .u8 (IntKind.u8.wrap (n : Int)), .int .u8 (IntKind.u8.wrap ((n : Int).fdiv (2 ^ (min (8 : Int).toNat IntKind.u32.bits)))), .int .u8 (IntKind.u8.wrap ((n : Int).fdiv (2 ^ (min (16 : Int).toNat IntKind.u32.bits)))), .int .u8 (IntKind.u8.wrap ((n : Int).fdiv (2 ^ (min (24 : Int).toNat IntKind.u32.bits))))] 5 := hN
  have e : #[Value.int .u8 (IntKind.u8.wrap (n : Int)), .int .u8 (IntKind.u8.wrap ((n : Int).fdiv (2 ^ (min (8 : Int).toNat IntKind.u32.bits)))), .int .u8 (IntKind.u8.wrap ((n : Int).fdiv (2 ^ (min (16 : Int).toNat IntKind.u32.bits)))), .int .u8 (IntKind.u8.wrap ((n : Int).fdiv (2 ^ (min (24 : Int).toNat IntKind.u32.bits))))] = ((fourL n).map bv).toArray := by
    rw [show (8 : Int) = ((8 : Nat) : Int) from rfl, show (16 : Int) = ((16 : Nat) : Int) from rfl, show (24 : Int) = ((24 : Nat) : Int) from rfl, f0, f1, f2, f3]
    rfl
  rw [e] at hN
  have hend : dfourS.post n [.int .u32 n] A (.slice (some ⟨g, 0, none⟩) 4 4) A1 := ⟨hN.sub, g, rfl, hN.none_, ⟨_, hN.at_, rfl, rfl⟩, Nat.le_refl _, rfl⟩
  conv => lhs; whnf
  exact (hD _).2 hend

def dframeS : FSpec := ⟨List UInt8, fun l vs A => ∃ x, vs = [x] ∧ SlB A x l, fun l _ A v A' => A.Sub A' ∧ (l.length ≤ 1048576 → ∃ L : LsD, v = .tuple #[L.v, .int .i64 0] ∧ LsN A A' L ((frameL l).map bv)) ∧ (1048576 < l.length → v = .tuple #[.slice none 0 0, .int .i64 3])⟩

set_option maxRecDepth 100000 in
set_option maxHeartbeats 0 in
theorem dframe_ok : FOk Tryz.prog 23 dframeS := by
  refine fok_v mixed fun (l : List UInt8) vs A hp => ?_
  obtain ⟨x, rfl, hX⟩ : ∃ x, vs = [x] ∧ SlB A x l := hp
  have hX0 := hX
  obtain ⟨⟨ao, c, rfl, hc, hcl, ha1, ha2, ha3⟩, hxl⟩ := hX0
  have hC : CTSound Tryz.prog (lookC [specE 43 dfourS, specE 44 rsumS] noC) := lookC_sound (noC_sound _) (fun x hx => by
    simp only [List.mem_cons, List.not_mem_nil, or_false] at hx
    rcases hx with rfl | rfl
    · exact specE_ok dfour_ok
    · exact specE_ok rsum_ok)
  refine ⟨_, noL, 60, hC, noL_sound _, fun blk os out tape D hD => ?_⟩
  conv => lhs; whnf
  refine split_dec (fun hgt => ?_) (fun hgt => ?_) <;> (conv => lhs; whnf)
  · have hgt : (1048576 : Int) < (l.length : Int) := hgt
    exact (hD _).2 ⟨Arena.Sub.refl _, fun h => absurd h (by omega), fun _ => rfl⟩
  have hle : l.length ≤ 1048576 := by
    have hgt : ¬ (1048576 : Int) < (l.length : Int) := hgt
    omega
  have hw1 : [Value.int .u32 (IntKind.u32.wrap (l.length : Int))] = [.int .u32 (l.length : Int)] := by rw [u32_wrap (by omega)]
  refine (hD _).2 ⟨l.length, hw1, fun v A1 hq => ?_⟩
  obtain ⟨s1, g1, hv, hn1, hR1⟩ : A.Sub A1 ∧ ∃ g, v = .slice (some ⟨g, 0, none⟩) 4 4 ∧ A.blk g = none ∧ LRow A1 g 1 5 4 4 ((fourL l.length).map bv) := hq
  subst hv
  conv => lhs; whnf
  refine (hD _).2 ⟨l, ⟨_, rfl, hX.sub s1⟩, fun v A2 hq => ?_⟩
  obtain ⟨s2, hv⟩ : A1.Sub A2 ∧ v = .int .u32 (u32v (crcSum l)) := hq
  subst hv
  conv => lhs; whnf
  refine (hD _).2 ⟨(crcSum l).toNat, rfl, fun v A3 hq => ?_⟩
  obtain ⟨s3, g3, hv, hn3, hR3⟩ : A2.Sub A3 ∧ ∃ g, v = .slice (some ⟨g, 0, none⟩) 4 4 ∧ A2.blk g = none ∧ LRow A3 g 1 5 4 4 ((fourL (crcSum l).toNat).map bv) := hq
  subst hv
  have hs3 : A.Sub A3 := s1.trans (s2.trans s3)
  have hL1 : LsR A3 1 5 ⟨.slice (some ⟨g1, 0, none⟩) 4 4, 4, 4, some g1⟩ ((fourL l.length).map bv) := .inr ⟨g1, rfl, rfl, by show 0 < 4; omega, hR1.sub (s2.trans s3)⟩
  have hap := hL1.app
  obtain ⟨base, hbv, -, hG, hcont⟩ := hap
  have hb : base = some (g1, 0) := by
    have hbv : Value.slice (some ⟨g1, 0, none⟩) 4 4 = .slice (addrA base) 4 4 := hbv
    injection hbv with h1 _ _
    exact (addrA_inj (b := some (g1, 0)) h1).symm
  subst hb
  have hPd := hG 4 1 (by omega) (by show 4 + 4 ≤ 1000000000; omega) (by omega)
  conv => lhs; whnf
  repeat (first | refine go_D hD rfl ?_
          conv => lhs; whnf)
  refine (hD _).2 ⟨_, (fourL (crcSum l).toNat).map bv, hPd.rd, src_row (by decide) hR3.rd, rfl, bv_one _, by show 4 + 4 ≤ 9223372036854775807; omega, hPd.cap, rfl, hPd.none_, fun g' o' he' hle' _ => hPd.room 4 rfl g' o' he' hle', fun v9 A4 hAp => ?_⟩
  have hc9 := hcont 4 ((fourL (crcSum l).toNat).map bv) v9 A4 rfl (by omega) hAp
  obtain ⟨L4, q1, q2, q3, q4, q5, -⟩ := hc9
  have hm4 := LsN.more hs3 (fun g h => by injection h with h; rw [← h]; exact hn1) q3 q4 q5
  obtain ⟨hs4, hN4⟩ := hm4
  have hf4 : L4.n = 8 := q2
  have hf5 : ∃ g4, L4.v = .slice (some ⟨g4, 0, none⟩) L4.n L4.c := by
    rcases q3 with ⟨_, h0, _⟩ | ⟨g4, _, h2, _⟩
    · omega
    · exact ⟨g4, h2⟩
  obtain ⟨g4, hv4⟩ := hf5
  have hap4 := q3.app
  obtain ⟨base4, hbv4, -, hG4, hcont4⟩ := hap4
  have hb4 : base4 = some (g4, 0) := by
    rw [hv4] at hbv4
    injection hbv4 with h1 _ _
    exact (addrA_inj (b := some (g4, 0)) h1).symm
  subst hb4
  have hv9 : v9 = .slice (some ⟨g4, 0, none⟩) L4.n L4.c := q1.symm.trans hv4
  subst hv9
  have hcat : (fourL l.length).map bv ++ (fourL (crcSum l).toNat).map bv ++ l.map bv = (frameL l).map bv := by
    unfold frameL
    rw [List.map_append, List.map_append]
  by_cases hs : l = []
  · have hl0 : l.length = 0 := by rw [hs]; rfl
    have hP1 := hG4 1 1 (by omega) (by omega) (by omega)
    conv => lhs; whnf
    repeat (first | refine go_D hD rfl ?_
            conv => lhs; whnf)
    refine (hD _).2 ⟨_, [], hP1.rd, src_none hl0, by rw [hl0]; rfl, fun v hv => (by cases hv), (by show L4.n + l.length ≤ 9223372036854775807; omega), fun h => absurd h (by have := hN4.1.rowAt (g4_of hN4.1 hv4 (by omega)); have := this.2.2.le; show ¬ L4.c < L4.n + l.length; omega), rfl, hP1.none_, fun _ _ _ _ h => absurd rfl h, fun v9 A5 hAp => ?_⟩
    have hle4 : L4.n + l.length ≤ L4.c := by
      have := (hN4.1.rowAt (g4_of hN4.1 hv4 (by omega))).2.2.le
      omega
    have hsame : ∀ k, A5.blk k = A4.blk k := by
      rcases hAp with ⟨_, _, ⟨_, rfl⟩ | ⟨g, o, _, hP⟩⟩ | ⟨h, _⟩
      · exact fun _ => rfl
      · exact put_nil hP
      · exact absurd h (by omega)
    have hv9 : v9 = .slice (some ⟨g4, 0, none⟩) (L4.n + l.length) L4.c := by
      rcases hAp with ⟨_, h, _⟩ | ⟨h, _⟩
      · exact h
      · exact absurd h (by omega)
    subst hv9
    have hend : dframeS.post l [.slice ao l.length c] A (.tuple #[.slice (some ⟨g4, 0, none⟩) (L4.n + l.length) L4.c, .int .i64 0]) A5 := by
      refine ⟨fun k o hk => (hsame k).trans (hs4 k o hk), fun _ => ⟨L4, by rw [hv4, hl0]; rfl, ?_, hN4.2⟩, fun h => absurd h (by omega)⟩
      have hnl : l.map bv = [] := by rw [hs]; rfl
      rw [← hcat, hnl, List.append_nil]
      exact hN4.1.keep fun g o _ ho => (hsame g).trans ho
    conv => lhs; whnf
    repeat (first | refine go_D hD rfl ?_
            conv => lhs; whnf)
    exact (hD _).2 hend
  · have hpos : 0 < l.length := List.length_pos_iff.2 hs
    have hsrc := Sl.at_ hc ha1 ha2 ha3 hpos
    obtain ⟨gx, ox, e, hra⟩ := hsrc
    subst e
    have hP1 := hG4 l.length 1 (by omega) (by omega) (by omega)
    conv => lhs; whnf
    repeat (first | refine go_D hD rfl ?_
            conv => lhs; whnf)
    refine (hD _).2 ⟨_, l.map bv, hP1.rd, src_row (by omega) (rd_sub hs4 hra), by rw [List.length_map]; exact (Nat.mul_one _).symm, bv_one l, (by show L4.n + l.length ≤ 9223372036854775807; omega), hP1.cap, rfl, hP1.none_, fun g' o' he' hle' _ => hP1.room (l.map bv).length (by rw [List.length_map, Nat.mul_one]) g' o' he' hle', fun v9 A5 hAp => ?_⟩
    have hc9 := hcont4 l.length (l.map bv) v9 A5 (by rw [List.length_map, Nat.mul_one]) hpos hAp
    obtain ⟨L5, p1, -, p3, p4, p5, -⟩ := hc9
    have hm5 := LsN.more hs4 hN4.2 p3 p4 p5
    rw [hcat] at hm5
    have hap5 := p3.app
    obtain ⟨b5, hb5, -⟩ := hap5
    rw [p1] at hb5
    subst hb5
    have hend : dframeS.post l [.slice (some ⟨gx, ox, none⟩) l.length c] A (.tuple #[.slice (addrA b5) L5.n L5.c, .int .i64 0]) A5 := ⟨hm5.1, fun _ => ⟨L5, by rw [p1], hm5.2⟩, fun h => absurd h (by omega)⟩
    conv => lhs; whnf
    repeat (first | refine go_D hD rfl ?_
            conv => lhs; whnf)
    exact (hD _).2 hend

end
end Go.Proofs.YthbaimobihmhiaaGreatDoor
