/-
  wire.Writer: Text, Bytes.
  The program's writer, as those want it that make one: it is new, all that lay ahead of it stays.
  wire.Sum.
  wire: number, Unframe.
  Contracts: path.Check.
-/
import Derived.Test.YtiabopbigplklaaDoorG09
import Derived.Test.YtiabopbigplklaaDoorG08
import Derived.Test.YtiabopbigplklaaDoorG07
namespace Go.Proofs.YtiabopbigplklaaDoor
open Go.Sx Go.RowKit
noncomputable section
open Classical

theorem vints_len (n : Int) : (vints n).length ≤ 10 := vput_len 9 (zig n)

def wwTextS : FSpec := ⟨BsG, fun g vs A => vs = [.pointer (some ⟨g.w, 0, none⟩), .string ⟨g.s.toArray⟩] ∧ BfR A g.w g.L g.l ∧ g.l.length + g.s.length ≤ 880000000, fun g _ A v A' => v = .tuple #[] ∧ BfTo A g.w g.L (g.l ++ vints g.s.length ++ g.s) A'⟩

set_option maxRecDepth 100000 in
set_option maxHeartbeats 0 in
theorem wwText_ok : FOk Tryd.prog 25 wwTextS := by
  refine fok_v mixed fun ⟨w, L, l, s⟩ vs A hp => ?_
  obtain ⟨rfl, hW, hlen⟩ : vs = [.pointer (some ⟨w, 0, none⟩), .string ⟨s.toArray⟩] ∧ BfR A w L l ∧ l.length + s.length ≤ 880000000 := hp
  have hC : CTSound Tryd.prog (lookC [specE 24 wwIntS, specE 37 bfStrS] noC) := lookC_sound (noC_sound _) (fun x hx => by
    simp only [List.mem_cons, List.not_mem_nil, or_false] at hx
    rcases hx with rfl | rfl
    · exact specE_ok wwInt_ok
    · exact specE_ok bfStr_ok)
  refine ⟨_, noL, 60, hC, noL_sound _, fun blk os out tape D hD => ?_⟩
  have hvl := vints_len s.length
  conv => lhs; whnf
  repeat (first | refine go_D hD rfl ?_
          conv => lhs; whnf)
  refine (hD _).2 ⟨(⟨w, L, l, (s.length : Int)⟩ : WiG), ⟨rfl, hW, by show l.length ≤ 880000000; omega, by show -9223372036854775808 ≤ (s.length : Int); omega, by show (s.length : Int) ≤ 9223372036854775807; omega⟩, fun v A1 hq => ?_⟩
  obtain ⟨hv, L1, hW1, hk1, hg1⟩ : v = .tuple #[] ∧ BfTo A w L (l ++ vints s.length) A1 := hq
  subst hv
  conv => lhs; whnf
  repeat (first | refine go_D hD rfl ?_
          conv => lhs; whnf)
  refine (hD _).2 ⟨(⟨w, L1, l ++ vints s.length, s⟩ : BsG), ⟨rfl, hW1, by show (l ++ vints s.length).length + s.length ≤ 890000000; rw [List.length_append]; omega⟩, fun v A2 hq => ?_⟩
  obtain ⟨hv, hto⟩ : v = .tuple #[.int .i64 s.length, .nilIface] ∧ BfTo A1 w L1 (l ++ vints s.length ++ s) A2 := hq
  subst hv
  have hend : wwTextS.post ⟨w, L, l, s⟩ [] A (.tuple #[]) A2 := ⟨rfl, BfTo.then hk1 hg1 hto⟩
  conv => lhs; whnf
  repeat (first | refine go_D hD rfl ?_
          conv => lhs; whnf)
  exact (hD _).2 hend

def wwBytesS : FSpec := ⟨BwG, fun g vs A => ∃ x, vs = [.pointer (some ⟨g.w, 0, none⟩), x] ∧ BfR A g.w g.L g.l ∧ g.l.length + g.s.length ≤ 880000000 ∧ Sl g.C 1 g.s.length x (g.s.map bv) ∧ ∀ k o, g.C.blk k = some o → A.blk k = some o ∧ k ≠ g.w ∧ g.L.g ≠ some k, fun g _ A v A' => v = .tuple #[] ∧ BfTo A g.w g.L (g.l ++ vints g.s.length ++ g.s) A'⟩

set_option maxRecDepth 100000 in
set_option maxHeartbeats 0 in
theorem wwBytes_ok : FOk Tryd.prog 26 wwBytesS := by
  refine fok_v mixed fun ⟨w, L, l, s, C⟩ vs A hp => ?_
  obtain ⟨x, rfl, hW, hlen, hX, hCA⟩ : ∃ x, vs = [.pointer (some ⟨w, 0, none⟩), x] ∧ BfR A w L l ∧ l.length + s.length ≤ 880000000 ∧ Sl C 1 s.length x (s.map bv) ∧ ∀ k o, C.blk k = some o → A.blk k = some o ∧ k ≠ w ∧ L.g ≠ some k := hp
  have hX0 := hX
  obtain ⟨ao, cx, rfl, -⟩ := hX0
  have hC : CTSound Tryd.prog (lookC [specE 24 wwIntS, specE 38 bfWrS] noC) := lookC_sound (noC_sound _) (fun x hx => by
    simp only [List.mem_cons, List.not_mem_nil, or_false] at hx
    rcases hx with rfl | rfl
    · exact specE_ok wwInt_ok
    · exact specE_ok bfWr_ok)
  refine ⟨_, noL, 60, hC, noL_sound _, fun blk os out tape D hD => ?_⟩
  have hvl := vints_len s.length
  conv => lhs; whnf
  repeat (first | refine go_D hD rfl ?_
          conv => lhs; whnf)
  refine (hD _).2 ⟨(⟨w, L, l, (s.length : Int)⟩ : WiG), ⟨rfl, hW, by show l.length ≤ 880000000; omega, by show -9223372036854775808 ≤ (s.length : Int); omega, by show (s.length : Int) ≤ 9223372036854775807; omega⟩, fun v A1 hq => ?_⟩
  obtain ⟨hv, L1, hW1, hk1, hg1⟩ : v = .tuple #[] ∧ BfTo A w L (l ++ vints s.length) A1 := hq
  subst hv
  have hC1 : ∀ k o, C.blk k = some o → A1.blk k = some o ∧ k ≠ w ∧ L1.g ≠ some k := fun k o hk => by
    obtain ⟨h1, h2, h3⟩ := hCA k o hk
    refine ⟨hk1 k o h1 h2 h3, h2, fun e => ?_⟩
    rcases hg1 k e with h | h
    · exact h3 h
    · rw [h] at h1; cases h1
  conv => lhs; whnf
  repeat (first | refine go_D hD rfl ?_
          conv => lhs; whnf)
  refine (hD _).2 ⟨(⟨w, L1, l ++ vints s.length, s, C⟩ : BwG), ⟨_, rfl, hW1, by show (l ++ vints s.length).length + s.length ≤ 890000000; rw [List.length_append]; omega, hX, hC1⟩, fun v A2 hq => ?_⟩
  obtain ⟨hv, hto⟩ : v = .tuple #[.int .i64 s.length, .nilIface] ∧ BfTo A1 w L1 (l ++ vints s.length ++ s) A2 := hq
  subst hv
  have hend : wwBytesS.post ⟨w, L, l, s, C⟩ [] A (.tuple #[]) A2 := ⟨rfl, BfTo.then hk1 hg1 hto⟩
  conv => lhs; whnf
  repeat (first | refine go_D hD rfl ?_
          conv => lhs; whnf)
  exact (hD _).2 hend

end
end Go.Proofs.YtiabopbigplklaaDoor

namespace Go.Proofs.YtiabopbigplklaaDoor
open Go.Sx Go.RowKit
noncomputable section
open Classical

theorem fok_weak {P : Program} {f : FuncId} {S S' : FSpec} (h : FOk P f S) (hw : ∀ g' vs A, S'.pre g' vs A → ∃ g, S.pre g vs A ∧ ∀ v A', S.post g vs A v A' → S'.post g' vs A v A') : FOk P f S' := by
  intro g' vs A w hA hp
  obtain ⟨g, h1, h2⟩ := hw g' vs A hp
  exact (h g vs A w hA h1).mono (fun v w' ⟨A', k1, k2⟩ => ⟨A', h2 v A' k1, k2⟩) fun _ _ h => h

/-- A writer that is new behind A0. -/
def BfN (A0 A : Arena) (w : Nat) (l : List UInt8) : Prop := A0.Sub A ∧ A0.blk w = none ∧ ∃ L, BfR A w L l ∧ ∀ g, L.g = some g → A0.blk g = none

theorem BfN.to {A0 A A' : Arena} {w : Nat} {L : LsD} {l' : List UInt8} (hs : A0.Sub A) (hw : A0.blk w = none) (hg : ∀ g, L.g = some g → A0.blk g = none) (h : BfTo A w L l' A') : BfN A0 A' w l' := by
  obtain ⟨L', h1, h2, h3⟩ := h
  refine ⟨fun k o hk => h2 k o (hs k o hk) (fun e => (by rw [e, hw] at hk; cases hk)) fun e => (by rw [hg k e] at hk; cases hk), hw, L', h1, fun g hg' => ?_⟩
  rcases h3 g hg' with h | h
  · exact hg g h
  · cases hA : A0.blk g with
    | none => rfl
    | some o => rw [hs g o hA] at h; cases h

theorem BfN.grow {A0 A A' : Arena} {w : Nat} {l : List UInt8} (h : BfN A0 A w l) (hs : A.Sub A') : BfN A0 A' w l := by
  obtain ⟨h1, h2, L, ⟨⟨lr, k1⟩, k2, k3, k4, k5⟩, h4⟩ := h
  exact ⟨fun k o hk => hs k o (h1 k o hk), h2, L, ⟨⟨lr, k1.sub fun o ho => hs w o ho⟩, k2.keep fun g o _ ho => hs g o ho, k3, k4, k5⟩, h4⟩

theorem BfN.new {A0 A A' : Arena} {w : Nat} {c : Array Value} {t : TypeId} (h0 : A0.Sub A) (h : A.New A' w c t) (hc : c.toList = [.slice none 0 0, .int .i64 0, .int .i8 0]) : BfN A0 A' w [] := by
  refine ⟨fun k o hk => h.sub k o (h0 k o hk), ?_, ⟨.slice none 0 0, 0, 0, none⟩, ⟨⟨0, c, t, (0, 0), h.at_, .inl rfl, hc⟩, .inl ⟨rfl, rfl, rfl, rfl, none, rfl⟩, fun e => (by cases e), fun _ => rfl, by decide⟩, fun g e => (by cases e)⟩
  cases hA : A0.blk w with
  | none => rfl
  | some o => have := h0 w o hA; rw [h.none_] at this; cases this

structure NwG where
  A0 : Arena
  w : Nat
  l : List UInt8

def nByteS : FSpec := ⟨NwG × UInt8, fun g vs A => vs = [.pointer (some ⟨g.1.w, 0, none⟩), .int .u8 g.2.toNat] ∧ BfN g.1.A0 A g.1.w g.1.l ∧ g.1.l.length ≤ 880000000, fun g _ _ v A' => v = .tuple #[] ∧ BfN g.1.A0 A' g.1.w (g.1.l ++ [g.2])⟩

theorem nByte_ok : FOk Tryd.prog 23 nByteS := fok_weak wwByte_ok fun ⟨⟨_, w, l⟩, b⟩ _ _ ⟨h1, ⟨h2, h3, L, h4, h5⟩, h6⟩ =>
  ⟨⟨w, L, l, b⟩, ⟨h1, h4, by have h6 : l.length ≤ 880000000 := h6; show l.length ≤ 890000000; omega⟩, fun _ _ ⟨k1, k2⟩ => ⟨k1, BfN.to h2 h3 h5 k2⟩⟩

def nIntS : FSpec := ⟨NwG × Int, fun g vs A => vs = [.pointer (some ⟨g.1.w, 0, none⟩), .int .i64 g.2] ∧ BfN g.1.A0 A g.1.w g.1.l ∧ g.1.l.length ≤ 880000000 ∧ -9223372036854775808 ≤ g.2 ∧ g.2 ≤ 9223372036854775807, fun g _ _ v A' => v = .tuple #[] ∧ BfN g.1.A0 A' g.1.w (g.1.l ++ vints g.2)⟩

theorem nInt_ok : FOk Tryd.prog 24 nIntS := fok_weak wwInt_ok fun ⟨⟨_, w, l⟩, n⟩ _ _ ⟨h1, ⟨h2, h3, L, h4, h5⟩, h6⟩ =>
  ⟨⟨w, L, l, n⟩, ⟨h1, h4, h6⟩, fun _ _ ⟨k1, k2⟩ => ⟨k1, BfN.to h2 h3 h5 k2⟩⟩

def nTextS : FSpec := ⟨NwG × List UInt8, fun g vs A => vs = [.pointer (some ⟨g.1.w, 0, none⟩), .string ⟨g.2.toArray⟩] ∧ BfN g.1.A0 A g.1.w g.1.l ∧ g.1.l.length + g.2.length ≤ 880000000, fun g _ _ v A' => v = .tuple #[] ∧ BfN g.1.A0 A' g.1.w (g.1.l ++ vints g.2.length ++ g.2)⟩

theorem nText_ok : FOk Tryd.prog 25 nTextS := fok_weak wwText_ok fun ⟨⟨_, w, l⟩, s⟩ _ _ ⟨h1, ⟨h2, h3, L, h4, h5⟩, h6⟩ =>
  ⟨⟨w, L, l, s⟩, ⟨h1, h4, h6⟩, fun _ _ ⟨k1, k2⟩ => ⟨k1, BfN.to h2 h3 h5 k2⟩⟩

def nBytesS : FSpec := ⟨NwG × List UInt8, fun g vs A => ∃ x, vs = [.pointer (some ⟨g.1.w, 0, none⟩), x] ∧ BfN g.1.A0 A g.1.w g.1.l ∧ g.1.l.length + g.2.length ≤ 880000000 ∧ Sl g.1.A0 1 g.2.length x (g.2.map bv), fun g _ _ v A' => v = .tuple #[] ∧ BfN g.1.A0 A' g.1.w (g.1.l ++ vints g.2.length ++ g.2)⟩

theorem nBytes_ok : FOk Tryd.prog 26 nBytesS := fok_weak wwBytes_ok fun ⟨⟨A0, w, l⟩, s⟩ _ _ ⟨x, h1, ⟨h2, h3, L, h4, h5⟩, h6, h7⟩ =>
  ⟨⟨w, L, l, s, A0⟩, ⟨x, h1, h4, h6, h7, fun k o hk => ⟨h2 k o hk, fun e => (by rw [e, h3] at hk; cases hk), fun e => (by rw [h5 k e] at hk; cases hk)⟩⟩, fun _ _ ⟨k1, k2⟩ => ⟨k1, BfN.to h2 h3 h5 k2⟩⟩

/-- All that was put, in a row of its own. -/
def nDoneS : FSpec := ⟨NwG, fun g vs A => vs = [.pointer (some ⟨g.w, 0, none⟩)] ∧ BfN g.A0 A g.w g.l ∧ g.l.length ≤ 890000000, fun g _ A v A' => A.Sub A' ∧ SlB (A'.minus A) v g.l⟩

set_option maxRecDepth 100000 in
set_option maxHeartbeats 0 in
theorem nDone_ok : FOk Tryd.prog 30 nDoneS := by
  refine fok_v mixed fun ⟨A0, w, l⟩ vs A hp => ?_
  obtain ⟨rfl, ⟨h1, h2, L, hW, h5⟩, hlen⟩ : vs = [.pointer (some ⟨w, 0, none⟩)] ∧ BfN A0 A w l ∧ l.length ≤ 890000000 := hp
  have hC : CTSound Tryd.prog (lookC [specE 41 cloneBytesS] noC) := lookC_sound (noC_sound _) (fun x hx => by
    simp only [List.mem_singleton] at hx
    subst hx
    exact specE_ok cloneBytes_ok)
  refine ⟨_, noL, 60, hC, noL_sound _, fun blk os out tape D hD => ?_⟩
  obtain ⟨lr, htop⟩ := hW.top
  have hL := hW.len
  have hrow := hW.row
  rcases hrow with ⟨k1, k2, k3, k4, -⟩ | ⟨g, k1, k2, k3, k5⟩
  · have hv := hW.nil k1
    rw [hv] at htop
    have r1 : A.rd w 0 1 = some [.slice none 0 0] := htop.rd (o := 0) (n := 1) (by show 0 + 1 ≤ 3; omega)
    have r2 : A.rd w 1 1 = some [.int .i64 0] := htop.rd (o := 1) (n := 1) (by show 1 + 1 ≤ 3; omega)
    have hl0 : l = [] := List.length_eq_zero_iff.1 (by omega)
    have hS : SlB A (.slice none 0 0) l := by
      rw [hl0]
      exact ⟨Sl.nil _ _, by decide⟩
    conv => lhs; whnf
    repeat (first | refine go_rd r1 ?_ | refine go_rd r2 ?_ | refine go_D hD rfl ?_
            conv => lhs; whnf)
    refine (hD _).2 ⟨l, ⟨_, rfl, hS⟩, fun v A' hq => ?_⟩
    conv => lhs; whnf
    repeat (first | refine go_D hD rfl ?_
            conv => lhs; whnf)
    exact (hD _).2 hq
  · rw [k2] at htop
    have r1 : A.rd w 0 1 = some [.slice (some ⟨g, 0, none⟩) L.n L.c] := htop.rd (o := 0) (n := 1) (by show 0 + 1 ≤ 3; omega)
    have r2 : A.rd w 1 1 = some [.int .i64 0] := htop.rd (o := 1) (n := 1) (by show 1 + 1 ≤ 3; omega)
    have hS : SlB A (.slice (some ⟨g, 0, none⟩) L.n L.c) l := ⟨by
      have h9 : Sl A 1 L.n (.slice (some ⟨g, 0, none⟩) L.n L.c) (l.map bv) := Sl.row k5.le k5.rd
      rw [hL] at h9 ⊢
      exact h9, by omega⟩
    have e5 : Value.slice (some ⟨g, 0 + (bif L.c.beq (Int.toNat 0) then 0 else Int.toNat 0 * 1), none⟩) ((L.n : Int).toNat - Int.toNat 0) (L.c - Int.toNat 0) = .slice (some ⟨g, 0, none⟩) L.n L.c := by
      have e5 : (bif L.c.beq (Int.toNat 0) then 0 else Int.toNat 0 * 1) = 0 := by cases L.c.beq (Int.toNat 0) <;> rfl
      rw [e5]
      rfl
    have hS2 : SlB A (Value.slice (some ⟨g, 0 + (bif L.c.beq (Int.toNat 0) then 0 else Int.toNat 0 * 1), none⟩) ((L.n : Int).toNat - Int.toNat 0) (L.c - Int.toNat 0)) l := by rw [e5]; exact hS
    conv => lhs; whnf
    repeat (first | refine go_rd r1 ?_ | refine go_rd r2 ?_ | refine go_D hD rfl ?_
            conv => lhs; whnf)
    refine (hD _).2 ⟨l, ⟨_, rfl, hS2⟩, fun v A' hq => ?_⟩
    conv => lhs; whnf
    repeat (first | refine go_D hD rfl ?_
            conv => lhs; whnf)
    exact (hD _).2 hq

end
end Go.Proofs.YtiabopbigplklaaDoor

namespace Go.Proofs.YtiabopbigplklaaDoor
open Go.Sx Go.RowKit
noncomputable section
open Classical

def alTab : TypeId → Bool := fun t => Nat.beq t 109

def tabE (i : Nat) : Value := .int .u32 (u32v (crcTab (BitVec.ofNat 32 i)))
def tabL (k : Nat) : List Value := (List.range k).map tabE ++ List.replicate (16 - k) (.int .u32 0)

theorem tabL_len {k : Nat} (h : k ≤ 16) : (tabL k).length = 16 := by
  unfold tabL
  rw [List.length_append, List.length_map, List.length_range, List.length_replicate]
  omega

theorem tabL_put {k : Nat} (_h : k < 16) : (tabL k).take k ++ [tabE k] ++ (tabL k).drop (k + 1) = tabL (k + 1) := by
  unfold tabL
  have hl : ((List.range k).map tabE).length = k := by rw [List.length_map, List.length_range]
  rw [List.take_left' hl, List.drop_append, List.drop_eq_nil_of_le (by omega), List.nil_append, hl, show k + 1 - k = 1 by omega, List.drop_replicate, List.range_succ, List.map_append]
  rfl

theorem tabL_at {i : Nat} (h : i < 16) : ((tabL 16).drop i).take 1 = [tabE i] := by
  have hl : (tabL 16).length = 16 := tabL_len (Nat.le_refl _)
  rw [List.drop_eq_getElem_cons (by omega)]
  have : (tabL 16)[i]'(by omega) = tabE i := by
    unfold tabL
    rw [List.getElem_append_left (by rw [List.length_map, List.length_range]; exact h), List.getElem_map, List.getElem_range]
  simp [this]

def tabInv (A0 : Arena) (g : Nat) : LInv :=
  { γ := Nat × Arena, G := fun s => s.1 ≤ 16 ∧ A0.Sub s.2 ∧ CellsAt s.2 g (tabL s.1),
    keepS := [0, 3], keepB := [], sl := fun s => [(9, .v (.int .i64 s.1))], bl := fun _ => [], ar := fun s => s.2, mu := fun s => 16 - s.1 }

def sumInv (A1 : Arena) (l : List UInt8) : LInv :=
  { γ := Nat, G := fun k => k ≤ l.length,
    keepS := [3, 27, 28], keepB := [], sl := fun k => [(29, .v (.int .i64 k)), (6, .v (.int .u32 (u32v (crcFold (l.take k) (BitVec.allOnes 32)))))], bl := fun _ => [], ar := fun _ => A1, mu := fun k => l.length - k }

/-- Half a byte: the place in the table, what stands there, what it gives. -/
theorem nib_step {A : Arena} {g : Nat} (hT : CellsAt A g (tabL 16)) {X : Int} {d : BitVec 32} (hX : X = u32v d) :
    bitsOf .and .u32 X 15 < ((16 : Nat) : Int) ∧ A.rd g (0 + (bitsOf .and .u32 X 15).toNat * 1) 1 = some [.int .u32 (u32v (crcTab (BitVec.ofNat 32 (d &&& 15#32).toNat)))] ∧
    bitsOf .xor .u32 (X.fdiv (2 ^ (min (4 : Int).toNat IntKind.u32.bits))) (u32v (crcTab (BitVec.ofNat 32 (d &&& 15#32).toNat))) = u32v (crcNib d) := by
  subst hX
  have h15 : bitsOf .and .u32 (u32v d) 15 = (((d &&& 15#32).toNat : Nat) : Int) := by
    rw [show (15 : Int) = u32v 15#32 by decide +kernel, and_u32]
    rfl
  have hlt := low_lt d
  refine ⟨by rw [h15]; omega, ?_, nib_u32 d⟩
  rw [h15, Int.toNat_natCast, Nat.mul_one, Nat.zero_add, hT.rd (o := (d &&& 15#32).toNat) (n := 1) (by rw [tabL_len (Nat.le_refl _)]; omega), tabL_at hlt]
  rfl

def sumS : FSpec := ⟨List UInt8, fun l vs A => ∃ x, vs = [x] ∧ SlB A x l, fun l _ A v A' => A.Sub A' ∧ v = .int .u32 (u32v (crcSum l))⟩

set_option maxRecDepth 100000 in
set_option maxHeartbeats 0 in
theorem sum_ok : FOk Tryd.prog 40 sumS := by
  refine fok_a mixed alTab fun (l : List UInt8) vs A hp => ?_
  obtain ⟨x, rfl, hX⟩ : ∃ x, vs = [x] ∧ SlB A x l := hp
  obtain ⟨⟨ao, c, rfl, hc, -, ha1, ha2, ha3⟩, hxl⟩ := hX
  refine ⟨_, tabO Tryd.prog _ noL 60 [(40, 0), (40, 4)], 60, noC_sound _, tabO_sound mixed (noC_sound _) (noL_sound _) _ _, fun blk os out tape D hD => ?_⟩
  conv => lhs; whnf
  refine (hD _).2 fun g A1 hN => ?_
  have hN : A.New A1 g (List.replicate 16 (Value.int .u32 0)).toArray 109 := hN
  have hgA : A.blk g = none := hN.none_
  have hT0 : CellsAt A1 g (tabL 0) := ⟨_, _, _, hN.at_, .inl rfl, rfl⟩
  conv => lhs; whnf
  have hG0 : (tabInv A g).G (0, A1) := ⟨Nat.zero_le _, hN.sub, hT0⟩
  refine (hD _).2 ⟨tabInv A g, ⟨((0, A1) : Nat × Arena), hG0, ⟨rfl, trivial⟩, trivial, rfl⟩, fun (s : Nat × Arena) hG => ⟨⟨trivial, trivial⟩, trivial, ?_⟩⟩
  clear hG0 hT0 hN
  obtain ⟨k, A2⟩ := s
  obtain ⟨hk, hs2, hT⟩ : k ≤ 16 ∧ A.Sub A2 ∧ CellsAt A2 g (tabL k) := hG
  conv => lhs; whnf
  refine split_dec (fun h => ?_) (fun h => ?_)
  · have hk1 : k < 16 := by
      have h : (k : Int) < 16 := h
      omega
    conv => lhs; whnf
    refine go_dec (show (k : Int) < 16 by omega) ?_
    conv => lhs; whnf
    refine (hD _).2 ⟨hT.room (by rw [tabL_len hk]; show 0 + k * 1 + 1 ≤ 16; omega), fun A3 hP => ?_⟩
    have hP : A2.Put A3 g (0 + k * 1) [.int .u32 (tabI (tabI (tabI (tabI (IntKind.u32.wrap (k : Int))))))] := hP
    rw [tab_eq k hk1, Nat.mul_one, Nat.zero_add] at hP
    have hT3 := hT.put hP (by rw [tabL_len hk]; show k + 1 ≤ 16; omega)
    have hT3 : CellsAt A3 g ((tabL k).take k ++ [tabE k] ++ (tabL k).drop (k + 1)) := hT3
    rw [tabL_put hk1] at hT3
    have hs3 : A.Sub A3 := hP.sub hs2 hgA
    have hG3 : (tabInv A g).G (k + 1, A3) := ⟨hk1, hs3, hT3⟩
    conv => lhs; whnf
    exact (hD _).2 ⟨((k + 1, A3) : Nat × Arena), ⟨hG3, ⟨inc_slot (by omega), trivial⟩, trivial, rfl⟩, by show 16 - (k + 1) < 16 - k; omega, ⟨same1 rfl rfl, same1 rfl rfl, trivial⟩, trivial⟩
  · have hk9 : k = 16 := by
      have h : ¬ (k : Int) < 16 := h
      omega
    subst hk9
    conv => lhs; whnf
    have hG0 : (sumInv A2 l).G (0 : Nat) := Nat.zero_le _
    refine (hD _).2 ⟨sumInv A2 l, ⟨(0 : Nat), hG0, ⟨rfl, congrArg (fun x : Int => some (SV.v (.int .u32 x))) (show (4294967295 : Int) = u32v (BitVec.allOnes 32) by decide +kernel), trivial⟩, trivial, rfl⟩, fun (k : Nat) hk => ⟨⟨trivial, trivial, trivial⟩, trivial, ?_⟩⟩
    clear hG0
    have hk : k ≤ l.length := hk
    conv => lhs; whnf
    refine split_dec (fun hlt => ?_) (fun hlt => ?_)
    · have hkl : k < l.length := by
        have hlt : (k : Int) < (l.length : Int) := hlt
        omega
      obtain ⟨gx, ox, rfl, hra⟩ := Sl.at_ hc ha1 ha2 ha3 (by omega)
      have r1 := rd_sub hs2 (byte_at hra k hkl rfl)
      have i0 : (0 : Int) ≤ (k : Int) ∧ (k : Int) < (l.length : Int) := by omega
      have x1 : bitsOf .xor .u32 (u32v (crcFold (l.take k) (BitVec.allOnes 32))) (IntKind.u32.wrap (l[k].toNat : Int)) = u32v (crcFold (l.take k) (BitVec.allOnes 32) ^^^ l[k].toBitVec.setWidth 32) := by rw [byte_u32, xor_u32]
      obtain ⟨d0, hd0⟩ : ∃ d0, d0 = crcFold (l.take k) (BitVec.allOnes 32) ^^^ l[k].toBitVec.setWidth 32 := ⟨_, rfl⟩
      rw [← hd0] at x1
      have n1 := nib_step hT x1
      obtain ⟨lt1, r2, x3⟩ := n1
      have n3 := nib_step hT x3
      obtain ⟨lt3, r4, x5⟩ := n3
      conv => lhs; whnf
      repeat (first | refine go_in i0 ?_ | refine go_rd r1 ?_ | refine go_D hD rfl ?_
              conv => lhs; whnf)
      refine go_dec lt1 ?_
      conv => lhs; whnf
      repeat (first | refine go_rd r2 ?_ | refine go_D hD rfl ?_
              conv => lhs; whnf)
      refine go_dec lt3 ?_
      conv => lhs; whnf
      repeat (first | refine go_rd r4 ?_ | refine go_D hD rfl ?_
              conv => lhs; whnf)
      have hfin : u32v (crcNib (crcNib d0)) = u32v (crcFold (l.take (k + 1)) (BitVec.allOnes 32)) := by
        rw [hd0, ← crcByte_nib, List.take_succ_eq_append_getElem hkl]
        unfold crcFold
        rw [List.foldl_append]
        rfl
      have hG3 : (sumInv A2 l).G (k + 1 : Nat) := hkl
      exact (hD _).2 ⟨(k + 1 : Nat), ⟨hG3, ⟨inc_slot (by omega), congrArg (fun x : Int => some (SV.v (.int .u32 x))) (x5.trans hfin), trivial⟩, trivial, rfl⟩, by show l.length - (k + 1) < l.length - k; omega, ⟨same1 rfl rfl, same1 rfl rfl, same1 rfl rfl, trivial⟩, trivial⟩
    · have hk9 : k = l.length := by
        have hlt : ¬ (k : Int) < (l.length : Int) := hlt
        omega
      have hend : sumS.post l [.slice ao l.length c] A (.int .u32 (bitsOf .xor .u32 4294967295 (u32v (crcFold (l.take k) (BitVec.allOnes 32))))) A2 := by
        refine ⟨hs2, congrArg (Value.int .u32) ?_⟩
        rw [hk9, List.take_length, show (4294967295 : Int) = u32v (BitVec.allOnes 32) by decide +kernel, xor_u32, BitVec.xor_comm, BitVec.xor_allOnes]
        rfl
      conv => lhs; whnf
      exact (hD _).2 hend

end
end Go.Proofs.YtiabopbigplklaaDoor

namespace Go.Proofs.YtiabopbigplklaaDoor
open Go.Sx Go.RowKit
noncomputable section
open Classical

def wnumS : FSpec := ⟨List UInt8, fun l vs A => ∃ x, vs = [x] ∧ Sl A 1 l.length x (l.map bv) ∧ 4 ≤ l.length, fun l _ A v A' => A' = A ∧ v = .int .u32 (numL l)⟩

set_option maxRecDepth 100000 in
set_option maxHeartbeats 0 in
theorem wnum_ok : FOk Tryd.prog 66 wnumS := by
  refine fok_v mixed fun (l : List UInt8) vs A hp => ?_
  obtain ⟨x, rfl, ⟨ao, c, rfl, hc, -, ha1, ha2, ha3⟩, h4⟩ : ∃ x, vs = [x] ∧ Sl A 1 l.length x (l.map bv) ∧ 4 ≤ l.length := hp
  refine ⟨noC, noL, 60, noC_sound _, noL_sound _, fun blk os out tape D hD => ?_⟩
  obtain ⟨g, o, e, hra⟩ := Sl.at_ hc ha1 ha2 ha3 (by omega)
  subst e
  have b0 := byte_at hra 0 (by omega) rfl
  have b1 := byte_at hra 1 (by omega) rfl
  have b2 := byte_at hra 2 (by omega) rfl
  have b3 := byte_at hra 3 (by omega) rfl
  have i0 : (0 : Int) < ((l.length : Nat) : Int) := by omega
  have i1 : (1 : Int) < ((l.length : Nat) : Int) := by omega
  have i2 : (2 : Int) < ((l.length : Nat) : Int) := by omega
  have i3 : (3 : Int) < ((l.length : Nat) : Int) := by omega
  have hn := num_or (l[0]'(by omega)).toNat_lt (l[1]'(by omega)).toNat_lt (l[2]'(by omega)).toNat_lt (l[3]'(by omega)).toNat_lt
  have hg : ∀ (i : Nat) (h : i < l.length), l.getD i 0 = l[i] := fun i h => by rw [List.getD_eq_getElem?_getD, List.getElem?_eq_getElem h]; rfl
  have hL : numL l = (l[0]'(by omega)).toNat + (l[1]'(by omega)).toNat * 256 + (l[2]'(by omega)).toNat * 65536 + (l[3]'(by omega)).toNat * 16777216 := by
    unfold numL
    rw [hg 0 (by omega), hg 1 (by omega), hg 2 (by omega), hg 3 (by omega)]
  rw [← hL] at hn
  have hend : ∀ x : Int, x = (numL l : Int) → wnumS.post l [] A (.int .u32 x) A := fun x hx => ⟨rfl, by rw [hx]⟩
  conv => lhs; whnf
  repeat (first | refine go_dec i0 ?_ | refine go_dec i1 ?_ | refine go_dec i2 ?_ | refine go_dec i3 ?_ | refine go_rd b0 ?_ | refine go_rd b1 ?_ | refine go_rd b2 ?_ | refine go_rd b3 ?_ | refine go_D hD rfl ?_
          conv => lhs; whnf)
  exact (hD _).2 (hend _ hn)

def wunfS : FSpec := ⟨List UInt8, fun l vs A => ∃ x, vs = [x] ∧ SlB A x l ∧ l.length ≤ 900000000, fun l _ A v A' => A.Sub A' ∧ (unfrL l = none → v = .tuple #[.slice none 0 0, .int .i64 0, .int .i64 4]) ∧ ∀ p n, unfrL l = some (p, n) → ∃ y, v = .tuple #[y, .int .i64 (n : Nat), .int .i64 0] ∧ SlB (A'.minus A) y p⟩

set_option maxRecDepth 100000 in
set_option maxHeartbeats 0 in
theorem wunf_ok : FOk Tryd.prog 50 wunfS := by
  refine fok_v mixed fun (l : List UInt8) vs A hp => ?_
  obtain ⟨x, rfl, hX, hlen⟩ : ∃ x, vs = [x] ∧ SlB A x l ∧ l.length ≤ 900000000 := hp
  have hX0 := hX.1
  obtain ⟨ao, c, rfl, hc, hcl, ha1, ha2, ha3⟩ := hX0
  have hC : CTSound Tryd.prog (lookC [specE 66 wnumS, specE 40 sumS, specE 41 cloneBytesS] noC) := lookC_sound (noC_sound _) (fun x hx => by
    simp only [List.mem_cons, List.not_mem_nil, or_false] at hx
    rcases hx with rfl | rfl | rfl
    · exact specE_ok wnum_ok
    · exact specE_ok sum_ok
    · exact specE_ok cloneBytes_ok)
  refine ⟨_, noL, 60, hC, noL_sound _, fun blk os out tape D hD => ?_⟩
  have hbad : ∀ A1, A.Sub A1 → unfrL l = none → wunfS.post l [] A (.tuple #[.slice none 0 0, .int .i64 0, .int .i64 4]) A1 := fun A1 h1 h2 => ⟨h1, fun _ => rfl, fun p n h => (by rw [h2] at h; cases h)⟩
  conv => lhs; whnf
  refine split_dec (fun h8 => ?_) (fun h8 => ?_)
  · have h8 : (l.length : Int) < 8 := h8
    have hend := hbad A (Arena.Sub.refl _) (if_pos (.inl (by omega)))
    conv => lhs; whnf
    exact (hD _).2 hend
  have h8 : 8 ≤ l.length := by
    have h8 : ¬ (l.length : Int) < 8 := h8
    omega
  obtain ⟨g, o, e, hra⟩ := Sl.at_ hc ha1 ha2 ha3 (by omega)
  subst e
  conv => lhs; whnf
  refine (hD _).2 ⟨l, ⟨_, rfl, hX.1, by omega⟩, fun v A1 hq => ?_⟩
  have hq : A1 = A ∧ v = .int .u32 (numL l) := hq
  have h9 := hq.1.symm
  have hv := hq.2
  subst h9
  subst hv
  have hnl := numL_lt l
  obtain ⟨n, hn⟩ : ∃ n, n = numL l := ⟨_, rfl⟩
  rw [← hn] at hnl ⊢
  have hun : unfrL l = if l.length < 8 ∨ 1048576 < n ∨ l.length < 8 + n ∨ (crcSum ((l.drop 8).take n)).toNat ≠ numL (l.drop 4) then none else some ((l.drop 8).take n, 8 + n) := by rw [hn]; rfl
  clear hn
  have hnw : IntKind.i64.wrap (n : Int) = (n : Int) := i64_in (by omega) (by omega)
  have hl8 : IntKind.i64.wrap ((l.length : Int) - 8) = (l.length : Int) - 8 := i64_in (by omega) (by omega)
  conv => lhs; whnf
  refine split_dec (fun q1 => ?_) (fun q1 => ?_)
  · have q1 : (1048576 : Int) < IntKind.i64.wrap (n : Int) := q1
    rw [hnw] at q1
    have hend := hbad A (Arena.Sub.refl _) (by rw [hun]; exact if_pos (.inr (.inl (by omega))))
    conv => lhs; whnf
    exact (hD _).2 hend
  have q1 : n ≤ 1048576 := by
    have q1 : ¬ (1048576 : Int) < IntKind.i64.wrap (n : Int) := q1
    rw [hnw] at q1
    omega
  conv => lhs; whnf
  refine split_dec (fun q2 => ?_) (fun q2 => ?_)
  · have q2 : IntKind.i64.wrap ((l.length : Int) - 8) < IntKind.i64.wrap (n : Int) := q2
    rw [hnw, hl8] at q2
    have hend := hbad A (Arena.Sub.refl _) (by rw [hun]; exact if_pos (.inr (.inr (.inl (by omega)))))
    conv => lhs; whnf
    exact (hD _).2 hend
  have q2 : 8 + n ≤ l.length := by
    have q2 : ¬ IntKind.i64.wrap ((l.length : Int) - 8) < IntKind.i64.wrap (n : Int) := q2
    rw [hnw, hl8] at q2
    omega
  have hhi : IntKind.i64.wrap (8 + IntKind.i64.wrap (n : Int)) = ((8 + n : Nat) : Int) := by rw [hnw, i64_in (by omega) (by omega)]; omega
  have hb1 : ((decide ((0 : Int) ≤ 8) && decide ((8 : Int) ≤ IntKind.i64.wrap (8 + IntKind.i64.wrap (n : Int)))) && (false || decide (IntKind.i64.wrap (8 + IntKind.i64.wrap (n : Int)) ≤ (c : Int)))) = true := by
    rw [hhi]
    simp only [Bool.and_eq_true, Bool.or_eq_true, decide_eq_true_iff]
    omega
  have hb2 : ((decide ((0 : Int) ≤ 4) && decide ((4 : Int) ≤ (l.length : Int))) && (true || decide ((l.length : Int) ≤ (c : Int)))) = true := by
    simp only [Bool.and_eq_true, Bool.or_eq_true, decide_eq_true_iff]
    omega
  have hP1 := Sl.part (lo := 8) (hi := 8 + n) hX.1 (by omega) q2
  have hP2 := Sl.part (lo := 4) (hi := l.length) hX.1 (by omega) (Nat.le_refl _)
  rw [show 8 + n - 8 = n by omega] at hP1
  have htl : ((l.drop 8).take n).length = n := by rw [List.length_take, List.length_drop]; omega
  have hdl : (l.drop 4).length = l.length - 4 := List.length_drop
  rw [show (l.drop 4).take (l.length - 4) = l.drop 4 from List.take_of_length_le (by omega)] at hP2
  generalize hp : (l.drop 8).take n = p at *
  generalize hr : l.drop 4 = r4 at *
  have hS1 : ∀ x : Int, x = ((8 + n : Nat) : Int) → SlB A (.slice (some ⟨g, o + (bif c.beq (Int.toNat 8) then 0 else Int.toNat 8 * 1), none⟩) (x.toNat - Int.toNat 8) (c - Int.toNat 8)) p := fun x hx => by
    rw [hx]
    refine ⟨?_, by omega⟩
    rw [htl]
    show Sl A 1 n (.slice _ (8 + n - 8) (c - 8)) _
    rw [show 8 + n - 8 = n by omega]
    exact hP1
  have hS2 : Sl A 1 r4.length (.slice (some ⟨g, o + (bif c.beq (Int.toNat 4) then 0 else Int.toNat 4 * 1), none⟩) ((l.length : Int).toNat - Int.toNat 4) (c - Int.toNat 4)) (r4.map bv) := by
    rw [hdl]
    exact hP2
  conv => lhs; whnf
  refine go_b hb1 ?_
  conv => lhs; whnf
  refine go_b hb2 ?_
  conv => lhs; whnf
  refine (hD _).2 ⟨p, ⟨_, rfl, hS1 _ hhi⟩, fun v A1 hq => ?_⟩
  obtain ⟨s1, hv⟩ : A.Sub A1 ∧ v = .int .u32 (u32v (crcSum p)) := hq
  subst hv
  conv => lhs; whnf
  refine (hD _).2 ⟨r4, ⟨_, rfl, hS2.sub s1, by omega⟩, fun v A2 hq => ?_⟩
  have hq : A2 = A1 ∧ v = .int .u32 (numL r4) := hq
  have h9 := hq.1.symm
  have hv := hq.2
  subst h9
  subst hv
  conv => lhs; whnf
  refine split_nd (fun q3 => ?_) (fun q3 => ?_)
  rotate_left
  · have hend := hbad A1 s1 (by rw [hun]; exact if_pos (.inr (.inr (.inr fun e => q3 (u32v_inj.2 e)))))
    conv => lhs; whnf
    exact (hD _).2 hend
  have hun2 : unfrL l = some (p, 8 + n) := by
    rw [hun, if_neg]
    rintro (h | h | h | h)
    · omega
    · omega
    · omega
    · exact h (u32v_inj.1 q3)
  have hS1' : ∀ x : Int, x = ((8 + n : Nat) : Int) → SlB A1 (.slice (some ⟨g, o + (bif c.beq (Int.toNat 8) then 0 else Int.toNat 8 * 1), none⟩) (x.toNat - Int.toNat 8) (c - Int.toNat 8)) p := fun x hx => (hS1 x hx).sub s1
  conv => lhs; whnf
  refine go_b hb1 ?_
  conv => lhs; whnf
  refine (hD _).2 ⟨p, ⟨_, rfl, hS1' _ hhi⟩, fun v A3 hq => ?_⟩
  obtain ⟨s3, hS3⟩ : A1.Sub A3 ∧ SlB (A3.minus A1) v p := hq
  obtain ⟨av, cv, hvf⟩ := hS3.1.form
  subst hvf
  have hend : ∀ x : Int, x = ((8 + n : Nat) : Int) → wunfS.post l [] A (.tuple #[.slice av p.length cv, .int .i64 x, .int .i64 0]) A3 := fun x hx => ⟨s1.trans s3, fun h => (by rw [hun2] at h; cases h), fun p' n' h => by
    rw [hun2] at h
    injection h with h
    injection h with h1 h2
    subst h1; subst h2
    exact ⟨_, by rw [hx], hS3.sub (minus_later s1)⟩⟩
  conv => lhs; whnf
  repeat (first | refine go_D hD rfl ?_
          conv => lhs; whnf)
  exact (hD _).2 (hend _ hhi)

end
end Go.Proofs.YtiabopbigplklaaDoor

namespace Go.Proofs.YtiabopbigplklaaDoor
open Go.Sx Go.RowKit
noncomputable section
open Classical

def checkS : FSpec := ⟨ByteArray, fun p vs _ => vs = [.string p], fun p _ A v A' => A' = A ∧ v = .bool (pathOk p.data.toList)⟩

theorem check_ok : FOk Tryd.prog 35 checkS := by
  intro p vs A w hA hp
  obtain rfl : vs = [.string p] := hp
  refine goes_of_calls Tryd.func35 ⟨by kernel_rfl, by kernel_rfl⟩ ?_
  intro cs
  obtain ⟨e, w', fr, ⟨k1, b1, b2, b3, _, b5⟩, k3⟩ := check1 p w cs
  have hlt : ∀ k o, A.blk k = some o → k < w.heap.size := fun k o hk => (Array.getElem?_eq_some_iff.1 (hA k o hk)).1
  exact ⟨e, w', fr, ⟨_, k1, A, ⟨rfl, rfl⟩, b1, b3, b2, fun k _ hk => b5 k hk, fun k o hk => (b5 k (hlt k o hk)).trans (hA k o hk), fun k o ho => .inl ⟨o, ho⟩⟩, k3⟩

end
end Go.Proofs.YtiabopbigplklaaDoor
