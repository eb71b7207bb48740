/-
  The program's writer, as those want it that make one: it is new, all that lay ahead of it stays.
  ensemble.Put.
  Plain: the CRC-32, four bits at a time by a table, is the CRC-32 bit by bit.
  Plain: the CRC-32 as both programs reckon it, in numbers of 32 bits.
  wire.Sum.
  A list in a block that is new; frames, plain.
  wire: a number's four bytes; a frame.
  The program's writer: Bytes, of what lay ahead of it or is new.
  What putting an image answers.
-/
import Derived.Test.YthbaimobihmhiaaGreatDoorG10
import Derived.Test.YthbaimobihmhiaaGreatDoorG08
import Derived.Test.YthbaimobihmhiaaGreatDoorG01
namespace Go.Proofs.YthbaimobihmhiaaGreatDoor
open Go.Sx Go.RowKit
noncomputable section
open Classical

theorem fok_weak {P : Program} {f : FuncId} {S S' : FSpec} (h : FOk P f S) (hw : ∀ g' vs A, S'.pre g' vs A → ∃ g, S.pre g vs A ∧ ∀ v A', S.post g vs A v A' → S'.post g' vs A v A') : FOk P f S' := by
  intro g' vs A w hA hp
  obtain ⟨g, h1, h2⟩ := hw g' vs A hp
  exact (h g vs A w hA h1).mono (fun v w' ⟨A', k1, k2⟩ => ⟨A', h2 v A' k1, k2⟩) fun _ _ h => h

/-- A writer that is new behind A0. -/
def BfN (A0 A : Arena) (w : Nat) (l : List UInt8) : Prop := A0.Sub A ∧ A0.blk w = none ∧ ∃ L, BfR A w L l ∧ ∀ g, L.g = some g → A0.blk g = none

theorem BfN.to {A0 A A' : Arena} {w : Nat} {L : LsD} {l' : List UInt8} (hs : A0.Sub A) (hw : A0.blk w = none) (hg : ∀ g, L.g = some g → A0.blk g = none) (h : BfTo A w L l' A') : BfN A0 A' w l' := by
  obtain ⟨L', h1, h2, h3⟩ := h
  refine ⟨fun k o hk => h2 k o (hs k o hk) (fun e => (by rw [e, hw] at hk; cases hk)) fun e => (by rw [hg k e] at hk; cases hk), hw, L', h1, fun g hg' => ?_⟩
  rcases h3 g hg' with h | h
  · exact hg g h
  · cases hA : A0.blk g with
    | none => rfl
    | some o => rw [hs g o hA] at h; cases h

theorem BfN.grow {A0 A A' : Arena} {w : Nat} {l : List UInt8} (h : BfN A0 A w l) (hs : A.Sub A') : BfN A0 A' w l := by
  obtain ⟨h1, h2, L, ⟨⟨lr, k1⟩, k2, k3, k4, k5⟩, h4⟩ := h
  exact ⟨fun k o hk => hs k o (h1 k o hk), h2, L, ⟨⟨lr, k1.sub fun o ho => hs w o ho⟩, k2.keep fun g o _ ho => hs g o ho, k3, k4, k5⟩, h4⟩

theorem BfN.new {A0 A A' : Arena} {w : Nat} {c : Array Value} {t : TypeId} (h0 : A0.Sub A) (h : A.New A' w c t) (hc : c.toList = [.slice none 0 0, .int .i64 0, .int .i8 0]) : BfN A0 A' w [] := by
  refine ⟨fun k o hk => h.sub k o (h0 k o hk), ?_, ⟨.slice none 0 0, 0, 0, none⟩, ⟨⟨0, c, t, (0, 0), h.at_, .inl rfl, hc⟩, .inl ⟨rfl, rfl, rfl, rfl, none, rfl⟩, fun e => (by cases e), fun _ => rfl, by decide⟩, fun g e => (by cases e)⟩
  cases hA : A0.blk w with
  | none => rfl
  | some o => have := h0 w o hA; rw [h.none_] at this; cases this

structure NwG where
  A0 : Arena
  w : Nat
  l : List UInt8

def nByteS : FSpec := ⟨NwG × UInt8, fun g vs A => vs = [.pointer (some ⟨g.1.w, 0, none⟩), .int .u8 g.2.toNat] ∧ BfN g.1.A0 A g.1.w g.1.l ∧ g.1.l.length ≤ 880000000, fun g _ _ v A' => v = .tuple #[] ∧ BfN g.1.A0 A' g.1.w (g.1.l ++ [g.2])⟩

theorem nByte_ok : FOk Tryz.prog 32 nByteS := fok_weak wwByte_ok fun ⟨⟨_, w, l⟩, b⟩ _ _ ⟨h1, ⟨h2, h3, L, h4, h5⟩, h6⟩ =>
  ⟨⟨w, L, l, b⟩, ⟨h1, h4, by have h6 : l.length ≤ 880000000 := h6; show l.length ≤ 890000000; omega⟩, fun _ _ ⟨k1, k2⟩ => ⟨k1, BfN.to h2 h3 h5 k2⟩⟩

def nIntS : FSpec := ⟨NwG × Int, fun g vs A => vs = [.pointer (some ⟨g.1.w, 0, none⟩), .int .i64 g.2] ∧ BfN g.1.A0 A g.1.w g.1.l ∧ g.1.l.length ≤ 880000000 ∧ -9223372036854775808 ≤ g.2 ∧ g.2 ≤ 9223372036854775807, fun g _ _ v A' => v = .tuple #[] ∧ BfN g.1.A0 A' g.1.w (g.1.l ++ vints g.2)⟩

theorem nInt_ok : FOk Tryz.prog 33 nIntS := fok_weak wwInt_ok fun ⟨⟨_, w, l⟩, n⟩ _ _ ⟨h1, ⟨h2, h3, L, h4, h5⟩, h6⟩ =>
  ⟨⟨w, L, l, n⟩, ⟨h1, h4, h6⟩, fun _ _ ⟨k1, k2⟩ => ⟨k1, BfN.to h2 h3 h5 k2⟩⟩

def nTextS : FSpec := ⟨NwG × List UInt8, fun g vs A => vs = [.pointer (some ⟨g.1.w, 0, none⟩), .string ⟨g.2.toArray⟩] ∧ BfN g.1.A0 A g.1.w g.1.l ∧ g.1.l.length + g.2.length ≤ 880000000, fun g _ _ v A' => v = .tuple #[] ∧ BfN g.1.A0 A' g.1.w (g.1.l ++ vints g.2.length ++ g.2)⟩

theorem nText_ok : FOk Tryz.prog 34 nTextS := fok_weak wwText_ok fun ⟨⟨_, w, l⟩, s⟩ _ _ ⟨h1, ⟨h2, h3, L, h4, h5⟩, h6⟩ =>
  ⟨⟨w, L, l, s⟩, ⟨h1, h4, h6⟩, fun _ _ ⟨k1, k2⟩ => ⟨k1, BfN.to h2 h3 h5 k2⟩⟩

def nBytesS : FSpec := ⟨NwG × List UInt8, fun g vs A => ∃ x, vs = [.pointer (some ⟨g.1.w, 0, none⟩), x] ∧ BfN g.1.A0 A g.1.w g.1.l ∧ g.1.l.length + g.2.length ≤ 880000000 ∧ Sl g.1.A0 1 g.2.length x (g.2.map bv), fun g _ _ v A' => v = .tuple #[] ∧ BfN g.1.A0 A' g.1.w (g.1.l ++ vints g.2.length ++ g.2)⟩

theorem nBytes_ok : FOk Tryz.prog 35 nBytesS := fok_weak wwBytes_ok fun ⟨⟨A0, w, l⟩, s⟩ _ _ ⟨x, h1, ⟨h2, h3, L, h4, h5⟩, h6, h7⟩ =>
  ⟨⟨w, L, l, s, A0⟩, ⟨x, h1, h4, h6, h7, fun k o hk => ⟨h2 k o hk, fun e => (by rw [e, h3] at hk; cases hk), fun e => (by rw [h5 k e] at hk; cases hk)⟩⟩, fun _ _ ⟨k1, k2⟩ => ⟨k1, BfN.to h2 h3 h5 k2⟩⟩

/-- All that was put, in a row of its own. -/
def nDoneS : FSpec := ⟨NwG, fun g vs A => vs = [.pointer (some ⟨g.w, 0, none⟩)] ∧ BfN g.A0 A g.w g.l ∧ g.l.length ≤ 890000000, fun g _ A v A' => A.Sub A' ∧ SlB (A'.minus A) v g.l⟩

set_option maxRecDepth 100000 in
set_option maxHeartbeats 0 in
theorem nDone_ok : FOk Tryz.prog 39 nDoneS := by
  refine fok_v mixed fun ⟨A0, w, l⟩ vs A hp => ?_
  obtain ⟨rfl, ⟨h1, h2, L, hW, h5⟩, hlen⟩ : vs = [.pointer (some ⟨w, 0, none⟩)] ∧ BfN A0 A w l ∧ l.length ≤ 890000000 := hp
  have hC : CTSound Tryz.prog (lookC [specE 65 cloneBytesS] noC) := lookC_sound (noC_sound _) (fun x hx => by
    simp only [List.mem_singleton] at hx
    subst hx
    exact specE_ok cloneBytes_ok)
  refine ⟨_, noL, 60, hC, noL_sound _, fun blk os out tape D hD => ?_⟩
  obtain ⟨lr, htop⟩ := hW.top
  have hL := hW.len
  have hrow := hW.row
  rcases hrow with ⟨k1, k2, k3, k4, -⟩ | ⟨g, k1, k2, k3, k5⟩
  · have hv := hW.nil k1
    rw [hv] at htop
    have r1 : A.rd w 0 1 = some [.slice none 0 0] := htop.rd (o := 0) (n := 1) (by show 0 + 1 ≤ 3; omega)
    have r2 : A.rd w 1 1 = some [.int .i64 0] := htop.rd (o := 1) (n := 1) (by show 1 + 1 ≤ 3; omega)
    have hl0 : l = [] := List.length_eq_zero_iff.1 (by omega)
    have hS : SlB A (.slice none 0 0) l := by
      rw [hl0]
      exact ⟨Sl.nil _ _, by decide⟩
    conv => lhs; whnf
    repeat (first | refine go_rd r1 ?_ | refine go_rd r2 ?_ | refine go_D hD rfl ?_
            conv => lhs; whnf)
    refine (hD _).2 ⟨l, ⟨_, rfl, hS⟩, fun v A' hq => ?_⟩
    conv => lhs; whnf
    repeat (first | refine go_D hD rfl ?_
            conv => lhs; whnf)
    exact (hD _).2 hq
  · rw [k2] at htop
    have r1 : A.rd w 0 1 = some [.slice (some ⟨g, 0, none⟩) L.n L.c] := htop.rd (o := 0) (n := 1) (by show 0 + 1 ≤ 3; omega)
    have r2 : A.rd w 1 1 = some [.int .i64 0] := htop.rd (o := 1) (n := 1) (by show 1 + 1 ≤ 3; omega)
    have hS : SlB A (.slice (some ⟨g, 0, none⟩) L.n L.c) l := ⟨by
      have h9 : Sl A 1 L.n (.slice (some ⟨g, 0, none⟩) L.n L.c) (l.map bv) := Sl.row k5.le k5.rd
      rw [hL] at h9 ⊢
      exact h9, by omega⟩
    have e5 : Value.slice (some ⟨g, 0 + (bif L.c.beq (Int.toNat 0) then 0 else Int.toNat 0 * 1), none⟩) ((L.n : Int).toNat - Int.toNat 0) (L.c - Int.toNat 0) = .slice (some ⟨g, 0, none⟩) L.n L.c := by
      have e5 : (bif L.c.beq (Int.toNat 0) then 0 else Int.toNat 0 * 1) = 0 := by cases L.c.beq (Int.toNat 0) <;> rfl
      rw [e5]
      rfl
    have hS2 : SlB A (Value.slice (some ⟨g, 0 + (bif L.c.beq (Int.toNat 0) then 0 else Int.toNat 0 * 1), none⟩) ((L.n : Int).toNat - Int.toNat 0) (L.c - Int.toNat 0)) l := by rw [e5]; exact hS
    conv => lhs; whnf
    repeat (first | refine go_rd r1 ?_ | refine go_rd r2 ?_ | refine go_D hD rfl ?_
            conv => lhs; whnf)
    refine (hD _).2 ⟨l, ⟨_, rfl, hS2⟩, fun v A' hq => ?_⟩
    conv => lhs; whnf
    repeat (first | refine go_D hD rfl ?_
            conv => lhs; whnf)
    exact (hD _).2 hq

end
end Go.Proofs.YthbaimobihmhiaaGreatDoor

namespace Go.Proofs.YthbaimobihmhiaaGreatDoor
open Go.Sx Go.RowKit
noncomputable section
open Classical

def alWr : TypeId → Bool := fun t => Nat.beq t 105

def ensPutS : FSpec := ⟨Int × List MemD, fun g vs A => ∃ vm, vs = [.agg #[.int .i64 g.1, vm]] ∧ MemR A vm g.2 ∧ ensD g.1 g.2 = 0, fun g _ A v A' => A.Sub A' ∧ ∃ x, v = .tuple #[x, .int .i64 0] ∧ SlB (A'.minus A) x (ensB g.1 g.2)⟩

def ensPutInv (A0 : Arena) (w : Nat) (ver : Int) (ms : List MemD) : LInv :=
  { γ := Nat × Arena, G := fun s => s.1 ≤ ms.length ∧ BfN A0 s.2 w (vints ver ++ vints ms.length ++ (ms.take s.1).flatMap memB),
    keepS := [5, 26, 27], keepB := [], sl := fun s => [(28, .v (.int .i64 s.1))], bl := fun _ => [], ar := fun s => s.2, mu := fun s => ms.length - s.1 }

theorem ensPutC : CTSound Tryz.prog (lookC [specE 58 ensS, specE 33 nIntS, specE 39 nDoneS] noC) := lookC_sound (noC_sound _) (fun x hx => by
  simp only [List.mem_cons, List.not_mem_nil, or_false] at hx
  rcases hx with rfl | rfl | rfl
  · exact specE_ok ens_ok
  · exact specE_ok nInt_ok
  · exact specE_ok nDone_ok)

set_option maxRecDepth 100000 in
set_option maxHeartbeats 0 in
theorem ensPut_ok : FOk Tryz.prog 37 ensPutS := by
  refine fok_a mixed alWr fun ⟨ver, ms⟩ vs A hp => ?_
  obtain ⟨vm, rfl, hM, hE⟩ : ∃ vm, vs = [.agg #[.int .i64 ver, vm]] ∧ MemR A vm ms ∧ ensD ver ms = 0 := hp
  have hM0 := hM
  obtain ⟨⟨ao, c, rfl, hc, hml, ha1, ha2, ha3⟩, hm32⟩ := hM0
  have hin := ens_in hE
  obtain ⟨h7, hv0, hv1, hmi⟩ := hin
  refine ⟨_, tabO Tryz.prog _ noL 60 [(37, 0)], 60, ensPutC, tabO_sound mixed ensPutC (noL_sound _) _ _, fun blk os out tape D hD => ?_⟩
  conv => lhs; whnf
  refine (hD _).2 ⟨((ver, ms) : Int × List MemD), ⟨_, rfl, hM⟩, fun v A1 hq => ?_⟩
  have hq : A1 = A ∧ v = .int .i64 (ensD ver ms) := hq
  rw [hE] at hq
  have h9 := hq.1.symm
  have hv := hq.2
  subst h9
  subst hv
  conv => lhs; whnf
  refine (hD _).2 fun w A1 hN => ?_
  have hN : A.New A1 w #[.slice none 0 0, .int .i64 0, .int .i8 0] 105 := hN
  have hW0 := BfN.new (Arena.Sub.refl A) hN rfl
  conv => lhs; whnf
  refine (hD _).2 ⟨((⟨A, w, []⟩, ver) : NwG × Int), ⟨rfl, hW0, Nat.zero_le _, by show _ ≤ ver; omega, by show ver ≤ _; omega⟩, fun v A2 hq => ?_⟩
  obtain ⟨hv, hW1⟩ : v = .tuple #[] ∧ BfN A A2 w ([] ++ vints ver) := hq
  subst hv
  rw [List.nil_append] at hW1
  have hlv := vints_le ver
  have hln := vints_le (ms.length : Int)
  conv => lhs; whnf
  refine (hD _).2 ⟨((⟨A, w, vints ver⟩, (ms.length : Int)) : NwG × Int), ⟨rfl, hW1, by show (vints ver).length ≤ _; omega, by show _ ≤ (ms.length : Int); omega, by show (ms.length : Int) ≤ _; omega⟩, fun v A3 hq => ?_⟩
  obtain ⟨hv, hW2⟩ : v = .tuple #[] ∧ BfN A A3 w (vints ver ++ vints ms.length) := hq
  subst hv
  conv => lhs; whnf
  have hG0 : (ensPutInv A w ver ms).G (0, A3) := ⟨Nat.zero_le _, by show BfN A A3 w (vints ver ++ vints ms.length ++ []); rw [List.append_nil]; exact hW2⟩
  refine (hD _).2 ⟨ensPutInv A w ver ms, ⟨((0, A3) : Nat × Arena), hG0, ⟨rfl, trivial⟩, trivial, rfl⟩, fun (s : Nat × Arena) hG => ⟨⟨trivial, trivial⟩, trivial, ?_⟩⟩
  clear hG0 hW2 hW1 hW0 hN
  obtain ⟨k, A4⟩ := s
  obtain ⟨hk, hW⟩ : k ≤ ms.length ∧ BfN A A4 w (vints ver ++ vints ms.length ++ (ms.take k).flatMap memB) := hG
  obtain ⟨b0, hb0⟩ : ∃ b0, b0 = vints ver ++ vints ms.length ++ (ms.take k).flatMap memB := ⟨_, rfl⟩
  have hbl : b0.length ≤ 300 := by
    have h9 := flat_len_le memB_len (ms.take k)
    rw [List.length_take] at h9
    have h8 : min k ms.length * 40 ≤ 280 := by
      have : min k ms.length ≤ 7 := by omega
      omega
    rw [hb0, List.length_append, List.length_append]
    omega
  rw [← hb0] at hW
  conv => lhs; whnf
  refine split_dec (fun hlt => ?_) (fun hlt => ?_)
  · have hkl : k < ms.length := by
      have hlt : (k : Int) < (ms.length : Int) := hlt
      omega
    obtain ⟨g, o, rfl, hra⟩ := Sl.at_ hc ha1 ha2 ha3 (by omega)
    have r1 := rd_sub hW.1 (mem_at hra k hkl rfl)
    have i0 : (0 : Int) ≤ (k : Int) ∧ (k : Int) < (ms.length : Int) := by omega
    have hmk := hmi ms[k] (List.getElem_mem _)
    have hfin : ∀ A9, BfN A A9 w (b0 ++ vints ms[k].id ++ vints ms[k].role ++ vints ms[k].weight ++ vints ms[k].group) → (ensPutInv A w ver ms).G (k + 1, A9) := fun A9 h9 => by
      refine ⟨hkl, ?_⟩
      show BfN A A9 w (vints ver ++ vints ms.length ++ (ms.take (k + 1)).flatMap memB)
      rw [flatMap_snoc memB ms hkl, ← List.append_assoc, ← hb0]
      unfold memB
      simp only [← List.append_assoc]
      exact h9
    generalize ms[k] = m at *
    obtain ⟨id, role, weight, group⟩ := m
    obtain ⟨m1, m2, m3, m4, m5, m6, m7, m8⟩ := hmk
    dsimp only at m1 m2 m3 m4 m5 m6 m7 m8 r1 hfin
    conv => lhs; whnf
    repeat (first | refine go_in i0 ?_ | refine go_rd r1 ?_ | refine go_D hD rfl ?_
            conv => lhs; whnf)
    have hrole : [Value.pointer (some ⟨w, 0, none⟩), .int .i64 (IntKind.i64.wrap role)] = [.pointer (some ⟨w, 0, none⟩), .int .i64 role] := by rw [i64_in (by omega) (by omega)]
    have l1 := vints_le id
    have l2 := vints_le role
    have l3 := vints_le weight
    have l4 := vints_le group
    refine (hD _).2 ⟨((⟨A, w, b0⟩, id) : NwG × Int), ⟨rfl, hW, by show (b0).length ≤ _; (try simp only [List.length_append]); omega, by show _ ≤ id; omega, by show id ≤ _; omega⟩, fun v A9 hq => ?_⟩
    have hq : v = .tuple #[] ∧ BfN A A9 w (b0 ++ vints id) := hq
    have hv := hq.1
    have hW := hq.2
    subst hv
    clear hq
    conv => lhs; whnf
    repeat (first | refine go_D hD rfl ?_
            conv => lhs; whnf)
    refine (hD _).2 ⟨((⟨A, w, b0 ++ vints id⟩, role) : NwG × Int), ⟨hrole, hW, by show (b0 ++ vints id).length ≤ _; (try simp only [List.length_append]); omega, by show _ ≤ role; omega, by show role ≤ _; omega⟩, fun v A9 hq => ?_⟩
    have hq : v = .tuple #[] ∧ BfN A A9 w (b0 ++ vints id ++ vints role) := hq
    have hv := hq.1
    have hW := hq.2
    subst hv
    clear hq
    conv => lhs; whnf
    repeat (first | refine go_D hD rfl ?_
            conv => lhs; whnf)
    refine (hD _).2 ⟨((⟨A, w, b0 ++ vints id ++ vints role⟩, weight) : NwG × Int), ⟨rfl, hW, by show (b0 ++ vints id ++ vints role).length ≤ _; (try simp only [List.length_append]); omega, by show _ ≤ weight; omega, by show weight ≤ _; omega⟩, fun v A9 hq => ?_⟩
    have hq : v = .tuple #[] ∧ BfN A A9 w (b0 ++ vints id ++ vints role ++ vints weight) := hq
    have hv := hq.1
    have hW := hq.2
    subst hv
    clear hq
    conv => lhs; whnf
    repeat (first | refine go_D hD rfl ?_
            conv => lhs; whnf)
    refine (hD _).2 ⟨((⟨A, w, b0 ++ vints id ++ vints role ++ vints weight⟩, group) : NwG × Int), ⟨rfl, hW, by show (b0 ++ vints id ++ vints role ++ vints weight).length ≤ _; (try simp only [List.length_append]); omega, by show _ ≤ group; omega, by show group ≤ _; omega⟩, fun v A9 hq => ?_⟩
    have hq : v = .tuple #[] ∧ BfN A A9 w (b0 ++ vints id ++ vints role ++ vints weight ++ vints group) := hq
    have hv := hq.1
    have hW := hq.2
    subst hv
    clear hq
    conv => lhs; whnf
    repeat (first | refine go_D hD rfl ?_
            conv => lhs; whnf)
    have hG9 := hfin _ hW
    exact (hD _).2 ⟨((k + 1, _) : Nat × Arena), ⟨hG9, ⟨inc_slot (by omega), trivial⟩, trivial, rfl⟩, by show ms.length - (k + 1) < ms.length - k; omega, ⟨same1 rfl rfl, same1 rfl rfl, same1 rfl rfl, trivial⟩, trivial⟩
  · have hk9 : k = ms.length := by
      have hlt : ¬ (k : Int) < (ms.length : Int) := hlt
      omega
    conv => lhs; whnf
    refine (hD _).2 ⟨(⟨A, w, b0⟩ : NwG), ⟨rfl, hW, by show b0.length ≤ _; omega⟩, fun v A5 hq => ?_⟩
    obtain ⟨s5, hS⟩ : A4.Sub A5 ∧ SlB (A5.minus A4) v b0 := hq
    have hS1 := hS.sub (minus_later (A2 := A5) hW.1)
    obtain ⟨av, cv, hv⟩ := hS.1.form
    subst hv
    have hend : ensPutS.post (ver, ms) [] A (.tuple #[.slice av b0.length cv, .int .i64 0]) A5 := by
      refine ⟨hW.1.trans s5, _, rfl, ?_⟩
      show SlB (A5.minus A) _ (ensB ver ms)
      have e : ensB ver ms = b0 := by rw [hb0, hk9, List.take_length]; rfl
      rw [e]
      exact hS1
    conv => lhs; whnf
    repeat (first | refine go_D hD rfl ?_
            conv => lhs; whnf)
    exact (hD _).2 hend

end
end Go.Proofs.YthbaimobihmhiaaGreatDoor

namespace Go.Proofs.YthbaimobihmhiaaGreatDoor
open Go.Sx Go.RowKit
noncomputable section

/-- One bit. -/
def crcBit (c : BitVec 32) : BitVec 32 := (c >>> 1) ^^^ (if c.getLsbD 0 then 0xEDB88320#32 else 0#32)

def crcBits : Nat → BitVec 32 → BitVec 32
  | 0, c => c
  | n + 1, c => crcBits n (crcBit c)

/-- Four bits by a table. -/
def crcTab (i : BitVec 32) : BitVec 32 := crcBits 4 i

def crcNib (c : BitVec 32) : BitVec 32 := (c >>> 4) ^^^ crcTab (c &&& 15#32)

theorem crcBit_xor (a b : BitVec 32) : crcBit (a ^^^ b) = crcBit a ^^^ crcBit b := by
  unfold crcBit
  rw [BitVec.ushiftRight_xor_distrib, BitVec.getLsbD_xor]
  have h : ∀ x y : BitVec 32, ∀ p q : Bool, x ^^^ y ^^^ (if (p ^^ q) = true then 0xEDB88320#32 else 0#32) = (x ^^^ (if p = true then 0xEDB88320#32 else 0#32)) ^^^ (y ^^^ (if q = true then 0xEDB88320#32 else 0#32)) := fun x y p q => by
    have e : (if (p ^^ q) = true then 0xEDB88320#32 else 0#32) = (if p = true then 0xEDB88320#32 else 0#32) ^^^ (if q = true then 0xEDB88320#32 else 0#32) := by
      cases p <;> cases q <;> decide
    rw [e]
    ac_rfl
  exact h _ _ _ _

theorem crcBits_xor : ∀ (n : Nat) (a b : BitVec 32), crcBits n (a ^^^ b) = crcBits n a ^^^ crcBits n b
  | 0, _, _ => rfl
  | n + 1, a, b => by
    show crcBits n (crcBit (a ^^^ b)) = crcBits n (crcBit a) ^^^ crcBits n (crcBit b)
    rw [crcBit_xor, crcBits_xor n]

/-- What ends in noughts is only shifted. -/
theorem crcBit_even {c : BitVec 32} (h : c.getLsbD 0 = false) : crcBit c = c >>> 1 := by
  unfold crcBit
  rw [h, if_neg Bool.false_ne_true, BitVec.xor_zero]

theorem crcBits_even : ∀ (n : Nat) {c : BitVec 32}, (∀ i, i < n → c.getLsbD i = false) → crcBits n c = c >>> n
  | 0, c, _ => by show c = c >>> 0; rw [BitVec.ushiftRight_zero]
  | n + 1, c, h => by
    show crcBits n (crcBit c) = c >>> (n + 1)
    rw [crcBit_even (h 0 (Nat.succ_pos _)), crcBits_even n fun i hi => ?_]
    · rw [Nat.add_comm n 1, BitVec.shiftRight_add]
    · rw [BitVec.getLsbD_ushiftRight]
      exact h _ (by omega)

theorem crc_low (c : BitVec 32) : c = (c &&& 15#32) ^^^ (c &&& 0xFFFFFFF0#32) := by
  apply BitVec.eq_of_getLsbD_eq
  intro i hi
  rw [BitVec.getLsbD_xor, BitVec.getLsbD_and, BitVec.getLsbD_and]
  have key : ∀ k, k < 32 → ((15#32).getLsbD k ^^ (0xFFFFFFF0#32).getLsbD k) = true := by decide
  have := key i hi
  revert this
  cases c.getLsbD i <;> cases (15#32).getLsbD i <;> cases (0xFFFFFFF0#32).getLsbD i <;> decide

theorem crc_high (c : BitVec 32) : (c &&& 0xFFFFFFF0#32) >>> 4 = c >>> 4 := by
  apply BitVec.eq_of_getLsbD_eq
  intro i hi
  rw [BitVec.getLsbD_ushiftRight, BitVec.getLsbD_ushiftRight, BitVec.getLsbD_and]
  by_cases h : 4 + i < 32
  · have : (0xFFFFFFF0#32).getLsbD (4 + i) = true := by
      have key : ∀ k, k < 28 → (0xFFFFFFF0#32).getLsbD (4 + k) = true := by decide
      exact key i (by omega)
    rw [this, Bool.and_true]
  · rw [BitVec.getLsbD_of_ge c _ (by omega), Bool.false_and]

/-- Four bits at once. -/
theorem crcNib_eq (c : BitVec 32) : crcNib c = crcBits 4 c := by
  have h : crcBits 4 c = crcBits 4 (c &&& 15#32) ^^^ crcBits 4 (c &&& 0xFFFFFFF0#32) := by
    rw [← crcBits_xor, ← crc_low]
  rw [h, crcBits_even 4 (c := c &&& 0xFFFFFFF0#32) fun i hi => ?_, crc_high]
  · show c >>> 4 ^^^ crcBits 4 (c &&& 15#32) = _
    rw [BitVec.xor_comm]
  · rw [BitVec.getLsbD_and]
    have key : ∀ k, k < 4 → (0xFFFFFFF0#32).getLsbD k = false := by decide
    rw [key i hi, Bool.and_false]

theorem crcBits_add : ∀ (m n : Nat) (c : BitVec 32), crcBits (m + n) c = crcBits n (crcBits m c)
  | 0, n, c => by rw [Nat.zero_add]; rfl
  | m + 1, n, c => by
    rw [show m + 1 + n = (m + n) + 1 by omega]
    show crcBits (m + n) (crcBit c) = crcBits n (crcBits m (crcBit c))
    exact crcBits_add m n _

/-- One byte. -/
def crcByte (c : BitVec 32) (x : UInt8) : BitVec 32 := crcBits 8 (c ^^^ x.toBitVec.setWidth 32)

theorem crcByte_nib (c : BitVec 32) (x : UInt8) : crcByte c x = crcNib (crcNib (c ^^^ x.toBitVec.setWidth 32)) := by
  rw [crcNib_eq, crcNib_eq, ← crcBits_add]
  rfl

/-- All bytes. -/
def crcFold (l : List UInt8) (c : BitVec 32) : BitVec 32 := l.foldl crcByte c

def crcSum (l : List UInt8) : BitVec 32 := ~~~ crcFold l (BitVec.allOnes 32)

end
end Go.Proofs.YthbaimobihmhiaaGreatDoor

namespace Go.Proofs.YthbaimobihmhiaaGreatDoor
open Go.Sx Go.RowKit
noncomputable section

/-- A number of 32 bits. -/
def u32v (c : BitVec 32) : Int := (c.toNat : Int)

theorem u32_wrap {n : Nat} (h : n < 4294967296) : IntKind.u32.wrap (n : Int) = (n : Int) := by
  have h : IntKind.u32.wrap (n : Int) = (n : Int) % 4294967296 := rfl
  rw [h]; omega

theorem ofInt_u32 (c : BitVec 32) : BitVec.ofInt IntKind.u32.bits (u32v c) = c := by
  show BitVec.ofInt 32 ((c.toNat : Nat) : Int) = c
  rw [BitVec.ofInt_natCast, BitVec.ofNat_toNat, BitVec.setWidth_eq]

theorem xor_u32 (a b : BitVec 32) : bitsOf .xor .u32 (u32v a) (u32v b) = u32v (a ^^^ b) := by
  show IntKind.u32.wrap (((BitVec.ofInt IntKind.u32.bits (u32v a) ^^^ BitVec.ofInt IntKind.u32.bits (u32v b)).toNat : Nat) : Int) = _
  rw [ofInt_u32, ofInt_u32, u32_wrap (BitVec.isLt _)]
  rfl

theorem and_u32 (a b : BitVec 32) : bitsOf .and .u32 (u32v a) (u32v b) = u32v (a &&& b) := by
  show IntKind.u32.wrap (((BitVec.ofInt IntKind.u32.bits (u32v a) &&& BitVec.ofInt IntKind.u32.bits (u32v b)).toNat : Nat) : Int) = _
  rw [ofInt_u32, ofInt_u32, u32_wrap (BitVec.isLt _)]
  rfl

theorem pow_nn (k : Nat) : (0 : Int) ≤ 2 ^ k := by exact_mod_cast Nat.zero_le (2 ^ k)

theorem shr_u32 (a : BitVec 32) (k : Nat) (hk : k ≤ 32) : (u32v a).fdiv (2 ^ (min (k : Int).toNat IntKind.u32.bits)) = u32v (a >>> k) := by
  have e : min (k : Int).toNat IntKind.u32.bits = k := by
    show min k 32 = k
    omega
  unfold u32v
  rw [e, Int.fdiv_eq_ediv_of_nonneg _ (pow_nn k), BitVec.toNat_ushiftRight, Nat.shiftRight_eq_div_pow]
  norm_cast

theorem byte_u32 (x : UInt8) : IntKind.u32.wrap ((x.toNat : Nat) : Int) = u32v (x.toBitVec.setWidth 32) := by
  have hx : x.toNat < 256 := x.toNat_lt
  rw [u32_wrap (by omega)]
  unfold u32v
  rw [BitVec.toNat_setWidth]
  show ((x.toNat : Nat) : Int) = ((x.toNat % 4294967296 : Nat) : Int)
  rw [Nat.mod_eq_of_lt (by omega)]

/-- Four bits at once, as the program reckons its table. -/
def tabI (c : Int) : Int := bitsOf .xor .u32 (c.fdiv (2 ^ (min (1 : Int).toNat IntKind.u32.bits))) (IntKind.u32.wrap (3988292384 * bitsOf .and .u32 c 1))

theorem tab_eq (i : Nat) (h : i < 16) : tabI (tabI (tabI (tabI (IntKind.u32.wrap (i : Int))))) = u32v (crcTab (BitVec.ofNat 32 i)) := by
  have key : ∀ i : Fin 16, tabI (tabI (tabI (tabI (IntKind.u32.wrap ((i.val : Nat) : Int))))) = u32v (crcTab (BitVec.ofNat 32 i.val)) := by decide +kernel
  exact key ⟨i, h⟩

/-- The table's place. -/
theorem low_lt (c : BitVec 32) : (c &&& 15#32).toNat < 16 := by
  rw [BitVec.toNat_and]
  exact Nat.lt_of_le_of_lt Nat.and_le_right (by decide)

theorem nib_u32 (c : BitVec 32) : bitsOf .xor .u32 ((u32v c).fdiv (2 ^ (min (4 : Int).toNat IntKind.u32.bits))) (u32v (crcTab (BitVec.ofNat 32 (c &&& 15#32).toNat))) = u32v (crcNib c) := by
  rw [show (4 : Int) = ((4 : Nat) : Int) from rfl, shr_u32 c 4 (by decide), xor_u32, BitVec.ofNat_toNat, BitVec.setWidth_eq]
  rfl

theorem not_u32 (c : BitVec 32) : bitsOf .xor .u32 (u32v c) 4294967295 = u32v (~~~ c) := by
  have e : (4294967295 : Int) = u32v (BitVec.allOnes 32) := by decide +kernel
  rw [e, xor_u32, BitVec.xor_allOnes]

/-! ### Bit by bit, as the document does -/

theorem odd_u32 (c : BitVec 32) : decide ((u32v c).tmod 2 = 1) = c.getLsbD 0 := by
  have h : c.getLsbD 0 = decide (c.toNat % 2 = 1) := by
    rw [BitVec.getLsbD, Nat.testBit_zero]
  rw [h]
  refine decide_eq_decide.2 ?_
  unfold u32v
  rw [Int.tmod_eq_emod_of_nonneg (by omega)]
  omega

theorem half_u32 (c : BitVec 32) : IntKind.u32.wrap ((u32v c).tdiv 2) = u32v (c >>> 1) := by
  unfold u32v
  rw [Int.tdiv_eq_ediv_of_nonneg (by omega), BitVec.toNat_ushiftRight, Nat.shiftRight_eq_div_pow]
  have h : IntKind.u32.wrap ((c.toNat : Int) / 2) = ((c.toNat : Int) / 2) % 4294967296 := rfl
  rw [h]
  have := c.isLt
  omega

theorem bit_u32 (c : BitVec 32) : (if c.getLsbD 0 = true then bitsOf .xor .u32 (u32v (c >>> 1)) 3988292384 else u32v (c >>> 1)) = u32v (crcBit c) := by
  unfold crcBit
  split
  · rw [show (3988292384 : Int) = u32v 0xEDB88320#32 by decide +kernel, xor_u32]
  · rw [BitVec.xor_zero]

theorem minus_u32 (c : BitVec 32) : IntKind.u32.wrap (4294967295 - u32v c) = u32v (~~~ c) := by
  unfold u32v
  rw [BitVec.toNat_not]
  have h : IntKind.u32.wrap (4294967295 - (c.toNat : Int)) = (4294967295 - (c.toNat : Int)) % 4294967296 := rfl
  rw [h]
  have := c.isLt
  omega

/-! ### A number's four bytes -/

def fourL (n : Nat) : List UInt8 := [UInt8.ofNat (n % 256), UInt8.ofNat (n / 256 % 256), UInt8.ofNat (n / 65536 % 256), UInt8.ofNat (n / 16777216 % 256)]

theorem four_at (n k : Nat) (hk : k ≤ 32) : Value.int .u8 (IntKind.u8.wrap ((n : Int).fdiv (2 ^ (min (k : Int).toNat IntKind.u32.bits)))) = bv (UInt8.ofNat (n / 2 ^ k % 256)) := by
  have e : min (k : Int).toNat IntKind.u32.bits = k := by
    show min k 32 = k
    omega
  rw [e, Int.fdiv_eq_ediv_of_nonneg _ (pow_nn k), bv_ofNat (Nat.mod_lt _ (by decide))]
  have h2 : ((n : Int) / 2 ^ k) = ((n / 2 ^ k : Nat) : Int) := by norm_cast
  rw [h2, u8_wrap]

end
end Go.Proofs.YthbaimobihmhiaaGreatDoor

namespace Go.Proofs.YthbaimobihmhiaaGreatDoor
open Go.Sx Go.RowKit
noncomputable section
open Classical

def alTab : TypeId → Bool := fun t => Nat.beq t 129

def tabE (i : Nat) : Value := .int .u32 (u32v (crcTab (BitVec.ofNat 32 i)))
def tabL (k : Nat) : List Value := (List.range k).map tabE ++ List.replicate (16 - k) (.int .u32 0)

theorem tabL_len {k : Nat} (h : k ≤ 16) : (tabL k).length = 16 := by
  unfold tabL
  rw [List.length_append, List.length_map, List.length_range, List.length_replicate]
  omega

theorem tabL_put {k : Nat} (_h : k < 16) : (tabL k).take k ++ [tabE k] ++ (tabL k).drop (k + 1) = tabL (k + 1) := by
  unfold tabL
  have hl : ((List.range k).map tabE).length = k := by rw [List.length_map, List.length_range]
  rw [List.take_left' hl, List.drop_append, List.drop_eq_nil_of_le (by omega), List.nil_append, hl, show k + 1 - k = 1 by omega, List.drop_replicate, List.range_succ, List.map_append]
  rfl

theorem tabL_at {i : Nat} (h : i < 16) : ((tabL 16).drop i).take 1 = [tabE i] := by
  have hl : (tabL 16).length = 16 := tabL_len (Nat.le_refl _)
  rw [List.drop_eq_getElem_cons (by omega)]
  have : (tabL 16)[i]'(by omega) = tabE i := by
    unfold tabL
    rw [List.getElem_append_left (by rw [List.length_map, List.length_range]; exact h), List.getElem_map, List.getElem_range]
  simp [this]

def tabInv (A0 : Arena) (g : Nat) : LInv :=
  { γ := Nat × Arena, G := fun s => s.1 ≤ 16 ∧ A0.Sub s.2 ∧ CellsAt s.2 g (tabL s.1),
    keepS := [0, 3], keepB := [], sl := fun s => [(9, .v (.int .i64 s.1))], bl := fun _ => [], ar := fun s => s.2, mu := fun s => 16 - s.1 }

def sumInv (A1 : Arena) (l : List UInt8) : LInv :=
  { γ := Nat, G := fun k => k ≤ l.length,
    keepS := [3, 27, 28], keepB := [], sl := fun k => [(29, .v (.int .i64 k)), (6, .v (.int .u32 (u32v (crcFold (l.take k) (BitVec.allOnes 32)))))], bl := fun _ => [], ar := fun _ => A1, mu := fun k => l.length - k }

/-- Half a byte: the place in the table, what stands there, what it gives. -/
theorem nib_step {A : Arena} {g : Nat} (hT : CellsAt A g (tabL 16)) {X : Int} {d : BitVec 32} (hX : X = u32v d) :
    bitsOf .and .u32 X 15 < ((16 : Nat) : Int) ∧ A.rd g (0 + (bitsOf .and .u32 X 15).toNat * 1) 1 = some [.int .u32 (u32v (crcTab (BitVec.ofNat 32 (d &&& 15#32).toNat)))] ∧
    bitsOf .xor .u32 (X.fdiv (2 ^ (min (4 : Int).toNat IntKind.u32.bits))) (u32v (crcTab (BitVec.ofNat 32 (d &&& 15#32).toNat))) = u32v (crcNib d) := by
  subst hX
  have h15 : bitsOf .and .u32 (u32v d) 15 = (((d &&& 15#32).toNat : Nat) : Int) := by
    rw [show (15 : Int) = u32v 15#32 by decide +kernel, and_u32]
    rfl
  have hlt := low_lt d
  refine ⟨by rw [h15]; omega, ?_, nib_u32 d⟩
  rw [h15, Int.toNat_natCast, Nat.mul_one, Nat.zero_add, hT.rd (o := (d &&& 15#32).toNat) (n := 1) (by rw [tabL_len (Nat.le_refl _)]; omega), tabL_at hlt]
  rfl

def sumS : FSpec := ⟨List UInt8, fun l vs A => ∃ x, vs = [x] ∧ SlB A x l, fun l _ A v A' => A.Sub A' ∧ v = .int .u32 (u32v (crcSum l))⟩

set_option maxRecDepth 100000 in
set_option maxHeartbeats 0 in
theorem sum_ok : FOk Tryz.prog 64 sumS := by
  refine fok_a mixed alTab fun (l : List UInt8) vs A hp => ?_
  obtain ⟨x, rfl, hX⟩ : ∃ x, vs = [x] ∧ SlB A x l := hp
  obtain ⟨⟨ao, c, rfl, hc, -, ha1, ha2, ha3⟩, hxl⟩ := hX
  refine ⟨_, tabO Tryz.prog _ noL 60 [(64, 0), (64, 4)], 60, noC_sound _, tabO_sound mixed (noC_sound _) (noL_sound _) _ _, fun blk os out tape D hD => ?_⟩
  conv => lhs; whnf
  refine (hD _).2 fun g A1 hN => ?_
  have hN : A.New A1 g (List.replicate 16 (Value.int .u32 0)).toArray 129 := hN
  have hgA : A.blk g = none := hN.none_
  have hT0 : CellsAt A1 g (tabL 0) := ⟨_, _, _, hN.at_, .inl rfl, rfl⟩
  conv => lhs; whnf
  have hG0 : (tabInv A g).G (0, A1) := ⟨Nat.zero_le _, hN.sub, hT0⟩
  refine (hD _).2 ⟨tabInv A g, ⟨((0, A1) : Nat × Arena), hG0, ⟨rfl, trivial⟩, trivial, rfl⟩, fun (s : Nat × Arena) hG => ⟨⟨trivial, trivial⟩, trivial, ?_⟩⟩
  clear hG0 hT0 hN
  obtain ⟨k, A2⟩ := s
  obtain ⟨hk, hs2, hT⟩ : k ≤ 16 ∧ A.Sub A2 ∧ CellsAt A2 g (tabL k) := hG
  conv => lhs; whnf
  refine split_dec (fun h => ?_) (fun h => ?_)
  · have hk1 : k < 16 := by
      have h : (k : Int) < 16 := h
      omega
    conv => lhs; whnf
    refine go_dec (show (k : Int) < 16 by omega) ?_
    conv => lhs; whnf
    refine (hD _).2 ⟨hT.room (by rw [tabL_len hk]; show 0 + k * 1 + 1 ≤ 16; omega), fun A3 hP => ?_⟩
    have hP : A2.Put A3 g (0 + k * 1) [.int .u32 (tabI (tabI (tabI (tabI (IntKind.u32.wrap (k : Int))))))] := hP
    rw [tab_eq k hk1, Nat.mul_one, Nat.zero_add] at hP
    have hT3 := hT.put hP (by rw [tabL_len hk]; show k + 1 ≤ 16; omega)
    have hT3 : CellsAt A3 g ((tabL k).take k ++ [tabE k] ++ (tabL k).drop (k + 1)) := hT3
    rw [tabL_put hk1] at hT3
    have hs3 : A.Sub A3 := hP.sub hs2 hgA
    have hG3 : (tabInv A g).G (k + 1, A3) := ⟨hk1, hs3, hT3⟩
    conv => lhs; whnf
    exact (hD _).2 ⟨((k + 1, A3) : Nat × Arena), ⟨hG3, ⟨inc_slot (by omega), trivial⟩, trivial, rfl⟩, by show 16 - (k + 1) < 16 - k; omega, ⟨same1 rfl rfl, same1 rfl rfl, trivial⟩, trivial⟩
  · have hk9 : k = 16 := by
      have h : ¬ (k : Int) < 16 := h
      omega
    subst hk9
    conv => lhs; whnf
    have hG0 : (sumInv A2 l).G (0 : Nat) := Nat.zero_le _
    refine (hD _).2 ⟨sumInv A2 l, ⟨(0 : Nat), hG0, ⟨rfl, congrArg (fun x : Int => some (SV.v (.int .u32 x))) (show (4294967295 : Int) = u32v (BitVec.allOnes 32) by decide +kernel), trivial⟩, trivial, rfl⟩, fun (k : Nat) hk => ⟨⟨trivial, trivial, trivial⟩, trivial, ?_⟩⟩
    clear hG0
    have hk : k ≤ l.length := hk
    conv => lhs; whnf
    refine split_dec (fun hlt => ?_) (fun hlt => ?_)
    · have hkl : k < l.length := by
        have hlt : (k : Int) < (l.length : Int) := hlt
        omega
      obtain ⟨gx, ox, rfl, hra⟩ := Sl.at_ hc ha1 ha2 ha3 (by omega)
      have r1 := rd_sub hs2 (byte_at hra k hkl rfl)
      have i0 : (0 : Int) ≤ (k : Int) ∧ (k : Int) < (l.length : Int) := by omega
      have x1 : bitsOf .xor .u32 (u32v (crcFold (l.take k) (BitVec.allOnes 32))) (IntKind.u32.wrap (l[k].toNat : Int)) = u32v (crcFold (l.take k) (BitVec.allOnes 32) ^^^ l[k].toBitVec.setWidth 32) := by rw [byte_u32, xor_u32]
      obtain ⟨d0, hd0⟩ : ∃ d0, d0 = crcFold (l.take k) (BitVec.allOnes 32) ^^^ l[k].toBitVec.setWidth 32 := ⟨_, rfl⟩
      rw [← hd0] at x1
      have n1 := nib_step hT x1
      obtain ⟨lt1, r2, x3⟩ := n1
      have n3 := nib_step hT x3
      obtain ⟨lt3, r4, x5⟩ := n3
      conv => lhs; whnf
      repeat (first | refine go_in i0 ?_ | refine go_rd r1 ?_ | refine go_D hD rfl ?_
              conv => lhs; whnf)
      refine go_dec lt1 ?_
      conv => lhs; whnf
      repeat (first | refine go_rd r2 ?_ | refine go_D hD rfl ?_
              conv => lhs; whnf)
      refine go_dec lt3 ?_
      conv => lhs; whnf
      repeat (first | refine go_rd r4 ?_ | refine go_D hD rfl ?_
              conv => lhs; whnf)
      have hfin : u32v (crcNib (crcNib d0)) = u32v (crcFold (l.take (k + 1)) (BitVec.allOnes 32)) := by
        rw [hd0, ← crcByte_nib, List.take_succ_eq_append_getElem hkl]
        unfold crcFold
        rw [List.foldl_append]
        rfl
      have hG3 : (sumInv A2 l).G (k + 1 : Nat) := hkl
      exact (hD _).2 ⟨(k + 1 : Nat), ⟨hG3, ⟨inc_slot (by omega), congrArg (fun x : Int => some (SV.v (.int .u32 x))) (x5.trans hfin), trivial⟩, trivial, rfl⟩, by show l.length - (k + 1) < l.length - k; omega, ⟨same1 rfl rfl, same1 rfl rfl, same1 rfl rfl, trivial⟩, trivial⟩
    · have hk9 : k = l.length := by
        have hlt : ¬ (k : Int) < (l.length : Int) := hlt
        omega
      have hend : sumS.post l [.slice ao l.length c] A (.int .u32 (bitsOf .xor .u32 4294967295 (u32v (crcFold (l.take k) (BitVec.allOnes 32))))) A2 := by
        refine ⟨hs2, congrArg (Value.int .u32) ?_⟩
        rw [hk9, List.take_length, show (4294967295 : Int) = u32v (BitVec.allOnes 32) by decide +kernel, xor_u32, BitVec.xor_comm, BitVec.xor_allOnes]
        rfl
      conv => lhs; whnf
      exact (hD _).2 hend

end
end Go.Proofs.YthbaimobihmhiaaGreatDoor

namespace Go.Proofs.YthbaimobihmhiaaGreatDoor
open Go.Sx Go.RowKit
noncomputable section
open Classical

theorem four_at0 (n : Nat) : Value.int .u8 (IntKind.u8.wrap (n : Int)) = bv (UInt8.ofNat (n % 256)) := by
  rw [bv_ofNat (Nat.mod_lt _ (by decide)), u8_wrap]

def frameL (l : List UInt8) : List UInt8 := fourL l.length ++ fourL (crcSum l).toNat ++ l

/-- A list of bytes that is new behind A. -/
def LsN (A A' : Arena) (L : LsD) (cs : List Value) : Prop := LsR A' 1 5 L cs ∧ ∀ g, L.g = some g → A.blk g = none

theorem none_of {A B : Arena} (h : A.Sub B) {g : Nat} (hg : B.blk g = none) : A.blk g = none := by
  cases hA : A.blk g with
  | none => rfl
  | some o => rw [h g o hA] at hg; cases hg

/-- A list that is new may grow: all else stays. -/
theorem LsN.more {A A3 A4 : Arena} {L L4 : LsD} {cs ys : List Value} (hs : A.Sub A3) (hg : ∀ g, L.g = some g → A.blk g = none) (q3 : LsR A4 1 5 L4 (cs ++ ys)) (q4 : ∀ g, L4.g = some g → L.g = some g ∨ A3.blk g = none) (q5 : ∀ k o, A3.blk k = some o → L.g ≠ some k → A4.blk k = some o) :
    A.Sub A4 ∧ LsN A A4 L4 (cs ++ ys) :=
  ⟨fun k o hk => q5 k o (hs k o hk) fun e => (by rw [hg k e] at hk; cases hk), q3, fun g h => (q4 g h).elim (hg g) fun h => none_of hs h⟩

theorem g4_of {A : Arena} {es : Nat} {e : TypeId} {L : LsD} {cs : List Value} {g : Nat} (h : LsR A es e L cs) (hv : L.v = .slice (some ⟨g, 0, none⟩) L.n L.c) (hn : 0 < L.n) : L.g = some g := by
  rcases h with ⟨_, h0, _⟩ | ⟨g', h1, h2, _⟩
  · omega
  · rw [hv] at h2
    injection h2 with h2
    injection h2 with h2
    injection h2 with h2
    rw [h1, h2]

end
end Go.Proofs.YthbaimobihmhiaaGreatDoor

namespace Go.Proofs.YthbaimobihmhiaaGreatDoor
open Go.Sx Go.RowKit
noncomputable section
open Classical

def wfourS : FSpec := ⟨Nat, fun n vs _ => vs = [.int .u32 n], fun n _ A v A' => A.Sub A' ∧ ∃ g, v = .slice (some ⟨g, 0, none⟩) 4 4 ∧ A.blk g = none ∧ LRow A' g 1 5 4 4 ((fourL n).map bv)⟩

set_option maxRecDepth 100000 in
set_option maxHeartbeats 0 in
theorem wfour_ok : FOk Tryz.prog 63 wfourS := by
  refine fok_v mixed fun (n : Nat) vs A hp => ?_
  obtain rfl : vs = [.int .u32 n] := hp
  refine ⟨noC, noL, 60, noC_sound _, noL_sound _, fun blk os out tape D hD => ?_⟩
  have f0 := four_at0 n
  have f1 := four_at n 8 (by decide)
  have f2 := four_at n 16 (by decide)
  have f3 := four_at n 24 (by decide)
  conv => lhs; whnf
  refine (hD _).2 fun g A1 hN => ?_
  have hN : A.New A1 g #[.int .u8 (IntKind.u8.wrap (n : Int)), .int .u8 (IntKind.u8.wrap ((n : Int).fdiv (2 ^ (min (8 : Int).toNat IntKind.u32.bits)))), .int .u8 (IntKind.u8.wrap ((n : Int).fdiv (2 ^ (min (16 : Int).toNat IntKind.u32.bits)))), .int .u8 (IntKind.u8.wrap ((n : Int).fdiv (2 ^ (min (24 : Int).toNat IntKind.u32.bits))))] 5 := hN
  have e : #[Value.int .u8 (IntKind.u8.wrap (n : Int)), .int .u8 (IntKind.u8.wrap ((n : Int).fdiv (2 ^ (min (8 : Int).toNat IntKind.u32.bits)))), .int .u8 (IntKind.u8.wrap ((n : Int).fdiv (2 ^ (min (16 : Int).toNat IntKind.u32.bits)))), .int .u8 (IntKind.u8.wrap ((n : Int).fdiv (2 ^ (min (24 : Int).toNat IntKind.u32.bits))))] = ((fourL n).map bv).toArray := by
    rw [show (8 : Int) = ((8 : Nat) : Int) from rfl, show (16 : Int) = ((16 : Nat) : Int) from rfl, show (24 : Int) = ((24 : Nat) : Int) from rfl, f0, f1, f2, f3]
    rfl
  rw [e] at hN
  have hend : wfourS.post n [.int .u32 n] A (.slice (some ⟨g, 0, none⟩) 4 4) A1 := ⟨hN.sub, g, rfl, hN.none_, ⟨_, hN.at_, rfl, rfl⟩, Nat.le_refl _, rfl⟩
  conv => lhs; whnf
  exact (hD _).2 hend

def wframeS : FSpec := ⟨List UInt8, fun l vs A => ∃ x, vs = [x] ∧ SlB A x l, fun l _ A v A' => A.Sub A' ∧ (l.length ≤ 1048576 → ∃ L : LsD, v = .tuple #[L.v, .int .i64 0] ∧ LsN A A' L ((frameL l).map bv)) ∧ (1048576 < l.length → v = .tuple #[.slice none 0 0, .int .i64 3])⟩

set_option maxRecDepth 100000 in
set_option maxHeartbeats 0 in
theorem wframe_ok : FOk Tryz.prog 38 wframeS := by
  refine fok_v mixed fun (l : List UInt8) vs A hp => ?_
  obtain ⟨x, rfl, hX⟩ : ∃ x, vs = [x] ∧ SlB A x l := hp
  have hX0 := hX
  obtain ⟨⟨ao, c, rfl, hc, hcl, ha1, ha2, ha3⟩, hxl⟩ := hX0
  have hC : CTSound Tryz.prog (lookC [specE 63 wfourS, specE 64 sumS] noC) := lookC_sound (noC_sound _) (fun x hx => by
    simp only [List.mem_cons, List.not_mem_nil, or_false] at hx
    rcases hx with rfl | rfl
    · exact specE_ok wfour_ok
    · exact specE_ok sum_ok)
  refine ⟨_, noL, 60, hC, noL_sound _, fun blk os out tape D hD => ?_⟩
  conv => lhs; whnf
  refine split_dec (fun hgt => ?_) (fun hgt => ?_) <;> (conv => lhs; whnf)
  · have hgt : (1048576 : Int) < (l.length : Int) := hgt
    exact (hD _).2 ⟨Arena.Sub.refl _, fun h => absurd h (by omega), fun _ => rfl⟩
  have hle : l.length ≤ 1048576 := by
    have hgt : ¬ (1048576 : Int) < (l.length : Int) := hgt
    omega
  have hw1 : [Value.int .u32 (IntKind.u32.wrap (l.length : Int))] = [.int .u32 (l.length : Int)] := by rw [u32_wrap (by omega)]
  refine (hD _).2 ⟨l.length, hw1, fun v A1 hq => ?_⟩
  obtain ⟨s1, g1, hv, hn1, hR1⟩ : A.Sub A1 ∧ ∃ g, v = .slice (some ⟨g, 0, none⟩) 4 4 ∧ A.blk g = none ∧ LRow A1 g 1 5 4 4 ((fourL l.length).map bv) := hq
  subst hv
  conv => lhs; whnf
  refine (hD _).2 ⟨l, ⟨_, rfl, hX.sub s1⟩, fun v A2 hq => ?_⟩
  obtain ⟨s2, hv⟩ : A1.Sub A2 ∧ v = .int .u32 (u32v (crcSum l)) := hq
  subst hv
  conv => lhs; whnf
  refine (hD _).2 ⟨(crcSum l).toNat, rfl, fun v A3 hq => ?_⟩
  obtain ⟨s3, g3, hv, hn3, hR3⟩ : A2.Sub A3 ∧ ∃ g, v = .slice (some ⟨g, 0, none⟩) 4 4 ∧ A2.blk g = none ∧ LRow A3 g 1 5 4 4 ((fourL (crcSum l).toNat).map bv) := hq
  subst hv
  have hs3 : A.Sub A3 := s1.trans (s2.trans s3)
  have hL1 : LsR A3 1 5 ⟨.slice (some ⟨g1, 0, none⟩) 4 4, 4, 4, some g1⟩ ((fourL l.length).map bv) := .inr ⟨g1, rfl, rfl, by show 0 < 4; omega, hR1.sub (s2.trans s3)⟩
  have hap := hL1.app
  obtain ⟨base, hbv, -, hG, hcont⟩ := hap
  have hb : base = some (g1, 0) := by
    have hbv : Value.slice (some ⟨g1, 0, none⟩) 4 4 = .slice (addrA base) 4 4 := hbv
    injection hbv with h1 _ _
    exact (addrA_inj (b := some (g1, 0)) h1).symm
  subst hb
  have hPd := hG 4 1 (by omega) (by show 4 + 4 ≤ 1000000000; omega) (by omega)
  conv => lhs; whnf
  repeat (first | refine go_D hD rfl ?_
          conv => lhs; whnf)
  refine (hD _).2 ⟨_, (fourL (crcSum l).toNat).map bv, hPd.rd, src_row (by decide) hR3.rd, rfl, bv_one _, by show 4 + 4 ≤ 9223372036854775807; omega, hPd.cap, rfl, hPd.none_, fun g' o' he' hle' _ => hPd.room 4 rfl g' o' he' hle', fun v9 A4 hAp => ?_⟩
  have hc9 := hcont 4 ((fourL (crcSum l).toNat).map bv) v9 A4 rfl (by omega) hAp
  obtain ⟨L4, q1, q2, q3, q4, q5, -⟩ := hc9
  have hm4 := LsN.more hs3 (fun g h => by injection h with h; rw [← h]; exact hn1) q3 q4 q5
  obtain ⟨hs4, hN4⟩ := hm4
  have hf4 : L4.n = 8 := q2
  have hf5 : ∃ g4, L4.v = .slice (some ⟨g4, 0, none⟩) L4.n L4.c := by
    rcases q3 with ⟨_, h0, _⟩ | ⟨g4, _, h2, _⟩
    · omega
    · exact ⟨g4, h2⟩
  obtain ⟨g4, hv4⟩ := hf5
  have hap4 := q3.app
  obtain ⟨base4, hbv4, -, hG4, hcont4⟩ := hap4
  have hb4 : base4 = some (g4, 0) := by
    rw [hv4] at hbv4
    injection hbv4 with h1 _ _
    exact (addrA_inj (b := some (g4, 0)) h1).symm
  subst hb4
  have hv9 : v9 = .slice (some ⟨g4, 0, none⟩) L4.n L4.c := q1.symm.trans hv4
  subst hv9
  have hcat : (fourL l.length).map bv ++ (fourL (crcSum l).toNat).map bv ++ l.map bv = (frameL l).map bv := by
    unfold frameL
    rw [List.map_append, List.map_append]
  by_cases hs : l = []
  · have hl0 : l.length = 0 := by rw [hs]; rfl
    have hP1 := hG4 1 1 (by omega) (by omega) (by omega)
    conv => lhs; whnf
    repeat (first | refine go_D hD rfl ?_
            conv => lhs; whnf)
    refine (hD _).2 ⟨_, [], hP1.rd, src_none hl0, by rw [hl0]; rfl, fun v hv => (by cases hv), (by show L4.n + l.length ≤ 9223372036854775807; omega), fun h => absurd h (by have := hN4.1.rowAt (g4_of hN4.1 hv4 (by omega)); have := this.2.2.le; show ¬ L4.c < L4.n + l.length; omega), rfl, hP1.none_, fun _ _ _ _ h => absurd rfl h, fun v9 A5 hAp => ?_⟩
    have hle4 : L4.n + l.length ≤ L4.c := by
      have := (hN4.1.rowAt (g4_of hN4.1 hv4 (by omega))).2.2.le
      omega
    have hsame : ∀ k, A5.blk k = A4.blk k := by
      rcases hAp with ⟨_, _, ⟨_, rfl⟩ | ⟨g, o, _, hP⟩⟩ | ⟨h, _⟩
      · exact fun _ => rfl
      · exact put_nil hP
      · exact absurd h (by omega)
    have hv9 : v9 = .slice (some ⟨g4, 0, none⟩) (L4.n + l.length) L4.c := by
      rcases hAp with ⟨_, h, _⟩ | ⟨h, _⟩
      · exact h
      · exact absurd h (by omega)
    subst hv9
    have hend : wframeS.post l [.slice ao l.length c] A (.tuple #[.slice (some ⟨g4, 0, none⟩) (L4.n + l.length) L4.c, .int .i64 0]) A5 := by
      refine ⟨fun k o hk => (hsame k).trans (hs4 k o hk), fun _ => ⟨L4, by rw [hv4, hl0]; rfl, ?_, hN4.2⟩, fun h => absurd h (by omega)⟩
      have hnl : l.map bv = [] := by rw [hs]; rfl
      rw [← hcat, hnl, List.append_nil]
      exact hN4.1.keep fun g o _ ho => (hsame g).trans ho
    conv => lhs; whnf
    repeat (first | refine go_D hD rfl ?_
            conv => lhs; whnf)
    exact (hD _).2 hend
  · have hpos : 0 < l.length := List.length_pos_iff.2 hs
    have hsrc := Sl.at_ hc ha1 ha2 ha3 hpos
    obtain ⟨gx, ox, e, hra⟩ := hsrc
    subst e
    have hP1 := hG4 l.length 1 (by omega) (by omega) (by omega)
    conv => lhs; whnf
    repeat (first | refine go_D hD rfl ?_
            conv => lhs; whnf)
    refine (hD _).2 ⟨_, l.map bv, hP1.rd, src_row (by omega) (rd_sub hs4 hra), by rw [List.length_map]; exact (Nat.mul_one _).symm, bv_one l, (by show L4.n + l.length ≤ 9223372036854775807; omega), hP1.cap, rfl, hP1.none_, fun g' o' he' hle' _ => hP1.room (l.map bv).length (by rw [List.length_map, Nat.mul_one]) g' o' he' hle', fun v9 A5 hAp => ?_⟩
    have hc9 := hcont4 l.length (l.map bv) v9 A5 (by rw [List.length_map, Nat.mul_one]) hpos hAp
    obtain ⟨L5, p1, -, p3, p4, p5, -⟩ := hc9
    have hm5 := LsN.more hs4 hN4.2 p3 p4 p5
    rw [hcat] at hm5
    have hap5 := p3.app
    obtain ⟨b5, hb5, -⟩ := hap5
    rw [p1] at hb5
    subst hb5
    have hend : wframeS.post l [.slice (some ⟨gx, ox, none⟩) l.length c] A (.tuple #[.slice (addrA b5) L5.n L5.c, .int .i64 0]) A5 := ⟨hm5.1, fun _ => ⟨L5, by rw [p1], hm5.2⟩, fun h => absurd h (by omega)⟩
    conv => lhs; whnf
    repeat (first | refine go_D hD rfl ?_
            conv => lhs; whnf)
    exact (hD _).2 hend

end
end Go.Proofs.YthbaimobihmhiaaGreatDoor

namespace Go.Proofs.YthbaimobihmhiaaGreatDoor
open Go.Sx Go.RowKit
noncomputable section
open Classical

theorem BfR.grow {A A' : Arena} {w : Nat} {L : LsD} {l : List UInt8} (h : BfR A w L l) (hs : A.Sub A') : BfR A' w L l := by
  obtain ⟨⟨lr, k1⟩, k2, k3, k4, k5⟩ := h
  exact ⟨⟨lr, k1.sub fun o ho => hs w o ho⟩, k2.keep fun g o _ ho => hs g o ho, k3, k4, k5⟩

def nBytes2S : FSpec := ⟨NwG × List UInt8, fun g vs A => ∃ x, vs = [.pointer (some ⟨g.1.w, 0, none⟩), x] ∧ BfN g.1.A0 A g.1.w g.1.l ∧ g.1.l.length + g.2.length ≤ 880000000 ∧ (Sl g.1.A0 1 g.2.length x (g.2.map bv) ∨ ∃ A1, BfN g.1.A0 A1 g.1.w g.1.l ∧ A1.Sub A ∧ Sl (A.minus A1) 1 g.2.length x (g.2.map bv)), fun g _ _ v A' => v = .tuple #[] ∧ BfN g.1.A0 A' g.1.w (g.1.l ++ vints g.2.length ++ g.2)⟩

theorem nBytes2_ok : FOk Tryz.prog 35 nBytes2S := fok_weak wwBytes_ok fun ⟨⟨A0, w, l⟩, s⟩ _ A ⟨x, h1, h2, h6, h7⟩ => by
  rcases h7 with h7 | ⟨A1, ⟨k1, k2, L, k4, k5⟩, hs, h7⟩
  · obtain ⟨h2, h3, L, h4, h5⟩ := h2
    exact ⟨⟨w, L, l, s, A0⟩, ⟨x, h1, h4, h6, h7, fun k o hk => ⟨h2 k o hk, fun e => (by rw [e, h3] at hk; cases hk), fun e => (by rw [h5 k e] at hk; cases hk)⟩⟩, fun _ _ ⟨k1, k2⟩ => ⟨k1, BfN.to h2 h3 h5 k2⟩⟩
  · refine ⟨⟨w, L, l, s, A.minus A1⟩, ⟨x, h1, k4.grow hs, h6, h7, fun k o hk => ?_⟩, fun _ _ ⟨j1, j2⟩ => ⟨j1, BfN.to h2.1 h2.2.1 k5 j2⟩⟩
    obtain ⟨m1, m2⟩ := minus_blk hk
    refine ⟨m2, fun e => ?_, fun e => ?_⟩
    · obtain ⟨lr, ht⟩ := k4.top
      obtain ⟨o', ho⟩ := ht.dom
      have ho : A1.blk w = some o' := ho
      rw [e, ho] at m1; cases m1
    · obtain ⟨o', ho⟩ := k4.row.live e
      rw [ho] at m1; cases m1

end
end Go.Proofs.YthbaimobihmhiaaGreatDoor

namespace Go.Proofs.YthbaimobihmhiaaGreatDoor
open Go.Sx Go.RowKit
noncomputable section
open Classical

/-- What Put answers. -/
def PutR (g : ImgG) (A : Arena) (v : Value) (A' : Arena) : Prop :=
  A.Sub A' ∧ (¬ g.ok → v = .tuple #[.slice none 0 0, .int .i64 4]) ∧
  (g.ok → (loadB (g.l.map (·.1)) g.ss g.ver g.ms g.f g.t).length ≤ 1048576 ∧ ∃ L : LsD, v = .tuple #[L.v, .int .i64 0] ∧ LsN A A' L ((frameL (loadB (g.l.map (·.1)) g.ss g.ver g.ms g.f g.t)).map bv))

end
end Go.Proofs.YthbaimobihmhiaaGreatDoor
