/-
  The document's node.
  Contracts: the document's ensembles: may a config be?
  The document's Read and Get of a config.
  The document's Sum.
  The document's: number, Unframe.
  The document's: is an image right?
-/
import Derived.Test.YthbaimobihmhiaaGreatDoorG09
import Derived.Test.YthbaimobihmhiaaGreatDoorG10
import Derived.Test.YthbaimobihmhiaaGreatDoorG08
namespace Go.Proofs.YthbaimobihmhiaaGreatDoor
open Go.Sx Go.RowKit
noncomputable section
open Classical

/-! ### A result that lies in the arena -/

theorem resA {P : Program} {tm : T SV} {h : HS} {x g : Nat} {t : TypeId} {s : STy} {cs : List Value} {z : SV} (h1 : tm.get x = some (.v (.pointer (some ⟨g, 0, none⟩)))) (h2 : ty P t = some s) (h3 : h.M.X.op = true) (h4 : h.M.A.rd g 0 s.size = some cs) (h5 : loadA s (some cs) = some z) : resV P tm h [.cell x t] = some [z] := by
  simp only [resV, h1, loadV, h2, h3, cond_true, h4, h5]

theorem go_res {r : Option (List SV)} {vs : List SV} {F : List SV → Bool} (h : r = some vs) (h1 : F vs = true) : (match (generalizing := false) r with
    | some vs => F vs
    | none => false) = true := by
  rw [h]; exact h1

/-- Beside a reader: two blocks that are new. -/
structure NdF (A B : Arena) (r g0 g1 : Nat) : Prop where
  n0 : g0 ≠ r
  n1 : g1 ≠ r
  n2 : g1 ≠ g0
  a0 : A.blk g0 = none
  a1 : A.blk g1 = none
  b0 : B.blk g0 = none
  b1 : B.blk g1 = none

structure NdM (A X0 X B : Arena) (r g0 g1 : Nat) (st : RdSt) (cs0 cs1 : List Value) : Prop where
  keep : KeepR A X r
  rd : RdG badF B X r st
  c0 : CellsAt X g0 cs0
  c1 : CellsAt X g1 cs1
  off : ∀ k o, X0.blk k = some o → k ≠ r → k ≠ g0 → k ≠ g1 → X.blk k = some o

theorem NdM.call {A X0 X Y B : Arena} {r g0 g1 : Nat} {st st' : RdSt} {cs0 cs1 : List Value} (h : NdM A X0 X B r g0 g1 st cs0 cs1) (f : NdF A B r g0 g1) (k : KeepR X Y r) (hR : RdG badF B Y r st') : NdM A X0 Y B r g0 g1 st' cs0 cs1 :=
  ⟨h.keep.trans k, hR, h.c0.sub fun o ho => k g0 o ho f.n0, h.c1.sub fun o ho => k g1 o ho f.n1, fun q o hq h1 h2 h3 => k q o (h.off q o hq h1 h2 h3) h1⟩

theorem NdM.set {A X0 X B : Arena} {r g0 g1 : Nat} {st : RdSt} {cs0 cs1 : List Value} (h : NdM A X0 X B r g0 g1 st cs0 cs1) : NdM A X X B r g0 g1 st cs0 cs1 := ⟨h.keep, h.rd, h.c0, h.c1, fun _ _ h _ _ _ => h⟩

theorem NdM.put1 {A X0 X Y B : Arena} {r g0 g1 o : Nat} {st : RdSt} {cs0 cs1 vs : List Value} (h : NdM A X0 X B r g0 g1 st cs0 cs1) (f : NdF A B r g0 g1) (hP : X.Put Y g1 o vs) (hle : o + vs.length ≤ cs1.length) : NdM A X0 Y B r g0 g1 st cs0 (cs1.take o ++ vs ++ cs1.drop (o + vs.length)) :=
  ⟨fun k ob hk hkr => by
    rw [hP.other k fun e => by rw [e, f.a1] at hk; cases hk]
    exact h.keep k ob hk hkr, h.rd.other (hP.sub h.rd.dsub f.b1) (hP.other r fun e => f.n1 e.symm), h.c0.sub fun ob ho => (hP.other g0 fun e => f.n2 e.symm).trans ho, h.c1.put hP hle, fun k ob hk h1 h2 h3 => by
    rw [hP.other k h3]
    exact h.off k ob hk h1 h2 h3⟩

theorem NdM.put0 {A X0 X Y B : Arena} {r g0 g1 o : Nat} {st : RdSt} {cs0 cs1 vs : List Value} (h : NdM A X0 X B r g0 g1 st cs0 cs1) (f : NdF A B r g0 g1) (hP : X.Put Y g0 o vs) (hle : o + vs.length ≤ cs0.length) : NdM A X0 Y B r g0 g1 st (cs0.take o ++ vs ++ cs0.drop (o + vs.length)) cs1 :=
  ⟨fun k ob hk hkr => by
    rw [hP.other k fun e => by rw [e, f.a0] at hk; cases hk]
    exact h.keep k ob hk hkr, h.rd.other (hP.sub h.rd.dsub f.b0) (hP.other r fun e => f.n0 e.symm), h.c0.put hP hle, h.c1.sub fun ob ho => (hP.other g1 f.n2).trans ho, fun k ob hk h1 h2 h3 => by
    rw [hP.other k h2]
    exact h.off k ob hk h1 h2 h3⟩

def alN : TypeId → Bool := fun t => Nat.beq t 46

def rnodeS : FSpec := ⟨RyG, fun g vs A => vs = [.pointer (some ⟨g.r, 0, none⟩)] ∧ RdG badF g.B A g.r g.st ∧ stLen g.st ≤ 900000000,
  fun g _ A v A' => ∃ d, v = .agg (nodeC ((pNode g.st).1, d)).toArray ∧ SlB (A'.minus A) d (pNode g.st).1.data ∧ KeepR A A' g.r ∧ RdG badF g.B A' g.r (pNode g.st).2⟩

set_option maxRecDepth 100000 in
set_option maxHeartbeats 0 in
theorem rnode_ok : FOk Tryz.prog 51 rnodeS := by
  refine fok_a mixed alN fun (g : RyG) vs A hp => ?_
  obtain ⟨r, st, B⟩ := g
  obtain ⟨rfl, hR, hlen⟩ : vs = [.pointer (some ⟨r, 0, none⟩)] ∧ RdG badF B A r st ∧ stLen st ≤ 900000000 := hp
  have hC : CTSound Tryz.prog (lookC [specE 52 yIntS, specE 74 yTextS, specE 54 yBytesS] noC) := lookC_sound (noC_sound _) (fun x hx => by
    simp only [List.mem_cons, List.not_mem_nil, or_false] at hx
    rcases hx with rfl | rfl | rfl
    · exact specE_ok yInt_ok
    · exact specE_ok yText_ok
    · exact specE_ok yBytes_ok)
  refine ⟨_, noL, 60, hC, noL_sound _, fun blk os out tape D hD => ?_⟩
  conv => lhs; whnf
  refine (hD _).2 fun g0 A1 hN0 => ?_
  have hN0 : A.New A1 g0 ([.string ⟨#[]⟩, .slice none 0 0, .int .i64 0, .int .i64 0, .int .i64 0, .int .i64 0, .int .i64 0, .int .i64 0, .int .i64 0, .int .i64 0, .int .i64 0, .int .i64 0]).toArray 46 := hN0
  obtain ⟨or, hor⟩ := hR.live2
  have hg0r : g0 ≠ r := fun e => by
    have h := hN0.none_
    rw [e, hor] at h; cases h
  have hg0B : B.blk g0 = none := none_of hR.dsub hN0.none_
  have hcz : CellsAt A1 g0 [.string ⟨#[]⟩, .slice none 0 0, .int .i64 0, .int .i64 0, .int .i64 0, .int .i64 0, .int .i64 0, .int .i64 0, .int .i64 0, .int .i64 0, .int .i64 0, .int .i64 0] := CellsAt.new hN0
  have hR1 := hR.keep hN0.sub
  have hnd : pNode st = (nodeOf (pText 200 st).1 (pText 1000 (pText 200 st).2).1 (pText 1000 (pText 200 st).2).2, pIs 8 (pText 1000 (pText 200 st).2).2) := rfl
  have hs1 := (pText_len 200 st).1
  have hend : ∀ v A', (∃ d, v = .agg (nodeC ((pNode st).1, d)).toArray ∧ SlB (A'.minus A) d (pNode st).1.data ∧ KeepR A A' r ∧ RdG badF B A' r (pNode st).2) → rnodeS.post ⟨r, st, B⟩ [] A v A' := fun _ _ h => h
  conv => lhs; whnf
  repeat (first | refine go_D hD rfl ?_
          conv => lhs; whnf)
  refine (hD _).2 ⟨((⟨r, st, B⟩, 200) : RyG × Int), ⟨rfl, hR1, hlen, by show (0 : Int) ≤ 200; decide, by show (200 : Int) ≤ _; decide⟩, fun v A2 hq => ?_⟩
  obtain ⟨hv, k2, hR2⟩ : v = .string ⟨(pText 200 st).1.toArray⟩ ∧ KeepR A1 A2 r ∧ RdG badF B A2 r (pText 200 st).2 := hq
  generalize (pText 200 st).1 = pth at *
  generalize (pText 200 st).2 = u1 at *
  subst hv
  rw [hnd] at hend
  clear hnd
  conv => lhs; whnf
  repeat (first | refine go_D hD rfl ?_
          conv => lhs; whnf)
  refine (hD _).2 fun g1 A3 hN1 => ?_
  have hN1 : A2.New A3 g1 ([.string ⟨#[]⟩, .slice none 0 0, .int .i64 0, .int .i64 0, .int .i64 0, .int .i64 0, .int .i64 0, .int .i64 0, .int .i64 0, .int .i64 0, .int .i64 0, .int .i64 0]).toArray 46 := hN1
  have hK2 : KeepR A A2 r := (KeepR.of_sub hN0.sub r).trans k2
  have F : NdF A B r g0 g1 := by
    refine ⟨hg0r, fun e => ?_, fun e => ?_, hN0.none_, ?_, hg0B, none_of hR2.dsub hN1.none_⟩
    · have h := hN1.none_
      obtain ⟨o', ho⟩ := hR2.live2
      rw [e, ho] at h; cases h
    · have h := hN1.none_
      obtain ⟨o', ho⟩ := hcz.dom
      rw [e, k2 g0 o' ho hg0r] at h; cases h
    · cases hA : A.blk g1 with
      | none => rfl
      | some o =>
        by_cases e : g1 = r
        · have h := hN1.none_
          obtain ⟨o', ho⟩ := hR2.live2
          rw [e, ho] at h; cases h
        · have h := hN1.none_
          rw [hK2 g1 o hA e] at h; cases h
  have M0 : NdM A A3 A3 B r g0 g1 u1 [.string ⟨#[]⟩, .slice none 0 0, .int .i64 0, .int .i64 0, .int .i64 0, .int .i64 0, .int .i64 0, .int .i64 0, .int .i64 0, .int .i64 0, .int .i64 0, .int .i64 0] [.string ⟨#[]⟩, .slice none 0 0, .int .i64 0, .int .i64 0, .int .i64 0, .int .i64 0, .int .i64 0, .int .i64 0, .int .i64 0, .int .i64 0, .int .i64 0, .int .i64 0] := ⟨hK2.trans (KeepR.of_sub hN1.sub r), hR2.keep hN1.sub, hcz.sub fun o ho => hN1.sub g0 o (k2 g0 o ho hg0r), CellsAt.new hN1, fun _ _ h _ _ _ => h⟩
  clear hN0 hcz hR1 k2 hR2 hK2 hN1
  conv => lhs; whnf
  repeat (first | refine go_D hD rfl ?_
          conv => lhs; whnf)
  refine (hD _).2 ⟨M0.c1.room (by show 0 + 12 ≤ 12; omega), fun C1 hP => ?_⟩
  have hP : A3.Put C1 g1 0 [.string ⟨pth.toArray⟩, .slice none 0 0, .int .i64 0, .int .i64 0, .int .i64 0, .int .i64 0, .int .i64 0, .int .i64 0, .int .i64 0, .int .i64 0, .int .i64 0, .int .i64 0] := hP
  have M1 : NdM A A3 C1 B r g0 g1 u1 [.string ⟨#[]⟩, .slice none 0 0, .int .i64 0, .int .i64 0, .int .i64 0, .int .i64 0, .int .i64 0, .int .i64 0, .int .i64 0, .int .i64 0, .int .i64 0, .int .i64 0] [.string ⟨pth.toArray⟩, .slice none 0 0, .int .i64 0, .int .i64 0, .int .i64 0, .int .i64 0, .int .i64 0, .int .i64 0, .int .i64 0, .int .i64 0, .int .i64 0, .int .i64 0] := M0.put1 F hP (by show 0 + 12 ≤ 12; omega)
  clear hP M0
  conv => lhs; whnf
  repeat (first | refine go_D hD rfl ?_
          conv => lhs; whnf)
  refine (hD _).2 ⟨((⟨r, u1, B⟩, 1000) : RyG × Int), ⟨rfl, M1.rd, by show stLen u1 ≤ _; omega, by show (0 : Int) ≤ 1000; decide, by show (1000 : Int) ≤ _; decide⟩, fun v B1 hq => ?_⟩
  obtain ⟨hdat, k2, hR2⟩ : SlB (B1.minus C1) v (pText 1000 u1).1 ∧ KeepR C1 B1 r ∧ RdG badF B B1 r (pText 1000 u1).2 := hq
  have hs2 := (pText_len 1000 u1).1
  obtain ⟨ad, cd, hvf⟩ := hdat.1.form
  generalize (pText 1000 u1).1 = dat at *
  generalize (pText 1000 u1).2 = w0 at *
  subst hvf
  have M1b : NdM A B1 B1 B r g0 g1 w0 [.string ⟨#[]⟩, .slice none 0 0, .int .i64 0, .int .i64 0, .int .i64 0, .int .i64 0, .int .i64 0, .int .i64 0, .int .i64 0, .int .i64 0, .int .i64 0, .int .i64 0] [.string ⟨pth.toArray⟩, .slice none 0 0, .int .i64 0, .int .i64 0, .int .i64 0, .int .i64 0, .int .i64 0, .int .i64 0, .int .i64 0, .int .i64 0, .int .i64 0, .int .i64 0] := (M1.call F k2 hR2).set
  have hoff : ∀ X : Arena, (∀ k o, B1.blk k = some o → k ≠ r → k ≠ g0 → k ≠ g1 → X.blk k = some o) → (B1.minus C1).Sub (X.minus A) := fun X hX k o hk => by
    obtain ⟨h1, h2⟩ := minus_blk hk
    have hkr : k ≠ r := fun e => by
      obtain ⟨o', ho⟩ := M1.rd.live2
      rw [e, ho] at h1; cases h1
    refine minus_mk ?_ (hX k o h2 hkr (fun e => ?_) fun e => ?_)
    · cases hA : A.blk k with
      | none => rfl
      | some o' => rw [M1.keep k o' hA hkr] at h1; cases h1
    · obtain ⟨o', ho⟩ := M1.c0.dom
      rw [e, ho] at h1; cases h1
    · obtain ⟨o', ho⟩ := M1.c1.dom
      rw [e, ho] at h1; cases h1
  have hnd : ∀ v A', (∃ d, v = .agg (nodeC ((⟨⟨pth.toArray⟩, dat, ⟨pI 0 w0, pI 1 w0, pI 2 w0, pI 3 w0, pI 4 w0, pI 5 w0, pI 6 w0, pI 7 w0, dat.length, 0⟩⟩ : ToldD), d)).toArray ∧ SlB (A'.minus A) d dat ∧ KeepR A A' r ∧ RdG badF B A' r (pIs 8 w0)) → rnodeS.post ⟨r, st, B⟩ [] A v A' := fun v A' h => hend v A' h
  clear hend k2 hR2
  conv => lhs; whnf
  repeat (first | refine go_D hD rfl ?_
          conv => lhs; whnf)
  refine (hD _).2 ⟨M1b.c1.room (by show 1 + 1 ≤ 12; omega), fun C2 hP => ?_⟩
  have hP : B1.Put C2 g1 1 [.slice ad dat.length cd] := hP
  have M2 : NdM A B1 C2 B r g0 g1 (pIs 0 w0) [.string ⟨#[]⟩, .slice none 0 0, .int .i64 0, .int .i64 0, .int .i64 0, .int .i64 0, .int .i64 0, .int .i64 0, .int .i64 0, .int .i64 0, .int .i64 0, .int .i64 0] [.string ⟨pth.toArray⟩, .slice ad dat.length cd, .int .i64 0, .int .i64 0, .int .i64 0, .int .i64 0, .int .i64 0, .int .i64 0, .int .i64 0, .int .i64 0, .int .i64 0, .int .i64 0] := M1b.put1 F hP (by show 1 + 1 ≤ 12; omega)
  clear hP M1b
  conv => lhs; whnf
  repeat (first | refine go_D hD rfl ?_
          conv => lhs; whnf)
  refine (hD _).2 ⟨(⟨r, pIs 0 w0, B⟩ : RyG), ⟨rfl, M2.rd, by show stLen (pIs 0 w0) ≤ _; have := pIs_stlen w0 0; omega⟩, fun v B2 hq => ?_⟩
  obtain ⟨hv, k2, hR2⟩ : v = .int .i64 (pI 0 w0) ∧ KeepR C2 B2 r ∧ RdG badF B B2 r (pIs 1 w0) := hq
  generalize pI 0 w0 = i0 at *
  subst hv
  have N2 := M2.call F k2 hR2
  clear k2 hR2 M2
  conv => lhs; whnf
  repeat (first | refine go_D hD rfl ?_
          conv => lhs; whnf)
  refine (hD _).2 ⟨N2.c1.room (by show 2 + 1 ≤ 12; omega), fun C3 hP => ?_⟩
  have hP : B2.Put C3 g1 2 [.int .i64 i0] := hP
  have M3 : NdM A B1 C3 B r g0 g1 (pIs 1 w0) [.string ⟨#[]⟩, .slice none 0 0, .int .i64 0, .int .i64 0, .int .i64 0, .int .i64 0, .int .i64 0, .int .i64 0, .int .i64 0, .int .i64 0, .int .i64 0, .int .i64 0] [.string ⟨pth.toArray⟩, .slice ad dat.length cd, .int .i64 i0, .int .i64 0, .int .i64 0, .int .i64 0, .int .i64 0, .int .i64 0, .int .i64 0, .int .i64 0, .int .i64 0, .int .i64 0] := N2.put1 F hP (by show 2 + 1 ≤ 12; omega)
  clear hP N2
  conv => lhs; whnf
  repeat (first | refine go_D hD rfl ?_
          conv => lhs; whnf)
  refine (hD _).2 ⟨(⟨r, pIs 1 w0, B⟩ : RyG), ⟨rfl, M3.rd, by show stLen (pIs 1 w0) ≤ _; have := pIs_stlen w0 1; omega⟩, fun v B3 hq => ?_⟩
  obtain ⟨hv, k2, hR2⟩ : v = .int .i64 (pI 1 w0) ∧ KeepR C3 B3 r ∧ RdG badF B B3 r (pIs 2 w0) := hq
  generalize pI 1 w0 = i1 at *
  subst hv
  have N3 := M3.call F k2 hR2
  clear k2 hR2 M3
  conv => lhs; whnf
  repeat (first | refine go_D hD rfl ?_
          conv => lhs; whnf)
  refine (hD _).2 ⟨N3.c1.room (by show 3 + 1 ≤ 12; omega), fun C4 hP => ?_⟩
  have hP : B3.Put C4 g1 3 [.int .i64 i1] := hP
  have M4 : NdM A B1 C4 B r g0 g1 (pIs 2 w0) [.string ⟨#[]⟩, .slice none 0 0, .int .i64 0, .int .i64 0, .int .i64 0, .int .i64 0, .int .i64 0, .int .i64 0, .int .i64 0, .int .i64 0, .int .i64 0, .int .i64 0] [.string ⟨pth.toArray⟩, .slice ad dat.length cd, .int .i64 i0, .int .i64 i1, .int .i64 0, .int .i64 0, .int .i64 0, .int .i64 0, .int .i64 0, .int .i64 0, .int .i64 0, .int .i64 0] := N3.put1 F hP (by show 3 + 1 ≤ 12; omega)
  clear hP N3
  conv => lhs; whnf
  repeat (first | refine go_D hD rfl ?_
          conv => lhs; whnf)
  refine (hD _).2 ⟨(⟨r, pIs 2 w0, B⟩ : RyG), ⟨rfl, M4.rd, by show stLen (pIs 2 w0) ≤ _; have := pIs_stlen w0 2; omega⟩, fun v B4 hq => ?_⟩
  obtain ⟨hv, k2, hR2⟩ : v = .int .i64 (pI 2 w0) ∧ KeepR C4 B4 r ∧ RdG badF B B4 r (pIs 3 w0) := hq
  generalize pI 2 w0 = i2 at *
  subst hv
  have N4 := M4.call F k2 hR2
  clear k2 hR2 M4
  conv => lhs; whnf
  repeat (first | refine go_D hD rfl ?_
          conv => lhs; whnf)
  refine (hD _).2 ⟨N4.c1.room (by show 4 + 1 ≤ 12; omega), fun C5 hP => ?_⟩
  have hP : B4.Put C5 g1 4 [.int .i64 i2] := hP
  have M5 : NdM A B1 C5 B r g0 g1 (pIs 3 w0) [.string ⟨#[]⟩, .slice none 0 0, .int .i64 0, .int .i64 0, .int .i64 0, .int .i64 0, .int .i64 0, .int .i64 0, .int .i64 0, .int .i64 0, .int .i64 0, .int .i64 0] [.string ⟨pth.toArray⟩, .slice ad dat.length cd, .int .i64 i0, .int .i64 i1, .int .i64 i2, .int .i64 0, .int .i64 0, .int .i64 0, .int .i64 0, .int .i64 0, .int .i64 0, .int .i64 0] := N4.put1 F hP (by show 4 + 1 ≤ 12; omega)
  clear hP N4
  conv => lhs; whnf
  repeat (first | refine go_D hD rfl ?_
          conv => lhs; whnf)
  refine (hD _).2 ⟨(⟨r, pIs 3 w0, B⟩ : RyG), ⟨rfl, M5.rd, by show stLen (pIs 3 w0) ≤ _; have := pIs_stlen w0 3; omega⟩, fun v B5 hq => ?_⟩
  obtain ⟨hv, k2, hR2⟩ : v = .int .i64 (pI 3 w0) ∧ KeepR C5 B5 r ∧ RdG badF B B5 r (pIs 4 w0) := hq
  generalize pI 3 w0 = i3 at *
  subst hv
  have N5 := M5.call F k2 hR2
  clear k2 hR2 M5
  conv => lhs; whnf
  repeat (first | refine go_D hD rfl ?_
          conv => lhs; whnf)
  refine (hD _).2 ⟨N5.c1.room (by show 5 + 1 ≤ 12; omega), fun C6 hP => ?_⟩
  have hP : B5.Put C6 g1 5 [.int .i64 i3] := hP
  have M6 : NdM A B1 C6 B r g0 g1 (pIs 4 w0) [.string ⟨#[]⟩, .slice none 0 0, .int .i64 0, .int .i64 0, .int .i64 0, .int .i64 0, .int .i64 0, .int .i64 0, .int .i64 0, .int .i64 0, .int .i64 0, .int .i64 0] [.string ⟨pth.toArray⟩, .slice ad dat.length cd, .int .i64 i0, .int .i64 i1, .int .i64 i2, .int .i64 i3, .int .i64 0, .int .i64 0, .int .i64 0, .int .i64 0, .int .i64 0, .int .i64 0] := N5.put1 F hP (by show 5 + 1 ≤ 12; omega)
  clear hP N5
  conv => lhs; whnf
  repeat (first | refine go_D hD rfl ?_
          conv => lhs; whnf)
  refine (hD _).2 ⟨(⟨r, pIs 4 w0, B⟩ : RyG), ⟨rfl, M6.rd, by show stLen (pIs 4 w0) ≤ _; have := pIs_stlen w0 4; omega⟩, fun v B6 hq => ?_⟩
  obtain ⟨hv, k2, hR2⟩ : v = .int .i64 (pI 4 w0) ∧ KeepR C6 B6 r ∧ RdG badF B B6 r (pIs 5 w0) := hq
  generalize pI 4 w0 = i4 at *
  subst hv
  have N6 := M6.call F k2 hR2
  clear k2 hR2 M6
  conv => lhs; whnf
  repeat (first | refine go_D hD rfl ?_
          conv => lhs; whnf)
  refine (hD _).2 ⟨N6.c1.room (by show 6 + 1 ≤ 12; omega), fun C7 hP => ?_⟩
  have hP : B6.Put C7 g1 6 [.int .i64 i4] := hP
  have M7 : NdM A B1 C7 B r g0 g1 (pIs 5 w0) [.string ⟨#[]⟩, .slice none 0 0, .int .i64 0, .int .i64 0, .int .i64 0, .int .i64 0, .int .i64 0, .int .i64 0, .int .i64 0, .int .i64 0, .int .i64 0, .int .i64 0] [.string ⟨pth.toArray⟩, .slice ad dat.length cd, .int .i64 i0, .int .i64 i1, .int .i64 i2, .int .i64 i3, .int .i64 i4, .int .i64 0, .int .i64 0, .int .i64 0, .int .i64 0, .int .i64 0] := N6.put1 F hP (by show 6 + 1 ≤ 12; omega)
  clear hP N6
  conv => lhs; whnf
  repeat (first | refine go_D hD rfl ?_
          conv => lhs; whnf)
  refine (hD _).2 ⟨(⟨r, pIs 5 w0, B⟩ : RyG), ⟨rfl, M7.rd, by show stLen (pIs 5 w0) ≤ _; have := pIs_stlen w0 5; omega⟩, fun v B7 hq => ?_⟩
  obtain ⟨hv, k2, hR2⟩ : v = .int .i64 (pI 5 w0) ∧ KeepR C7 B7 r ∧ RdG badF B B7 r (pIs 6 w0) := hq
  generalize pI 5 w0 = i5 at *
  subst hv
  have N7 := M7.call F k2 hR2
  clear k2 hR2 M7
  conv => lhs; whnf
  repeat (first | refine go_D hD rfl ?_
          conv => lhs; whnf)
  refine (hD _).2 ⟨N7.c1.room (by show 7 + 1 ≤ 12; omega), fun C8 hP => ?_⟩
  have hP : B7.Put C8 g1 7 [.int .i64 i5] := hP
  have M8 : NdM A B1 C8 B r g0 g1 (pIs 6 w0) [.string ⟨#[]⟩, .slice none 0 0, .int .i64 0, .int .i64 0, .int .i64 0, .int .i64 0, .int .i64 0, .int .i64 0, .int .i64 0, .int .i64 0, .int .i64 0, .int .i64 0] [.string ⟨pth.toArray⟩, .slice ad dat.length cd, .int .i64 i0, .int .i64 i1, .int .i64 i2, .int .i64 i3, .int .i64 i4, .int .i64 i5, .int .i64 0, .int .i64 0, .int .i64 0, .int .i64 0] := N7.put1 F hP (by show 7 + 1 ≤ 12; omega)
  clear hP N7
  conv => lhs; whnf
  repeat (first | refine go_D hD rfl ?_
          conv => lhs; whnf)
  refine (hD _).2 ⟨(⟨r, pIs 6 w0, B⟩ : RyG), ⟨rfl, M8.rd, by show stLen (pIs 6 w0) ≤ _; have := pIs_stlen w0 6; omega⟩, fun v B8 hq => ?_⟩
  obtain ⟨hv, k2, hR2⟩ : v = .int .i64 (pI 6 w0) ∧ KeepR C8 B8 r ∧ RdG badF B B8 r (pIs 7 w0) := hq
  generalize pI 6 w0 = i6 at *
  subst hv
  have N8 := M8.call F k2 hR2
  clear k2 hR2 M8
  conv => lhs; whnf
  repeat (first | refine go_D hD rfl ?_
          conv => lhs; whnf)
  refine (hD _).2 ⟨N8.c1.room (by show 8 + 1 ≤ 12; omega), fun C9 hP => ?_⟩
  have hP : B8.Put C9 g1 8 [.int .i64 i6] := hP
  have M9 : NdM A B1 C9 B r g0 g1 (pIs 7 w0) [.string ⟨#[]⟩, .slice none 0 0, .int .i64 0, .int .i64 0, .int .i64 0, .int .i64 0, .int .i64 0, .int .i64 0, .int .i64 0, .int .i64 0, .int .i64 0, .int .i64 0] [.string ⟨pth.toArray⟩, .slice ad dat.length cd, .int .i64 i0, .int .i64 i1, .int .i64 i2, .int .i64 i3, .int .i64 i4, .int .i64 i5, .int .i64 i6, .int .i64 0, .int .i64 0, .int .i64 0] := N8.put1 F hP (by show 8 + 1 ≤ 12; omega)
  clear hP N8
  conv => lhs; whnf
  repeat (first | refine go_D hD rfl ?_
          conv => lhs; whnf)
  refine (hD _).2 ⟨(⟨r, pIs 7 w0, B⟩ : RyG), ⟨rfl, M9.rd, by show stLen (pIs 7 w0) ≤ _; have := pIs_stlen w0 7; omega⟩, fun v B9 hq => ?_⟩
  obtain ⟨hv, k2, hR2⟩ : v = .int .i64 (pI 7 w0) ∧ KeepR C9 B9 r ∧ RdG badF B B9 r (pIs 8 w0) := hq
  generalize pI 7 w0 = i7 at *
  subst hv
  have N9 := M9.call F k2 hR2
  clear k2 hR2 M9
  conv => lhs; whnf
  repeat (first | refine go_D hD rfl ?_
          conv => lhs; whnf)
  refine (hD _).2 ⟨N9.c1.room (by show 9 + 1 ≤ 12; omega), fun C10 hP => ?_⟩
  have hP : B9.Put C10 g1 9 [.int .i64 i7] := hP
  have M10 : NdM A B1 C10 B r g0 g1 (pIs 8 w0) [.string ⟨#[]⟩, .slice none 0 0, .int .i64 0, .int .i64 0, .int .i64 0, .int .i64 0, .int .i64 0, .int .i64 0, .int .i64 0, .int .i64 0, .int .i64 0, .int .i64 0] [.string ⟨pth.toArray⟩, .slice ad dat.length cd, .int .i64 i0, .int .i64 i1, .int .i64 i2, .int .i64 i3, .int .i64 i4, .int .i64 i5, .int .i64 i6, .int .i64 i7, .int .i64 0, .int .i64 0] := N9.put1 F hP (by show 9 + 1 ≤ 12; omega)
  clear hP N9
  have rd1 : C10.rd g1 1 1 = some [.slice ad dat.length cd] := M10.c1.rd (o := 1) (n := 1) (by show 1 + 1 ≤ 12; omega)
  conv => lhs; whnf
  repeat (first | refine go_rd rd1 ?_ | refine go_D hD rfl ?_
          conv => lhs; whnf)
  refine (hD _).2 ⟨M10.c1.room (by show 10 + 1 ≤ 12; omega), fun C11 hP => ?_⟩
  have hP : C10.Put C11 g1 10 [.int .i64 dat.length] := hP
  have M11 : NdM A B1 C11 B r g0 g1 (pIs 8 w0) [.string ⟨#[]⟩, .slice none 0 0, .int .i64 0, .int .i64 0, .int .i64 0, .int .i64 0, .int .i64 0, .int .i64 0, .int .i64 0, .int .i64 0, .int .i64 0, .int .i64 0] [.string ⟨pth.toArray⟩, .slice ad dat.length cd, .int .i64 i0, .int .i64 i1, .int .i64 i2, .int .i64 i3, .int .i64 i4, .int .i64 i5, .int .i64 i6, .int .i64 i7, .int .i64 dat.length, .int .i64 0] := M10.put1 F hP (by show 10 + 1 ≤ 12; omega)
  have rd2 : C11.rd g1 0 12 = some [.string ⟨pth.toArray⟩, .slice ad dat.length cd, .int .i64 i0, .int .i64 i1, .int .i64 i2, .int .i64 i3, .int .i64 i4, .int .i64 i5, .int .i64 i6, .int .i64 i7, .int .i64 dat.length, .int .i64 0] := M11.c1.rd (o := 0) (n := 12) (by show 0 + 12 ≤ 12; omega)
  clear hP M10 rd1
  conv => lhs; whnf
  repeat (first | refine go_rd rd2 ?_ | refine go_D hD rfl ?_
          conv => lhs; whnf)
  refine (hD _).2 ⟨M11.c0.room (by show 0 + 12 ≤ 12; omega), fun C12 hP => ?_⟩
  have hP : C11.Put C12 g0 0 [.string ⟨pth.toArray⟩, .slice ad dat.length cd, .int .i64 i0, .int .i64 i1, .int .i64 i2, .int .i64 i3, .int .i64 i4, .int .i64 i5, .int .i64 i6, .int .i64 i7, .int .i64 dat.length, .int .i64 0] := hP
  have M12 : NdM A B1 C12 B r g0 g1 (pIs 8 w0) [.string ⟨pth.toArray⟩, .slice ad dat.length cd, .int .i64 i0, .int .i64 i1, .int .i64 i2, .int .i64 i3, .int .i64 i4, .int .i64 i5, .int .i64 i6, .int .i64 i7, .int .i64 dat.length, .int .i64 0] [.string ⟨pth.toArray⟩, .slice ad dat.length cd, .int .i64 i0, .int .i64 i1, .int .i64 i2, .int .i64 i3, .int .i64 i4, .int .i64 i5, .int .i64 i6, .int .i64 i7, .int .i64 dat.length, .int .i64 0] := M11.put0 F hP (by show 0 + 12 ≤ 12; omega)
  have rd3 : C12.rd g0 0 12 = some [.string ⟨pth.toArray⟩, .slice ad dat.length cd, .int .i64 i0, .int .i64 i1, .int .i64 i2, .int .i64 i3, .int .i64 i4, .int .i64 i5, .int .i64 i6, .int .i64 i7, .int .i64 dat.length, .int .i64 0] := M12.c0.rd (o := 0) (n := 12) (by show 0 + 12 ≤ 12; omega)
  have hfin := hnd (.agg ([.string ⟨pth.toArray⟩, .slice ad dat.length cd, .int .i64 i0, .int .i64 i1, .int .i64 i2, .int .i64 i3, .int .i64 i4, .int .i64 i5, .int .i64 i6, .int .i64 i7, .int .i64 dat.length, .int .i64 0]).toArray) C12 ⟨_, rfl, hdat.sub (hoff C12 M12.off), M12.keep, M12.rd⟩
  conv => lhs; whnf
  repeat (first | refine go_rd rd3 ?_ | refine go_D hD rfl ?_
          conv => lhs; whnf)
  refine go_res (resA (g := g0) (cs := [.string ⟨pth.toArray⟩, .slice ad dat.length cd, .int .i64 i0, .int .i64 i1, .int .i64 i2, .int .i64 i3, .int .i64 i4, .int .i64 i5, .int .i64 i6, .int .i64 i7, .int .i64 dat.length, .int .i64 0]) (z := .v (.agg ([.string ⟨pth.toArray⟩, .slice ad dat.length cd, .int .i64 i0, .int .i64 i1, .int .i64 i2, .int .i64 i3, .int .i64 i4, .int .i64 i5, .int .i64 i6, .int .i64 i7, .int .i64 dat.length, .int .i64 0]).toArray)) rfl rfl rfl rd3 rfl) ?_
  exact (hD _).2 hfin

end
end Go.Proofs.YthbaimobihmhiaaGreatDoor

namespace Go.Proofs.YthbaimobihmhiaaGreatDoor
open Go.Sx Go.RowKit
noncomputable section
open Classical

def MemOk (m : MemD) : Prop := 1 ≤ m.id ∧ m.id ≤ 7 ∧ ((m.role = 2 ∧ m.weight = 0 ∧ m.group = 0) ∨ (m.role = 1 ∧ 0 ≤ m.weight ∧ m.weight ≤ 1000 ∧ 0 ≤ m.group ∧ m.group < 7))

theorem memOk_iff {last : Int} (h0 : 0 ≤ last) (m : MemD) : memberOk last m = true ↔ MemOk m ∧ last < m.id := by
  rw [memberOk_iff]
  unfold MemOk
  constructor
  · rintro ⟨h1, h2, h3⟩
    exact ⟨⟨by omega, h2, h3⟩, h1⟩
  · rintro ⟨⟨_, h2, h3⟩, h1⟩
    exact ⟨h1, h2, h3⟩

def rmemS : FSpec := ⟨MemD, fun m vs _ => vs = [.agg #[.int .i64 m.id, .int .u8 m.role, .int .i64 m.weight, .int .i64 m.group]], fun m _ A v A' => A' = A ∧ v = .bool (decide (MemOk m))⟩

set_option maxRecDepth 100000 in
set_option maxHeartbeats 0 in
theorem rmem_ok : FOk Tryz.prog 69 rmemS := by
  refine fok_v mixed fun ⟨id, role, weight, group⟩ vs A hp => ?_
  obtain rfl : vs = [.agg #[.int .i64 id, .int .u8 role, .int .i64 weight, .int .i64 group]] := hp
  refine ⟨noC, noL, 60, noC_sound _, noL_sound _, fun blk os out tape D hD => ?_⟩
  have bad : ¬ MemOk ⟨id, role, weight, group⟩ → A = A ∧ Value.bool false = .bool (decide (MemOk ⟨id, role, weight, group⟩)) := fun hb => ⟨rfl, by rw [decide_eq_false hb]⟩
  have good : ∀ b : Bool, (b = true ↔ MemOk ⟨id, role, weight, group⟩) → A = A ∧ Value.bool b = .bool (decide (MemOk ⟨id, role, weight, group⟩)) := fun b hb => ⟨rfl, by
    congr 1
    rw [Bool.eq_iff_iff, hb, decide_eq_true_iff]⟩
  conv => lhs; whnf
  refine split_dec (fun h1 => ?_) (fun h1 => ?_) <;> (conv => lhs; whnf)
  · exact (hD _).2 (bad fun hB => by unfold MemOk at hB; dsimp only at hB; omega)
  refine split_dec (fun h2 => ?_) (fun h2 => ?_) <;> (conv => lhs; whnf)
  · exact (hD _).2 (bad fun hB => by unfold MemOk at hB; dsimp only at hB; omega)
  refine split_dec (fun h3 => ?_) (fun h3 => ?_) <;> (conv => lhs; whnf)
  · refine split_dec (fun h4 => ?_) (fun h4 => ?_) <;> (conv => lhs; whnf)
    · exact (hD _).2 (good (decide (group = 0)) (by unfold MemOk; simp only [decide_eq_true_iff]; omega))
    · exact (hD _).2 (bad fun hB => by unfold MemOk at hB; dsimp only at hB; omega)
  refine split_dec (fun h4 => ?_) (fun h4 => ?_) <;> (conv => lhs; whnf)
  rotate_left
  · exact (hD _).2 (bad fun hB => by unfold MemOk at hB; dsimp only at hB; omega)
  refine split_dec (fun h5 => ?_) (fun h5 => ?_) <;> (conv => lhs; whnf)
  rotate_left
  · exact (hD _).2 (bad fun hB => by unfold MemOk at hB; dsimp only at hB; omega)
  refine split_dec (fun h6 => ?_) (fun h6 => ?_) <;> (conv => lhs; whnf)
  rotate_left
  · exact (hD _).2 (bad fun hB => by unfold MemOk at hB; dsimp only at hB; omega)
  refine split_dec (fun h7 => ?_) (fun h7 => ?_) <;> (conv => lhs; whnf)
  rotate_left
  · exact (hD _).2 (bad fun hB => by unfold MemOk at hB; dsimp only at hB; omega)
  exact (hD _).2 (good (decide (group < 7)) (by unfold MemOk; simp only [decide_eq_true_iff]; omega))

theorem ensGo_snoc : ∀ (xs : List MemD) (l w : Int) (m : MemD), ensGo l w (xs ++ [m]) = match ensGo l w xs with
    | some (l', w') => if memberOk l' m = true then some (m.id, w' + m.weight) else none
    | none => none
  | [], l, w, m => by
    show (if memberOk l m = true then ensGo m.id (w + m.weight) [] else none) = _
    rfl
  | x :: xs, l, w, m => by
    show (if memberOk l x = true then ensGo x.id (w + x.weight) (xs ++ [m]) else none) = match (if memberOk l x = true then ensGo x.id (w + x.weight) xs else none) with
      | some (l', w') => if memberOk l' m = true then some (m.id, w' + m.weight) else none
      | none => none
    by_cases h : memberOk l x = true
    · rw [if_pos h, if_pos h, ensGo_snoc xs]
    · rw [if_neg h, if_neg h]

theorem ensGo_app : ∀ (xs ys : List MemD) (l w : Int), ensGo l w xs = none → ensGo l w (xs ++ ys) = none
  | [], _, _, _, h => by cases h
  | x :: xs, ys, l, w, h => by
    have h : (if memberOk l x = true then ensGo x.id (w + x.weight) xs else none) = none := h
    show (if memberOk l x = true then ensGo x.id (w + x.weight) (xs ++ ys) else none) = none
    by_cases hm : memberOk l x = true
    · rw [if_pos hm] at h ⊢
      exact ensGo_app xs ys _ _ h
    · rw [if_neg hm]

structure EnI (ms : List MemD) (s : Nat × Int) : Prop where
  le : s.1 ≤ ms.length
  go : ∃ last, ensGo 0 0 (ms.take s.1) = some (last, s.2) ∧ (s.1 = 0 → last = 0) ∧ (∀ h : s.1 - 1 < ms.length, 0 < s.1 → last = ms[s.1 - 1].id ∧ 1 ≤ last)
  lo : 0 ≤ s.2
  hi : s.2 ≤ 1000 * s.1

def renInv (A : Arena) (ms : List MemD) : LInv := { γ := Nat × Int, G := EnI ms, keepS := [1], keepB := [0], sl := fun s => [(3, .v (.int .i64 s.2)), (4, .v (.int .i64 s.1))], bl := fun _ => [], ar := fun _ => A, mu := fun s => ms.length - s.1 }

def renS : FSpec := ⟨Int × List MemD, fun g vs A => ∃ vm, vs = [.agg #[.int .i64 g.1, vm]] ∧ MemR A vm g.2, fun g _ A v A' => A' = A ∧ ∃ z, v = .int .i64 z ∧ (z = 0 ↔ ensD g.1 g.2 = 0)⟩

set_option maxRecDepth 100000 in
set_option maxHeartbeats 0 in
theorem ren_ok : FOk Tryz.prog 41 renS := by
  refine fok_v mixed fun ⟨ver, ms⟩ vs A hp => ?_
  obtain ⟨vm, rfl, ⟨ao, c, rfl, hc, hml, ha1, ha2, ha3⟩, hm32⟩ : ∃ vm, vs = [.agg #[.int .i64 ver, vm]] ∧ MemR A vm ms := hp
  have hC : CTSound Tryz.prog (lookC [specE 69 rmemS] noC) := lookC_sound (noC_sound _) (fun x hx => by
    simp only [List.mem_singleton] at hx
    subst hx; exact specE_ok rmem_ok)
  refine ⟨_, tabO Tryz.prog _ noL 60 [(41, 0)], 60, hC, tabO_sound mixed hC (noL_sound _) _ _, fun blk os out tape D hD => ?_⟩
  have hend : ∀ z : Int, (z = 0 ↔ ensD ver ms = 0) → A = A ∧ ∃ z', Value.int .i64 z = .int .i64 z' ∧ (z' = 0 ↔ ensD ver ms = 0) := fun z h => ⟨rfl, z, rfl, h⟩
  conv => lhs; whnf
  refine split_dec (fun h7 => ?_) (fun h7 => ?_) <;> (conv => lhs; whnf)
  · have h7 : (7 : Int) < (ms.length : Int) := h7
    exact (hD _).2 (hend 3 (by
      unfold ensD
      rw [if_pos (by omega)]))
  have h7 : ms.length ≤ 7 := by
    have h7 : ¬ (7 : Int) < (ms.length : Int) := h7
    omega
  have hI0 : EnI ms (0, 0) := ⟨Nat.zero_le _, ⟨0, rfl, fun _ => rfl, fun _ h => absurd h (Nat.lt_irrefl _)⟩, Int.le_refl _, Int.le_refl _⟩
  refine (hD _).2 ⟨renInv A ms, ⟨((0, 0) : Nat × Int), hI0, ⟨rfl, rfl, trivial⟩, trivial, rfl⟩, fun (s : Nat × Int) hG => ⟨⟨trivial, trivial, trivial⟩, trivial, ?_⟩⟩
  obtain ⟨k, w⟩ := s
  obtain ⟨hk, ⟨last, hgo, hl0, hl1⟩, hw0, hw1⟩ : EnI ms (k, w) := hG
  dsimp only at hk hgo hl0 hl1 hw0 hw1
  conv => lhs; whnf
  refine split_dec (fun hlt => ?_) (fun hlt => ?_) <;> (conv => lhs; whnf)
  rotate_left
  · have e : k = ms.length := by
      have hlt : ¬ (k : Int) < (ms.length : Int) := hlt
      omega
    rw [e, List.take_length] at hgo
    have hen : ensD ver ms = 0 ↔ ¬ (w = 0 ∨ ver < 0 ∨ 4611686018427387904 < ver) := by
      unfold ensD
      rw [if_neg (by omega), hgo]
      dsimp only
      by_cases h : w = 0 ∨ ver < 0 ∨ 4611686018427387904 < ver
      · rw [if_pos h]
        simp [h]
      · rw [if_neg h]
        simp [h]
    refine split_dec (fun h1 => ?_) (fun h1 => ?_) <;> (conv => lhs; whnf)
    · exact (hD _).2 (hend 140 (by rw [hen]; omega))
    refine split_dec (fun h2 => ?_) (fun h2 => ?_) <;> (conv => lhs; whnf)
    · exact (hD _).2 (hend 140 (by rw [hen]; omega))
    refine split_dec (fun h3 => ?_) (fun h3 => ?_) <;> (conv => lhs; whnf)
    · exact (hD _).2 (hend 140 (by rw [hen]; omega))
    · exact (hD _).2 (hend 0 (by rw [hen]; omega))
  have hkl : k < ms.length := by
    have hlt : (k : Int) < (ms.length : Int) := hlt
    omega
  obtain ⟨g0, o, rfl, hra⟩ := Sl.at_ hc ha1 ha2 ha3 (by omega)
  have r1 := mem_at hra k hkl rfl
  have r1i : A.rd g0 (o + k * 4) 1 = some [.int .i64 ms[k].id] := rd_at r1 (i := 0) (m := 1) (by omega)
  have r1w : A.rd g0 (o + k * 4 + 2) 1 = some [.int .i64 ms[k].weight] := rd_at r1 (i := 2) (m := 1) (by omega)
  have i0 : (0 : Int) ≤ (k : Int) ∧ (k : Int) < (ms.length : Int) := by omega
  have hlast : 0 ≤ last := by
    rcases Nat.eq_zero_or_pos k with h | h
    · rw [hl0 h]
      exact Int.le_refl _
    · have := (hl1 (by omega) h).2
      omega
  have hsn : ensGo 0 0 (ms.take (k + 1)) = if memberOk last ms[k] = true then some (ms[k].id, w + ms[k].weight) else none := by
    rw [List.take_succ_eq_append_getElem hkl, ensGo_snoc, hgo]
  have hnone : memberOk last ms[k] ≠ true → ensD ver ms = 140 := fun h => by
    rw [if_neg h] at hsn
    have h2 := ensGo_app (ms.take (k + 1)) (ms.drop (k + 1)) 0 0 hsn
    rw [List.take_append_drop] at h2
    unfold ensD
    rw [if_neg (by omega), h2]
  have hmo := memOk_iff hlast ms[k]
  repeat (first | refine go_in i0 ?_ | refine go_rd r1 ?_
          conv => lhs; whnf)
  refine (hD _).2 ⟨ms[k], rfl, fun v A9 hq => ?_⟩
  have hq : A9 = A ∧ v = .bool (decide (MemOk ms[k])) := hq
  have h9 := hq.1.symm
  have hv := hq.2
  subst h9
  by_cases hm : MemOk ms[k]
  rotate_left
  · rw [decide_eq_false hm] at hv
    subst hv
    conv => lhs; whnf
    exact (hD _).2 (hend 140 (by rw [hnone fun h => hm (hmo.1 h).1]))
  rw [decide_eq_true hm] at hv
  subst hv
  have hwt : 0 ≤ ms[k].weight ∧ ms[k].weight ≤ 1000 := by
    rcases hm.2.2 with h | h <;> omega
  have hgood : last < ms[k].id → EnI ms (k + 1, w + ms[k].weight) := fun hlt2 => by
    rw [if_pos (hmo.2 ⟨hm, hlt2⟩)] at hsn
    exact ⟨hkl, ⟨ms[k].id, hsn, fun h => absurd h (Nat.succ_ne_zero k), fun h _ => ⟨rfl, hm.1⟩⟩, by show 0 ≤ w + ms[k].weight; omega, by show w + ms[k].weight ≤ 1000 * ((k + 1 : Nat) : Int); omega⟩
  conv => lhs; whnf
  have hww : IntKind.i64.wrap (w + ms[k].weight) = w + ms[k].weight := by
    rw [Sx.wrap_i64 (by omega) (by omega)]
  refine split_dec (fun h0 => ?_) (fun h0 => ?_) <;> (conv => lhs; whnf)
  · have hk0 : 0 < k := by
      have h0 : (0 : Int) < (k : Int) := h0
      omega
    have hk1 : k - 1 < ms.length := by omega
    have hx : IntKind.i64.wrap ((k : Int) - 1) = ((k - 1 : Nat) : Int) := by
      rw [Sx.wrap_i64 (by omega) (by omega)]; omega
    have hin1 : (0 : Int) ≤ IntKind.i64.wrap ((k : Int) - 1) ∧ IntKind.i64.wrap ((k : Int) - 1) < (ms.length : Int) := by rw [hx]; omega
    have r0 : A.rd g0 (o + (IntKind.i64.wrap ((k : Int) - 1)).toNat * 4) 1 = some [.int .i64 ms[k - 1].id] := by
      rw [hx, Int.toNat_natCast]
      exact rd_at (mem_at hra (k - 1) hk1 rfl) (i := 0) (m := 1) (by omega)
    repeat (first | refine go_in i0 ?_ | refine go_rd r1i ?_ | refine go_in hin1 ?_ | refine go_rd r0 ?_
            conv => lhs; whnf)
    have hle := (hl1 hk1 hk0).1
    refine split_dec (fun h8 => ?_) (fun h8 => ?_) <;> (conv => lhs; whnf)
    · exact (hD _).2 (hend 140 (by rw [hnone fun h => by have := (hmo.1 h).2; omega]))
    have hI := hgood (by omega)
    repeat (first | refine go_in i0 ?_ | refine go_rd r1w ?_
            conv => lhs; whnf)
    exact (hD _).2 ⟨((k + 1, w + ms[k].weight) : Nat × Int), ⟨hI, ⟨congrArg (fun z => some (SV.v (.int .i64 z))) hww, inc_slot (k := k) (by omega), trivial⟩, trivial, rfl⟩, by show ms.length - (k + 1) < ms.length - k; omega, ⟨same1 rfl rfl, trivial⟩, ⟨same1 rfl rfl, trivial⟩⟩
  · have hk0 : k = 0 := by
      have h0 : ¬ (0 : Int) < (k : Int) := h0
      omega
    have hI := hgood (by rw [hl0 hk0]; have := hm.1; omega)
    repeat (first | refine go_in i0 ?_ | refine go_rd r1w ?_
            conv => lhs; whnf)
    exact (hD _).2 ⟨((k + 1, w + ms[k].weight) : Nat × Int), ⟨hI, ⟨congrArg (fun z => some (SV.v (.int .i64 z))) hww, inc_slot (k := k) (by omega), trivial⟩, trivial, rfl⟩, by show ms.length - (k + 1) < ms.length - k; omega, ⟨same1 rfl rfl, trivial⟩, ⟨same1 rfl rfl, trivial⟩⟩

end
end Go.Proofs.YthbaimobihmhiaaGreatDoor

namespace Go.Proofs.YthbaimobihmhiaaGreatDoor
open Go.Sx Go.RowKit
noncomputable section
open Classical

theorem pSmall_bd {most : Int} {s : RdSt} (h : 0 ≤ most) : 0 ≤ (pSmall most s).1 ∧ (pSmall most s).1 ≤ most + 1 := by
  show 0 ≤ (if (pInt s).1 < 0 ∨ most < (pInt s).1 then most + 1 else (pInt s).1) ∧ (if (pInt s).1 < 0 ∨ most < (pInt s).1 then most + 1 else (pInt s).1) ≤ most + 1
  split <;> omega

theorem pSmall_len (most : Int) (s : RdSt) : stLen (pSmall most s).2 ≤ stLen s := pInt_len s

def ySmallS : FSpec := ⟨RyG × Int, yCountS.pre, fun g _ A v A' => v = .int .i64 (pSmall g.2 g.1.st).1 ∧ KeepR A A' g.1.r ∧ RdG badF g.1.B A' g.1.r (pSmall g.2 g.1.st).2⟩

set_option maxRecDepth 100000 in
set_option maxHeartbeats 0 in
theorem ySmall_ok : FOk Tryz.prog 93 ySmallS := by
  refine fok_v mixed fun ⟨⟨r, st, Dr⟩, most⟩ vs A hp => ?_
  obtain ⟨rfl, hR, hlen, hm0, hm1⟩ : vs = [.pointer (some ⟨r, 0, none⟩), .int .i64 most] ∧ RdG badF Dr A r st ∧ stLen st ≤ 900000000 ∧ 0 ≤ most ∧ most ≤ 900000000 := hp
  refine ⟨_, noL, 60, yIntC, noL_sound _, fun blk os out tape D hD => ?_⟩
  have hend : ∀ (x : Int) (A1 : Arena), x = (pSmall most st).1 → KeepR A A1 r → RdG badF Dr A1 r (pSmall most st).2 → ySmallS.post (⟨r, st, Dr⟩, most) [] A (.int .i64 x) A1 := fun x A1 h1 h2 h3 => ⟨by rw [h1], h2, h3⟩
  have hdef : (pSmall most st).1 = if (pInt st).1 < 0 ∨ most < (pInt st).1 then most + 1 else (pInt st).1 := rfl
  have hdef2 : (pSmall most st).2 = (pInt st).2 := rfl
  have hin := pInt_in st
  conv => lhs; whnf
  refine (hD _).2 ⟨(⟨r, st, Dr⟩ : RyG), ⟨rfl, hR, hlen⟩, fun v A1 hq => ?_⟩
  obtain ⟨hv, k1, k2⟩ : v = .int .i64 (pInt st).1 ∧ KeepR A A1 r ∧ RdG badF Dr A1 r (pInt st).2 := hq
  rw [← hdef2] at k2
  generalize (pInt st).1 = n at *
  subst hv
  have hw : IntKind.i64.wrap (most + 1) = most + 1 := i64_in (by omega) (by omega)
  conv => lhs; whnf
  refine split_dec (fun h0 => ?_) (fun h0 => ?_)
  · have hend2 := hend (IntKind.i64.wrap (most + 1)) A1 (by rw [hw, hdef, if_pos (.inl h0)]) k1 k2
    conv => lhs; whnf
    repeat (first | refine go_D hD rfl ?_
            conv => lhs; whnf)
    exact (hD _).2 hend2
  conv => lhs; whnf
  refine split_dec (fun h1 => ?_) (fun h1 => ?_)
  · have hend2 := hend (IntKind.i64.wrap (most + 1)) A1 (by rw [hw, hdef, if_pos (.inr h1)]) k1 k2
    conv => lhs; whnf
    repeat (first | refine go_D hD rfl ?_
            conv => lhs; whnf)
    exact (hD _).2 hend2
  have hend2 := hend n A1 (by rw [hdef, if_neg (fun h => h.elim h0 h1)]) k1 k2
  conv => lhs; whnf
  repeat (first | refine go_D hD rfl ?_
          conv => lhs; whnf)
  exact (hD _).2 hend2

/-- A config that stands in bytes, as the document reads it. -/
def rdVer (st : RdSt) : Int := (pInt st).1
def rdMs (st : RdSt) : List MemD × RdSt := dMems (pCount 7 (pInt st).2).1.toNat (pCount 7 (pInt st).2).2

def rensRdS : FSpec := ⟨RyG, fun g vs A => vs = [.pointer (some ⟨g.r, 0, none⟩)] ∧ RdG badF g.B A g.r g.st ∧ stLen g.st ≤ 900000000,
  fun g _ A v A' => KeepR A A' g.r ∧ RdG badF g.B A' g.r (rdMs g.st).2 ∧ (¬ ((rdMs g.st).2 ≠ none ∧ ensD (rdVer g.st) (rdMs g.st).1 = 0) → v = .tuple #[.agg #[.int .i64 0, .slice none 0 0], .bool false]) ∧
    ((rdMs g.st).2 ≠ none → ensD (rdVer g.st) (rdMs g.st).1 = 0 → ∃ x, v = .tuple #[.agg #[.int .i64 (rdVer g.st), x], .bool true] ∧ MemR (A'.minus A) x (rdMs g.st).1)⟩

def rensRdInv (A1 : Arena) (r : Nat) (B : Arena) (ver : Int) (n : Nat) (st : RdSt) (sl : List (Nat × SV)) : LInv :=
  { γ := Nat × Arena × (Option (Nat × Nat) × Nat), G := fun s => s.1 ≤ n ∧ KeepR A1 s.2.1 r ∧ RdG badF B s.2.1 r (dMems s.1 st).2 ∧ GrowR A1 s.2.1 4 68 s.1 (.slice (addrA s.2.2.1) s.1 s.2.2.2) (memCells (dMems s.1 st).1),
    keepS := [], keepB := [0], sl := fun s => (6, .v (.int .i64 s.1)) :: sl, bl := fun s => [(1, .cells [.v (.int .i64 ver), .v (.slice (addrA s.2.2.1) s.1 s.2.2.2)] 0 (27 + 1))], ar := fun s => s.2.1, mu := fun s => n - s.1 }

theorem rensRdC : CTSound Tryz.prog (lookC [specE 52 yIntS, specE 49 yCountS, specE 93 ySmallS, specE 41 renS] noC) := lookC_sound (noC_sound _) (fun x hx => by
  simp only [List.mem_cons, List.not_mem_nil, or_false] at hx
  rcases hx with rfl | rfl | rfl | rfl
  · exact specE_ok yInt_ok
  · exact specE_ok yCount_ok
  · exact specE_ok ySmall_ok
  · exact specE_ok ren_ok)

set_option maxRecDepth 100000 in
set_option maxHeartbeats 0 in
theorem rensRd_ok : FOk Tryz.prog 75 rensRdS := by
  refine fok_v mixed fun ⟨r, st, B⟩ vs A hp => ?_
  obtain ⟨rfl, hR, hlen⟩ : vs = [.pointer (some ⟨r, 0, none⟩)] ∧ RdG badF B A r st ∧ stLen st ≤ 900000000 := hp
  refine ⟨_, tabO Tryz.prog _ noL 60 [(75, 0)], 60, rensRdC, tabO_sound mixed rensRdC (noL_sound _) _ _, fun blk os out tape D hD => ?_⟩
  have hpost : ∀ (v : Value) (A' : Arena), (KeepR A A' r ∧ RdG badF B A' r (rdMs st).2 ∧ (¬ ((rdMs st).2 ≠ none ∧ ensD (rdVer st) (rdMs st).1 = 0) → v = .tuple #[.agg #[.int .i64 0, .slice none 0 0], .bool false]) ∧
    ((rdMs st).2 ≠ none → ensD (rdVer st) (rdMs st).1 = 0 → ∃ x, v = .tuple #[.agg #[.int .i64 (rdVer st), x], .bool true] ∧ MemR (A'.minus A) x (rdMs st).1)) → rensRdS.post ⟨r, st, B⟩ [] A v A' := fun _ _ h => h
  have hms : ∀ t : RdSt, t = (pInt st).2 → rdMs st = dMems (pCount 7 t).1.toNat (pCount 7 t).2 := fun t h => by rw [h]; rfl
  have hms := hms _ rfl
  have hver : rdVer st = (pInt st).1 := rfl
  rw [hver] at hpost
  conv => lhs; whnf
  refine (hD _).2 ⟨(⟨r, st, B⟩ : RyG), ⟨rfl, hR, hlen⟩, fun v A2 hq => ?_⟩
  obtain ⟨hv, k2, hR2⟩ : v = .int .i64 (pInt st).1 ∧ KeepR A A2 r ∧ RdG badF B A2 r (pInt st).2 := hq
  have hl2 := pInt_len st
  clear hver
  generalize (pInt st).1 = ver at *
  generalize (pInt st).2 = s2 at *
  subst hv
  conv => lhs; whnf
  refine (hD _).2 ⟨((⟨r, s2, B⟩, 7) : RyG × Int), ⟨rfl, hR2, by show stLen s2 ≤ _; omega, by show (0 : Int) ≤ 7; decide, by show (7 : Int) ≤ _; decide⟩, fun v A3 hq => ?_⟩
  obtain ⟨hv, k3, hR3⟩ : v = .int .i64 (pCount 7 s2).1 ∧ KeepR A2 A3 r ∧ RdG badF B A3 r (pCount 7 s2).2 := hq
  have hn7 := pCount_in (s := s2) (show (0 : Int) ≤ 7 by decide)
  have hl3 := pCount_len 7 s2
  obtain ⟨n, hn⟩ : ∃ n : Nat, (pCount 7 s2).1 = n := ⟨(pCount 7 s2).1.toNat, by omega⟩
  rw [hn] at hv hn7 hms
  rw [Int.toNat_natCast] at hms
  generalize (pCount 7 s2).2 = s3 at *
  subst hv
  rw [hms] at hpost
  clear hms
  conv => lhs; whnf
  have hG0 : n ≤ n ∧ True := ⟨Nat.le_refl _, trivial⟩
  have hK0 : KeepR A3 A3 r := KeepR.refl _ _
  have hn8 : n ≤ 7 := by omega
  refine (hD _).2 ⟨rensRdInv A3 r B ver n s3 [(5, .v (.int .i64 n)), (4, .ptr 1 0), (0, .v (.pointer (some ⟨r, 0, none⟩))), (2, .ptr 0 0)], ⟨((0, A3, none, 0) : Nat × Arena × (Option (Nat × Nat) × Nat)), ⟨Nat.zero_le _, hK0, hR3, GrowR.nil _ _ _ _⟩, ⟨rfl, rfl, rfl, rfl, rfl, trivial⟩, ⟨rfl, trivial⟩, rfl⟩, fun (s : Nat × Arena × (Option (Nat × Nat) × Nat)) hG => ⟨⟨trivial, trivial, Nat.lt_succ_self 1, trivial, Nat.succ_pos 1, trivial⟩, ⟨Nat.lt_succ_self 1, ⟨trivial, trivial, trivial⟩, trivial⟩, ?_⟩⟩
  obtain ⟨k, A4, base, c⟩ := s
  obtain ⟨hk, hK, hR4, hrow⟩ : k ≤ n ∧ KeepR A3 A4 r ∧ RdG badF B A4 r (dMems k s3).2 ∧ GrowR A3 A4 4 68 k (.slice (addrA base) k c) (memCells (dMems k s3).1) := hG
  have hsl := dMems_stlen s3 k
  conv => lhs; whnf
  refine split_dec (fun hlt => ?_) (fun hlt => ?_)
  · have hkn : k < n := by
      have hlt : (k : Int) < (n : Int) := hlt
      omega
    have hnext : dMems (k + 1) s3 = ((dMems k s3).1 ++ [(dMem (dMems k s3).2).1], (dMem (dMems k s3).2).2) := rfl
    generalize (dMems k s3).1 = ms0 at *
    generalize (dMems k s3).2 = t0 at *
    conv => lhs; whnf
    repeat (first | refine go_D hD rfl ?_
            conv => lhs; whnf)
    refine (hD _).2 ⟨((⟨r, t0, B⟩, 7) : RyG × Int), ⟨rfl, hR4, by show stLen t0 ≤ _; omega, by show (0 : Int) ≤ 7; decide, by show (7 : Int) ≤ _; decide⟩, fun v A5 hq => ?_⟩
    obtain ⟨hv, j5, R5⟩ : v = .int .i64 (pSmall 7 t0).1 ∧ KeepR A4 A5 r ∧ RdG badF B A5 r (pSmall 7 t0).2 := hq
    have hin5 := pSmall_bd (most := 7) (s := t0) (by decide)
    have hsl5 := pSmall_len 7 t0
    subst hv
    conv => lhs; whnf
    repeat (first | refine go_D hD rfl ?_
            conv => lhs; whnf)
    refine (hD _).2 ⟨((⟨r, (pSmall 7 t0).2, B⟩, 2) : RyG × Int), ⟨rfl, R5, by show stLen (pSmall 7 t0).2 ≤ _; omega, by show (0 : Int) ≤ 2; decide, by show (2 : Int) ≤ _; decide⟩, fun v A6 hq => ?_⟩
    obtain ⟨hv, j6, R6⟩ : v = .int .i64 (pSmall 2 (pSmall 7 t0).2).1 ∧ KeepR A5 A6 r ∧ RdG badF B A6 r (pSmall 2 (pSmall 7 t0).2).2 := hq
    have hin6 := pSmall_bd (most := 2) (s := (pSmall 7 t0).2) (by decide)
    have hsl6 := pSmall_len 2 (pSmall 7 t0).2
    subst hv
    conv => lhs; whnf
    repeat (first | refine go_D hD rfl ?_
            conv => lhs; whnf)
    refine (hD _).2 ⟨((⟨r, (pSmall 2 (pSmall 7 t0).2).2, B⟩, 1000) : RyG × Int), ⟨rfl, R6, by show stLen (pSmall 2 (pSmall 7 t0).2).2 ≤ _; omega, by show (0 : Int) ≤ 1000; decide, by show (1000 : Int) ≤ _; decide⟩, fun v A7 hq => ?_⟩
    obtain ⟨hv, j7, R7⟩ : v = .int .i64 (pSmall 1000 (pSmall 2 (pSmall 7 t0).2).2).1 ∧ KeepR A6 A7 r ∧ RdG badF B A7 r (pSmall 1000 (pSmall 2 (pSmall 7 t0).2).2).2 := hq
    have hin7 := pSmall_bd (most := 1000) (s := (pSmall 2 (pSmall 7 t0).2).2) (by decide)
    have hsl7 := pSmall_len 1000 (pSmall 2 (pSmall 7 t0).2).2
    subst hv
    conv => lhs; whnf
    repeat (first | refine go_D hD rfl ?_
            conv => lhs; whnf)
    refine (hD _).2 ⟨((⟨r, (pSmall 1000 (pSmall 2 (pSmall 7 t0).2).2).2, B⟩, 7) : RyG × Int), ⟨rfl, R7, by show stLen (pSmall 1000 (pSmall 2 (pSmall 7 t0).2).2).2 ≤ _; omega, by show (0 : Int) ≤ 7; decide, by show (7 : Int) ≤ _; decide⟩, fun v A8 hq => ?_⟩
    obtain ⟨hv, j8, R8⟩ : v = .int .i64 (pSmall 7 (pSmall 1000 (pSmall 2 (pSmall 7 t0).2).2).2).1 ∧ KeepR A7 A8 r ∧ RdG badF B A8 r (pSmall 7 (pSmall 1000 (pSmall 2 (pSmall 7 t0).2).2).2).2 := hq
    have hin8 := pSmall_bd (most := 7) (s := (pSmall 1000 (pSmall 2 (pSmall 7 t0).2).2).2) (by decide)
    have hsl8 := pSmall_len 7 (pSmall 1000 (pSmall 2 (pSmall 7 t0).2).2).2
    subst hv
    have hm : dMem t0 = (⟨(pSmall 7 t0).1, (pSmall 2 (pSmall 7 t0).2).1, (pSmall 1000 (pSmall 2 (pSmall 7 t0).2).2).1, (pSmall 7 (pSmall 1000 (pSmall 2 (pSmall 7 t0).2).2).2).1⟩, (pSmall 7 (pSmall 1000 (pSmall 2 (pSmall 7 t0).2).2).2).2) := rfl
    rw [hm] at hnext
    generalize (pSmall 7 t0).1 = id at *
    generalize (pSmall 2 (pSmall 7 t0).2).1 = role at *
    generalize (pSmall 1000 (pSmall 2 (pSmall 7 t0).2).2).1 = weight at *
    generalize (pSmall 7 (pSmall 1000 (pSmall 2 (pSmall 7 t0).2).2).2).1 = group at *
    generalize (pSmall 7 (pSmall 1000 (pSmall 2 (pSmall 7 t0).2).2).2).2 = t8 at *
    have hK8 : KeepR A4 A8 r := j5.trans (j6.trans (j7.trans j8))
    have hK38 : KeepR A3 A8 r := hK.trans hK8
    obtain ⟨or3, hor3⟩ := hR3.live2
    have hrow8 := GrowR.keepR hrow hK8 (by rw [hor3]; simp)
    have hf := hrow8.formN
    obtain ⟨base', c', hvb, hbase, hP, hA⟩ := hf
    injection hvb with e1 e2 e3
    have e1 := addrA_inj e1
    subst e1; subst e3
    have hrole : IntKind.u8.wrap role = role := by
      have h : IntKind.u8.wrap role = role % 256 := rfl
      rw [h]; omega
    conv => lhs; whnf
    repeat (first | refine go_D hD rfl ?_
            conv => lhs; whnf)
    refine (hD _).2 fun ge A9 hN => ?_
    have hN : A8.New A9 ge #[.int .i64 id, .int .u8 (IntKind.u8.wrap role), .int .i64 weight, .int .i64 group] 68 := hN
    rw [hrole] at hN
    have hrow9 := hrow8.sub hN.sub
    have hf9 := hrow9.formN
    obtain ⟨base'', c'', hvb, -, hP, hA⟩ := hf9
    injection hvb with e1 e2 e3
    have e1 := addrA_inj e1
    subst e1; subst e3
    have hPd := hP 1 32 (by omega) (by omega)
    have hy9 : A9.rd ge 0 (1 * 4) = some [.int .i64 id, .int .u8 role, .int .i64 weight, .int .i64 group] := hN.rd (o := 0) (n := 1 * 4) (by show 0 + 1 * 4 ≤ 4; omega)
    have hlive9 : ∀ j, A9.blk j = none → A3.blk j = none := fun j hj => by
      cases h3 : A3.blk j with
      | none => rfl
      | some o =>
        by_cases e : j = r
        · obtain ⟨o', ho⟩ := R8.live2
          rw [e, hN.sub r o' ho] at hj; cases hj
        · rw [hN.sub j o (hK38 j o h3 e)] at hj; cases hj
    rcases hbase with rfl | ⟨gx, rfl⟩ <;> (conv => lhs; whnf)
    all_goals
      repeat (first | refine go_D hD rfl ?_
              conv => lhs; whnf)
      refine (hD _).2 ⟨_, [.int .i64 id, .int .u8 role, .int .i64 weight, .int .i64 group], hPd.rd, hy9, rfl, fun v hv => by
        simp only [List.mem_cons, List.not_mem_nil, or_false] at hv
        rcases hv with rfl | rfl | rfl | rfl <;> rfl, ?_, hPd.cap, rfl, hPd.none_, fun g' o' he' hle' _ => hPd.room 4 rfl g' o' he' hle', fun v9 A10 hAp => ?_⟩
      · show k + 1 ≤ 9223372036854775807
        omega
      · have hc9 := hA 1 [.int .i64 id, .int .u8 role, .int .i64 weight, .int .i64 group] v9 A10 rfl hlive9 hAp
        obtain ⟨hrow10, hsame⟩ := hc9
        have hf10 := hrow10.formN
        obtain ⟨b10, c10, hv10, -⟩ := hf10
        subst hv10
        have hr10 : A10.blk r = A9.blk r := hsame r or3 hor3
        have hB10 : B.Sub A10 := fun j o hj => by
          rw [hsame j o (hR3.dsub j o hj)]
          exact hN.sub j o (R8.dsub j o hj)
        have hR10 := (R8.keep hN.sub).other hB10 hr10
        have hK10 : KeepR A3 A10 r := fun j o hj hjr => by
          rw [hsame j o hj]
          exact hN.sub j o (hK38 j o hj hjr)
        have hrow10 : GrowR A3 A10 4 68 (k + 1) (.slice (addrA b10) (k + 1) c10) (memCells (dMems (k + 1) s3).1) := by
          rw [hnext]
          show GrowR A3 A10 4 _ (k + 1) _ (memCells (ms0 ++ [⟨id, role, weight, group⟩]))
          have e : memCells (ms0 ++ [⟨id, role, weight, group⟩]) = memCells ms0 ++ [.int .i64 id, .int .u8 role, .int .i64 weight, .int .i64 group] := by
            unfold memCells
            rw [List.map_append, List.flatten_append]
            rfl
          rw [e]
          exact hrow10
        have hR10 : RdG badF B A10 r (dMems (k + 1) s3).2 := by rw [hnext]; exact hR10
        conv => lhs; whnf
        repeat (first | refine go_D hD rfl ?_
                conv => lhs; whnf)
        exact (hD _).2 ⟨((k + 1, A10, b10, c10) : Nat × Arena × (Option (Nat × Nat) × Nat)), ⟨⟨hkn, hK10, hR10, hrow10⟩, ⟨inc_slot (by omega), rfl, rfl, rfl, rfl, trivial⟩, ⟨rfl, trivial⟩, rfl⟩, by show n - (k + 1) < n - k; omega, trivial, ⟨same1 rfl rfl, trivial⟩⟩
  · have hkn : k = n := by
      have hlt : ¬ (k : Int) < (n : Int) := hlt
      omega
    subst hkn
    have hKA : KeepR A A4 r := k2.trans (k3.trans hK)
    have hrowS := hrow.sl
    have hml : (dMems k s3).1.length = k := dMems_len s3 k
    have hR40 := hR4
    obtain ⟨v4, htop, hDs, hDr, hSl4, hnil4⟩ := hR40
    have r1 : A4.rd r 1 1 = some [.bool (badF (dMems k s3).2)] := htop.rd (o := 1) (n := 1) (by show 1 + 1 ≤ 2; omega)
    have hbadE : ¬ ((dMems k s3).2 ≠ none ∧ ensD ver (dMems k s3).1 = 0) → rensRdS.post ⟨r, st, B⟩ [] A (.tuple #[.agg #[.int .i64 0, .slice none 0 0], .bool false]) A4 := fun h => hpost _ _ ⟨hKA, hR4, fun _ => rfl, fun h1 h2 => absurd ⟨h1, h2⟩ h⟩
    cases hst : (dMems k s3).2 with
    | none =>
      rw [hst] at r1
      have hend := hbadE (by rw [hst]; exact fun h => h.1 rfl)
      conv => lhs; whnf
      repeat (first | refine go_rd r1 ?_ | refine go_D hD rfl ?_
              conv => lhs; whnf)
      exact (hD _).2 hend
    | some l4 =>
      rw [hst] at r1
      have r1 : A4.rd r 1 1 = some [.bool false] := r1
      have hne : (dMems k s3).2 ≠ none := by rw [hst]; simp
      have hM : MemR A4 (.slice (addrA base) k c) (dMems k s3).1 := ⟨by rw [hml]; exact hrowS, by rw [hml]; omega⟩
      have hnew : ∀ g, A3.blk g = none → A.blk g = none := fun g hg => by
        cases hA : A.blk g with
        | none => rfl
        | some o =>
          obtain ⟨o', ho⟩ := hR3.live2
          have hgr : g ≠ r := fun e => by rw [e, ho] at hg; cases hg
          have := k3 g o (k2 g o hA hgr) hgr
          rw [hg] at this; cases this
      have hMm : MemR (A4.minus A) (.slice (addrA base) k c) (dMems k s3).1 := ⟨by rw [hml]; exact GrowR.slM hrow hnew, by rw [hml]; omega⟩
      have hyes : ensD ver (dMems k s3).1 = 0 → rensRdS.post ⟨r, st, B⟩ [] A (.tuple #[.agg #[.int .i64 ver, .slice (addrA base) k c], .bool true]) A4 := fun h => hpost _ _ ⟨hKA, hR4, fun h1 => absurd ⟨hne, h⟩ h1, fun _ _ => ⟨_, rfl, hMm⟩⟩
      have hno : ensD ver (dMems k s3).1 ≠ 0 → rensRdS.post ⟨r, st, B⟩ [] A (.tuple #[.agg #[.int .i64 0, .slice none 0 0], .bool false]) A4 := fun h => hbadE fun h1 => h h1.2
      clear hpost hbadE
      generalize (dMems k s3).1 = ms at *
      conv => lhs; whnf
      repeat (first | refine go_rd r1 ?_ | refine go_D hD rfl ?_
              conv => lhs; whnf)
      refine (hD _).2 ⟨((ver, ms) : Int × List MemD), ⟨_, rfl, hM⟩, fun v A5 hq => ?_⟩
      have hq : A5 = A4 ∧ ∃ z, v = .int .i64 z ∧ (z = 0 ↔ ensD ver ms = 0) := hq
      have h9 := hq.1.symm
      have hz := hq.2
      subst h9
      obtain ⟨z, hv, hz⟩ := hz
      subst hv
      conv => lhs; whnf
      refine split_nd (fun q1 => ?_) (fun q1 => ?_)
      · have hend := hyes (hz.1 q1)
        conv => lhs; whnf
        repeat (first | refine go_rd r1 ?_ | refine go_D hD rfl ?_
                conv => lhs; whnf)
        exact (hD _).2 hend
      · have hend := hno fun h => q1 (hz.2 h)
        conv => lhs; whnf
        repeat (first | refine go_rd r1 ?_ | refine go_D hD rfl ?_
                conv => lhs; whnf)
        exact (hD _).2 hend

def rensGetS : FSpec := ⟨List UInt8, fun l vs A => ∃ x, vs = [x] ∧ SlB A x l ∧ l.length ≤ 900000000, fun l _ A v A' => GetER l A v A'⟩

set_option maxRecDepth 100000 in
set_option maxHeartbeats 0 in
theorem rensGet_ok : FOk Tryz.prog 53 rensGetS := by
  refine fok_v mixed fun (l : List UInt8) vs A hp => ?_
  obtain ⟨x, rfl, hX, hlen⟩ : ∃ x, vs = [x] ∧ SlB A x l ∧ l.length ≤ 900000000 := hp
  obtain ⟨ax, cx, hxf⟩ := hX.1.form
  subst hxf
  have hC : CTSound Tryz.prog (lookC [specE 47 yNewS, specE 75 rensRdS] noC) := lookC_sound (noC_sound _) (fun x hx => by
    simp only [List.mem_cons, List.not_mem_nil, or_false] at hx
    rcases hx with rfl | rfl
    · exact specE_ok yNew_ok
    · exact specE_ok rensRd_ok)
  refine ⟨_, noL, 60, hC, noL_sound _, fun blk os out tape D hD => ?_⟩
  have hgE : getE l = if (rdMs (some l)).2 = some [] ∧ ensD (rdVer (some l)) (rdMs (some l)).1 = 0 then some (rdVer (some l), (rdMs (some l)).1) else none := (getD_eq l).symm
  conv => lhs; whnf
  refine (hD _).2 ⟨l, ⟨_, rfl, hX⟩, fun v A1 hq => ?_⟩
  obtain ⟨s1, r, hv, hr, B, hR⟩ : A.Sub A1 ∧ ∃ r, v = .pointer (some ⟨r, 0, none⟩) ∧ A.blk r = none ∧ ∃ D, RdG badF D A1 r (some l) := hq
  subst hv
  conv => lhs; whnf
  refine (hD _).2 ⟨(⟨r, some l, B⟩ : RyG), ⟨rfl, hR, hlen⟩, fun v A2 hq => ?_⟩
  obtain ⟨k2, hR2, hno, hyes⟩ : KeepR A1 A2 r ∧ RdG badF B A2 r (rdMs (some l)).2 ∧ (¬ ((rdMs (some l)).2 ≠ none ∧ ensD (rdVer (some l)) (rdMs (some l)).1 = 0) → v = .tuple #[.agg #[.int .i64 0, .slice none 0 0], .bool false]) ∧
    ((rdMs (some l)).2 ≠ none → ensD (rdVer (some l)) (rdMs (some l)).1 = 0 → ∃ x, v = .tuple #[.agg #[.int .i64 (rdVer (some l)), x], .bool true] ∧ MemR (A2.minus A1) x (rdMs (some l)).1) := hq
  generalize rdVer (some l) = ver at *
  generalize (rdMs (some l)).1 = ms at *
  generalize (rdMs (some l)).2 = s2 at *
  have hA02 : A.Sub A2 := k2.sub s1 hr
  have hbadE : getE l = none → rensGetS.post l [] A (.tuple #[.agg #[.int .i64 0, .slice none 0 0], .int .i64 4]) A2 := fun h => ⟨hA02, fun _ => rfl, fun ver ms h2 => (by rw [h] at h2; cases h2)⟩
  by_cases hok : s2 ≠ none ∧ ensD ver ms = 0
  rotate_left
  · have hv := hno hok
    subst hv
    have hend := hbadE (by
      rw [hgE, if_neg]
      rintro ⟨h1, h2⟩
      exact hok ⟨by rw [h1]; simp, h2⟩)
    conv => lhs; whnf
    repeat (first | refine go_D hD rfl ?_
            conv => lhs; whnf)
    exact (hD _).2 hend
  have hyx := hyes hok.1 hok.2
  obtain ⟨x, hv, hM⟩ := hyx
  obtain ⟨xa, xc, hxf⟩ := hM.1.form
  subst hxf
  subst hv
  obtain ⟨v4, htop, hDs, hDr, hSl4, hnil4⟩ := hR2
  obtain ⟨l4, hst⟩ : ∃ l4, s2 = some l4 := by
    cases s2 with
    | none => exact absurd rfl hok.1
    | some l4 => exact ⟨l4, rfl⟩
  subst hst
  have hSl4 : Sl B 1 l4.length v4 (l4.map bv) := hSl4
  obtain ⟨a4, c4, hf4⟩ := hSl4.form
  subst hf4
  have r1 : A2.rd r 1 1 = some [.bool false] := htop.rd (o := 1) (n := 1) (by show 1 + 1 ≤ 2; omega)
  have r0 : A2.rd r 0 1 = some [.slice a4 l4.length c4] := htop.rd (o := 0) (n := 1) (by show 0 + 1 ≤ 2; omega)
  conv => lhs; whnf
  repeat (first | refine go_rd r1 ?_ | refine go_rd r0 ?_ | refine go_D hD rfl ?_
          conv => lhs; whnf)
  refine split_nd (fun q0 => ?_) (fun q0 => ?_)
  rotate_left
  · have hend := hbadE (by
      rw [hgE, if_neg]
      rintro ⟨h1, h2⟩
      injection h1 with h1
      rw [h1] at q0
      exact q0 rfl)
    conv => lhs; whnf
    repeat (first | refine go_D hD rfl ?_
            conv => lhs; whnf)
    exact (hD _).2 hend
  have hl40 : l4 = [] := by
    have q0 : (l4.length : Int) = 0 := q0
    exact List.length_eq_zero_iff.1 (by omega)
  have hend : rensGetS.post l [] A (.tuple #[.agg #[.int .i64 ver, .slice xa ms.length xc], .int .i64 0]) A2 := by
    have hgE2 : getE l = some (ver, ms) := by rw [hgE, if_pos ⟨by rw [hl40], hok.2⟩]
    refine ⟨hA02, fun h2 => (by rw [hgE2] at h2; cases h2), fun ver' ms' h2 => ?_⟩
    rw [hgE2] at h2
    injection h2 with h2
    injection h2 with e1 e2
    subst e1; subst e2
    exact ⟨_, rfl, hM.sub (minus_later s1)⟩
  conv => lhs; whnf
  repeat (first | refine go_D hD rfl ?_
          conv => lhs; whnf)
  exact (hD _).2 hend

end
end Go.Proofs.YthbaimobihmhiaaGreatDoor

namespace Go.Proofs.YthbaimobihmhiaaGreatDoor
open Go.Sx Go.RowKit
noncomputable section
open Classical

def rsumInv (A : Arena) (l : List UInt8) : LInv :=
  { γ := Nat, G := fun k => k ≤ l.length,
    keepS := [0], keepB := [], sl := fun k => [(4, .v (.int .i64 k)), (3, .v (.int .u32 (u32v (crcFold (l.take k) (BitVec.allOnes 32)))))], bl := fun _ => [], ar := fun _ => A, mu := fun k => l.length - k }

def rbitInv (A : Arena) (d : BitVec 32) : LInv :=
  { γ := Nat, G := fun j => j ≤ 8,
    keepS := [0, 4], keepB := [], sl := fun j => [(5, .v (.int .i64 j)), (3, .v (.int .u32 (u32v (crcBits j d))))], bl := fun _ => [], ar := fun _ => A, mu := fun j => 8 - j }

def rsumS : FSpec := ⟨List UInt8, fun l vs A => ∃ x, vs = [x] ∧ SlB A x l, fun l _ A v A' => A.Sub A' ∧ v = .int .u32 (u32v (crcSum l))⟩

set_option maxRecDepth 100000 in
set_option maxHeartbeats 0 in
theorem rsum_ok : FOk Tryz.prog 44 rsumS := by
  refine fok_v mixed fun (l : List UInt8) vs A hp => ?_
  obtain ⟨x, rfl, hX⟩ : ∃ x, vs = [x] ∧ SlB A x l := hp
  obtain ⟨⟨ao, c, rfl, hc, -, ha1, ha2, ha3⟩, hxl⟩ := hX
  have hin : LTSound Tryz.prog (tabO Tryz.prog noC noL 60 [(44, 2)]) := tabO_sound mixed (noC_sound _) (noL_sound _) _ _
  refine ⟨_, tabO Tryz.prog _ (tabO Tryz.prog noC noL 60 [(44, 2)]) 60 [(44, 0)], 60, noC_sound _, tabO_sound mixed (noC_sound _) hin _ _, fun blk os out tape D hD => ?_⟩
  conv => lhs; whnf
  have hG0 : (rsumInv A l).G (0 : Nat) := Nat.zero_le _
  refine (hD _).2 ⟨rsumInv A l, ⟨(0 : Nat), hG0, ⟨rfl, congrArg (fun x : Int => some (SV.v (.int .u32 x))) (show (4294967295 : Int) = u32v (BitVec.allOnes 32) by decide +kernel), trivial⟩, trivial, rfl⟩, fun (k : Nat) hk => ⟨⟨trivial, trivial, trivial⟩, trivial, ?_⟩⟩
  clear hG0
  have hk : k ≤ l.length := hk
  conv => lhs; whnf
  refine split_dec (fun hlt => ?_) (fun hlt => ?_)
  · have hkl : k < l.length := by
      have hlt : (k : Int) < (l.length : Int) := hlt
      omega
    obtain ⟨gx, ox, rfl, hra⟩ := Sl.at_ hc ha1 ha2 ha3 (by omega)
    have r1 := byte_at hra k hkl rfl
    have i0 : (0 : Int) ≤ (k : Int) ∧ (k : Int) < (l.length : Int) := by omega
    have x1 : bitsOf .xor .u32 (u32v (crcFold (l.take k) (BitVec.allOnes 32))) (IntKind.u32.wrap (l[k].toNat : Int)) = u32v (crcFold (l.take k) (BitVec.allOnes 32) ^^^ l[k].toBitVec.setWidth 32) := by rw [byte_u32, xor_u32]
    obtain ⟨d0, hd0⟩ : ∃ d0, d0 = crcFold (l.take k) (BitVec.allOnes 32) ^^^ l[k].toBitVec.setWidth 32 := ⟨_, rfl⟩
    rw [← hd0] at x1
    conv => lhs; whnf
    repeat (first | refine go_in i0 ?_ | refine go_rd r1 ?_ | refine go_D hD rfl ?_
            conv => lhs; whnf)
    have hI0 : (rbitInv A d0).G (0 : Nat) := Nat.zero_le _
    refine (hD _).2 ⟨rbitInv A d0, ⟨(0 : Nat), hI0, ⟨rfl, congrArg (fun x : Int => some (SV.v (.int .u32 x))) x1, trivial⟩, trivial, rfl⟩, fun (j : Nat) hj => ⟨⟨trivial, trivial, trivial⟩, trivial, ?_⟩⟩
    have hj : j ≤ 8 := hj
    conv => lhs; whnf
    refine split_dec (fun hlt8 => ?_) (fun hlt8 => ?_)
    · have hj8 : j < 8 := by
        have hlt8 : (j : Int) < 8 := hlt8
        omega
      have hnx : ∀ b : Bool, (crcBits j d0).getLsbD 0 = b → (if b = true then bitsOf .xor .u32 (u32v (crcBits j d0 >>> 1)) 3988292384 else u32v (crcBits j d0 >>> 1)) = u32v (crcBits (j + 1) d0) := fun b hb => by
        rw [← hb, bit_u32, crcBits_add j 1]
        rfl
      have hI1 : (rbitInv A d0).G (j + 1 : Nat) := hj8
      have ho := odd_u32 (crcBits j d0)
      have hh := half_u32 (crcBits j d0)
      conv => lhs; whnf
      refine split_dec (fun h1 => ?_) (fun h1 => ?_)
      · have h2 := hnx true (by rw [← ho]; exact decide_eq_true h1)
        rw [if_pos rfl, ← hh] at h2
        conv => lhs; whnf
        exact (hD _).2 ⟨(j + 1 : Nat), ⟨hI1, ⟨inc_slot (by omega), congrArg (fun x : Int => some (SV.v (.int .u32 x))) h2, trivial⟩, trivial, rfl⟩, by show 8 - (j + 1) < 8 - j; omega, ⟨same1 rfl rfl, same1 rfl rfl, trivial⟩, trivial⟩
      · have h2 := hnx false (by rw [← ho]; exact decide_eq_false h1)
        rw [if_neg Bool.false_ne_true, ← hh] at h2
        conv => lhs; whnf
        exact (hD _).2 ⟨(j + 1 : Nat), ⟨hI1, ⟨inc_slot (by omega), congrArg (fun x : Int => some (SV.v (.int .u32 x))) h2, trivial⟩, trivial, rfl⟩, by show 8 - (j + 1) < 8 - j; omega, ⟨same1 rfl rfl, same1 rfl rfl, trivial⟩, trivial⟩
    · have hj9 : j = 8 := by
        have hlt8 : ¬ (j : Int) < 8 := hlt8
        omega
      subst hj9
      have hfin : u32v (crcBits 8 d0) = u32v (crcFold (l.take (k + 1)) (BitVec.allOnes 32)) := by
        rw [hd0, List.take_succ_eq_append_getElem hkl]
        unfold crcFold
        rw [List.foldl_append]
        rfl
      have hG3 : (rsumInv A l).G (k + 1 : Nat) := hkl
      conv => lhs; whnf
      exact (hD _).2 ⟨(k + 1 : Nat), ⟨hG3, ⟨inc_slot (by omega), congrArg (fun x : Int => some (SV.v (.int .u32 x))) hfin, trivial⟩, trivial, rfl⟩, by show l.length - (k + 1) < l.length - k; omega, ⟨same1 rfl rfl, trivial⟩, trivial⟩
  · have hk9 : k = l.length := by
      have hlt : ¬ (k : Int) < (l.length : Int) := hlt
      omega
    have hend : rsumS.post l [.slice ao l.length c] A (.int .u32 (IntKind.u32.wrap (4294967295 - u32v (crcFold (l.take k) (BitVec.allOnes 32))))) A := by
      refine ⟨Arena.Sub.refl _, congrArg (Value.int .u32) ?_⟩
      rw [hk9, List.take_length, minus_u32]
      rfl
    conv => lhs; whnf
    exact (hD _).2 hend

end
end Go.Proofs.YthbaimobihmhiaaGreatDoor

namespace Go.Proofs.YthbaimobihmhiaaGreatDoor
open Go.Sx Go.RowKit
noncomputable section
open Classical

def dnumS : FSpec := ⟨List UInt8, fun l vs A => ∃ x, vs = [x] ∧ Sl A 1 l.length x (l.map bv) ∧ 4 ≤ l.length, fun l _ A v A' => A' = A ∧ v = .int .u32 (numL l)⟩

set_option maxRecDepth 100000 in
set_option maxHeartbeats 0 in
theorem dnum_ok : FOk Tryz.prog 72 dnumS := by
  refine fok_v mixed fun (l : List UInt8) vs A hp => ?_
  obtain ⟨x, rfl, ⟨ao, c, rfl, hc, -, ha1, ha2, ha3⟩, h4⟩ : ∃ x, vs = [x] ∧ Sl A 1 l.length x (l.map bv) ∧ 4 ≤ l.length := hp
  refine ⟨noC, noL, 60, noC_sound _, noL_sound _, fun blk os out tape D hD => ?_⟩
  obtain ⟨g, o, e, hra⟩ := Sl.at_ hc ha1 ha2 ha3 (by omega)
  subst e
  have b0 := byte_at hra 0 (by omega) rfl
  have b1 := byte_at hra 1 (by omega) rfl
  have b2 := byte_at hra 2 (by omega) rfl
  have b3 := byte_at hra 3 (by omega) rfl
  have i0 : (0 : Int) < ((l.length : Nat) : Int) := by omega
  have i1 : (1 : Int) < ((l.length : Nat) : Int) := by omega
  have i2 : (2 : Int) < ((l.length : Nat) : Int) := by omega
  have i3 : (3 : Int) < ((l.length : Nat) : Int) := by omega
  have hn := num_add (l[0]'(by omega)).toNat_lt (l[1]'(by omega)).toNat_lt (l[2]'(by omega)).toNat_lt (l[3]'(by omega)).toNat_lt
  have hg : ∀ (i : Nat) (h : i < l.length), l.getD i 0 = l[i] := fun i h => by rw [List.getD_eq_getElem?_getD, List.getElem?_eq_getElem h]; rfl
  have hL : numL l = (l[0]'(by omega)).toNat + (l[1]'(by omega)).toNat * 256 + (l[2]'(by omega)).toNat * 65536 + (l[3]'(by omega)).toNat * 16777216 := by
    unfold numL
    rw [hg 0 (by omega), hg 1 (by omega), hg 2 (by omega), hg 3 (by omega)]
  rw [← hL] at hn
  have hend : ∀ x : Int, x = (numL l : Int) → dnumS.post l [] A (.int .u32 x) A := fun x hx => ⟨rfl, by rw [hx]⟩
  conv => lhs; whnf
  repeat (first | refine go_dec i0 ?_ | refine go_dec i1 ?_ | refine go_dec i2 ?_ | refine go_dec i3 ?_ | refine go_rd b0 ?_ | refine go_rd b1 ?_ | refine go_rd b2 ?_ | refine go_rd b3 ?_ | refine go_D hD rfl ?_
          conv => lhs; whnf)
  exact (hD _).2 (hend _ hn)

def dunfS : FSpec := ⟨List UInt8, fun l vs A => ∃ x, vs = [x] ∧ SlB A x l ∧ l.length ≤ 900000000, fun l _ A v A' => A.Sub A' ∧ (unfrL l = none → v = .tuple #[.slice none 0 0, .int .i64 0, .int .i64 4]) ∧ ∀ p n, unfrL l = some (p, n) → ∃ y, v = .tuple #[y, .int .i64 (n : Nat), .int .i64 0] ∧ SlB (A'.minus A) y p⟩

set_option maxRecDepth 100000 in
set_option maxHeartbeats 0 in
theorem dunf_ok : FOk Tryz.prog 46 dunfS := by
  refine fok_v mixed fun (l : List UInt8) vs A hp => ?_
  obtain ⟨x, rfl, hX, hlen⟩ : ∃ x, vs = [x] ∧ SlB A x l ∧ l.length ≤ 900000000 := hp
  have hX0 := hX.1
  obtain ⟨ao, c, rfl, hc, hcl, ha1, ha2, ha3⟩ := hX0
  have hC : CTSound Tryz.prog (lookC [specE 72 dnumS, specE 44 rsumS, specE 65 cloneBytesS] noC) := lookC_sound (noC_sound _) (fun x hx => by
    simp only [List.mem_cons, List.not_mem_nil, or_false] at hx
    rcases hx with rfl | rfl | rfl
    · exact specE_ok dnum_ok
    · exact specE_ok rsum_ok
    · exact specE_ok cloneBytes_ok)
  refine ⟨_, noL, 60, hC, noL_sound _, fun blk os out tape D hD => ?_⟩
  have hbad : ∀ A1, A.Sub A1 → unfrL l = none → dunfS.post l [] A (.tuple #[.slice none 0 0, .int .i64 0, .int .i64 4]) A1 := fun A1 h1 h2 => ⟨h1, fun _ => rfl, fun p n h => (by rw [h2] at h; cases h)⟩
  conv => lhs; whnf
  refine split_dec (fun h8 => ?_) (fun h8 => ?_)
  · have h8 : (l.length : Int) < 8 := h8
    have hend := hbad A (Arena.Sub.refl _) (if_pos (.inl (by omega)))
    conv => lhs; whnf
    exact (hD _).2 hend
  have h8 : 8 ≤ l.length := by
    have h8 : ¬ (l.length : Int) < 8 := h8
    omega
  obtain ⟨g, o, e, hra⟩ := Sl.at_ hc ha1 ha2 ha3 (by omega)
  subst e
  conv => lhs; whnf
  refine (hD _).2 ⟨l, ⟨_, rfl, hX.1, by omega⟩, fun v A1 hq => ?_⟩
  have hq : A1 = A ∧ v = .int .u32 (numL l) := hq
  have h9 := hq.1.symm
  have hv := hq.2
  subst h9
  subst hv
  have hnl := numL_lt l
  obtain ⟨n, hn⟩ : ∃ n, n = numL l := ⟨_, rfl⟩
  rw [← hn] at hnl ⊢
  have hun : unfrL l = if l.length < 8 ∨ 1048576 < n ∨ l.length < 8 + n ∨ (crcSum ((l.drop 8).take n)).toNat ≠ numL (l.drop 4) then none else some ((l.drop 8).take n, 8 + n) := by rw [hn]; rfl
  clear hn
  have hnw : IntKind.i64.wrap (n : Int) = (n : Int) := i64_in (by omega) (by omega)
  have hl8 : IntKind.i64.wrap ((l.length : Int) - 8) = (l.length : Int) - 8 := i64_in (by omega) (by omega)
  conv => lhs; whnf
  refine split_dec (fun q1 => ?_) (fun q1 => ?_)
  · have q1 : (1048576 : Int) < (n : Int) := q1
    have hend := hbad A (Arena.Sub.refl _) (by rw [hun]; exact if_pos (.inr (.inl (by omega))))
    conv => lhs; whnf
    exact (hD _).2 hend
  have q1 : n ≤ 1048576 := by
    have q1 : ¬ (1048576 : Int) < (n : Int) := q1
    omega
  conv => lhs; whnf
  refine split_dec (fun q2 => ?_) (fun q2 => ?_)
  · have q2 : IntKind.i64.wrap ((l.length : Int) - 8) < IntKind.i64.wrap (n : Int) := q2
    rw [hnw, hl8] at q2
    have hend := hbad A (Arena.Sub.refl _) (by rw [hun]; exact if_pos (.inr (.inr (.inl (by omega)))))
    conv => lhs; whnf
    exact (hD _).2 hend
  have q2 : 8 + n ≤ l.length := by
    have q2 : ¬ IntKind.i64.wrap ((l.length : Int) - 8) < IntKind.i64.wrap (n : Int) := q2
    rw [hnw, hl8] at q2
    omega
  have hhi : IntKind.u32.wrap (8 + (n : Int)) = ((8 + n : Nat) : Int) := by rw [show (8 : Int) + (n : Int) = ((8 + n : Nat) : Int) by omega, u32_wrap (by omega)]
  have hb1 : ((decide ((0 : Int) ≤ 8) && decide ((8 : Int) ≤ IntKind.u32.wrap (8 + (n : Int)))) && (false || decide (IntKind.u32.wrap (8 + (n : Int)) ≤ (c : Int)))) = true := by
    rw [hhi]
    simp only [Bool.and_eq_true, Bool.or_eq_true, decide_eq_true_iff]
    omega
  have hb2 : ((decide ((0 : Int) ≤ 4) && decide ((4 : Int) ≤ (l.length : Int))) && (true || decide ((l.length : Int) ≤ (c : Int)))) = true := by
    simp only [Bool.and_eq_true, Bool.or_eq_true, decide_eq_true_iff]
    omega
  have hP1 := Sl.part (lo := 8) (hi := 8 + n) hX.1 (by omega) q2
  have hP2 := Sl.part (lo := 4) (hi := l.length) hX.1 (by omega) (Nat.le_refl _)
  rw [show 8 + n - 8 = n by omega] at hP1
  have htl : ((l.drop 8).take n).length = n := by rw [List.length_take, List.length_drop]; omega
  have hdl : (l.drop 4).length = l.length - 4 := List.length_drop
  rw [show (l.drop 4).take (l.length - 4) = l.drop 4 from List.take_of_length_le (by omega)] at hP2
  generalize hp : (l.drop 8).take n = p at *
  generalize hr : l.drop 4 = r4 at *
  have hS1 : ∀ x : Int, x = ((8 + n : Nat) : Int) → SlB A (.slice (some ⟨g, o + (bif c.beq (Int.toNat 8) then 0 else Int.toNat 8 * 1), none⟩) (x.toNat - Int.toNat 8) (c - Int.toNat 8)) p := fun x hx => by
    rw [hx]
    refine ⟨?_, by omega⟩
    rw [htl]
    show Sl A 1 n (.slice _ (8 + n - 8) (c - 8)) _
    rw [show 8 + n - 8 = n by omega]
    exact hP1
  have hS2 : Sl A 1 r4.length (.slice (some ⟨g, o + (bif c.beq (Int.toNat 4) then 0 else Int.toNat 4 * 1), none⟩) ((l.length : Int).toNat - Int.toNat 4) (c - Int.toNat 4)) (r4.map bv) := by
    rw [hdl]
    exact hP2
  conv => lhs; whnf
  refine go_b hb1 ?_
  conv => lhs; whnf
  refine go_b hb2 ?_
  conv => lhs; whnf
  refine (hD _).2 ⟨p, ⟨_, rfl, hS1 _ hhi⟩, fun v A1 hq => ?_⟩
  obtain ⟨s1, hv⟩ : A.Sub A1 ∧ v = .int .u32 (u32v (crcSum p)) := hq
  subst hv
  conv => lhs; whnf
  refine (hD _).2 ⟨r4, ⟨_, rfl, hS2.sub s1, by omega⟩, fun v A2 hq => ?_⟩
  have hq : A2 = A1 ∧ v = .int .u32 (numL r4) := hq
  have h9 := hq.1.symm
  have hv := hq.2
  subst h9
  subst hv
  conv => lhs; whnf
  refine split_nd (fun q3 => ?_) (fun q3 => ?_)
  rotate_left
  · have hend := hbad A1 s1 (by rw [hun]; exact if_pos (.inr (.inr (.inr fun e => q3 (u32v_inj.2 e)))))
    conv => lhs; whnf
    exact (hD _).2 hend
  have hun2 : unfrL l = some (p, 8 + n) := by
    rw [hun, if_neg]
    rintro (h | h | h | h)
    · omega
    · omega
    · omega
    · exact h (u32v_inj.1 q3)
  have hS1' : ∀ x : Int, x = ((8 + n : Nat) : Int) → SlB A1 (.slice (some ⟨g, o + (bif c.beq (Int.toNat 8) then 0 else Int.toNat 8 * 1), none⟩) (x.toNat - Int.toNat 8) (c - Int.toNat 8)) p := fun x hx => (hS1 x hx).sub s1
  have hraw : (IntKind.u32.wrap (8 + (n : Int))).toNat - Int.toNat 8 = p.length := by
    rw [hhi, htl]
    show 8 + n - 8 = n
    omega
  have h8n : IntKind.i64.wrap (8 + IntKind.i64.wrap (n : Int)) = ((8 + n : Nat) : Int) := by rw [hnw, i64_in (by omega) (by omega)]; omega
  conv => lhs; whnf
  refine (hD _).2 fun g1 A3 hN => ?_
  have hN : A1.New A3 g1 #[] 5 := hN
  have hS1'' := hS1' _ hhi
  have hsrc : ∀ {h : HS}, h.M.A = A3 → srcA h 1 ((IntKind.u32.wrap (8 + (n : Int))).toNat - Int.toNat 8) (.v (.slice (some ⟨g, o + (bif c.beq (Int.toNat 8) then 0 else Int.toNat 8 * 1), none⟩) ((IntKind.u32.wrap (8 + (n : Int))).toNat - Int.toNat 8) (c - Int.toNat 8))) = some (p.map bv) := fun {h} hA => by
    by_cases h0 : p.length = 0
    · rw [show p.map bv = [] from by rw [List.length_eq_zero_iff.1 h0]; rfl]
      exact src_none (by rw [hraw]; exact h0)
    · refine src_row (by rw [hraw]; exact h0) ?_
      rw [hraw, hA]
      obtain ⟨ao9, c9, e9, -, -, -, -, k9⟩ := hS1''.1
      injection e9 with e9
      exact rd_sub hN.sub (k9 (by omega) _ e9.symm)
  have hl : (p.map bv).length = ((IntKind.u32.wrap (8 + (n : Int))).toNat - Int.toNat 8) * 1 := by rw [hraw, List.length_map]; exact (Nat.mul_one _).symm
  conv => lhs; whnf
  repeat (first | refine go_D hD rfl ?_
          conv => lhs; whnf)
  refine go_b hb1 ?_
  conv => lhs; whnf
  repeat (first | refine go_D hD rfl ?_
          conv => lhs; whnf)
  refine (hD _).2 ⟨[], p.map bv, rfl, hsrc rfl, hl, bv_one p, by show 0 + ((IntKind.u32.wrap (8 + (n : Int))).toNat - Int.toNat 8) ≤ _; rw [hraw]; omega, fun h0 => ?_, rfl, fun h => (by cases h), fun _ _ _ h1 h2 => ?_, fun v A4 hA => ?_⟩
  · have h0 : 0 < 0 + ((IntKind.u32.wrap (8 + (n : Int))).toNat - Int.toNat 8) := h0
    show Builtin.nextslicecap (0 + ((IntKind.u32.wrap (8 + (n : Int))).toNat - Int.toNat 8)) 0 * 1 ≤ _
    rw [nextcap0 h0, hraw]
    omega
  · exfalso
    have h1 : 0 + ((IntKind.u32.wrap (8 + (n : Int))).toNat - Int.toNat 8) ≤ 0 := h1
    exact h2 (List.length_eq_zero_iff.1 (by rw [hl]; omega))
  have hce := clone_end hN.sub hA hl
  obtain ⟨k1, k2⟩ := hce
  rw [hraw] at k2
  obtain ⟨av, cv, hvf⟩ := k2.form
  subst hvf
  have hend : ∀ x : Int, x = ((8 + n : Nat) : Int) → dunfS.post l [] A (.tuple #[.slice av p.length cv, .int .i64 x, .int .i64 0]) A4 := fun x hx => ⟨s1.trans k1, fun h => (by rw [hun2] at h; cases h), fun p' n' h => by
    rw [hun2] at h
    injection h with h
    injection h with h1 h2
    subst h1; subst h2
    exact ⟨_, by rw [hx], ⟨k2.sub (minus_later s1), by omega⟩⟩⟩
  conv => lhs; whnf
  repeat (first | refine go_D hD rfl ?_
          conv => lhs; whnf)
  exact (hD _).2 (hend _ h8n)

end
end Go.Proofs.YthbaimobihmhiaaGreatDoor

namespace Go.Proofs.YthbaimobihmhiaaGreatDoor
open Go.Sx Go.RowKit
noncomputable section
open Classical

def rimgS : FSpec := ⟨ImgG, ImgA, fun g _ A v A' => A.Sub A' ∧ v = .bool (decide g.ok)⟩

def rimgInv (A : Arena) (ss : List SitD) : LInv :=
  { γ := Nat × Int, G := SitI ss, keepS := [1], keepB := [], sl := fun s => [(12, .v (.int .i64 s.1)), (11, .v (.int .i64 s.2))], bl := fun _ => [], ar := fun _ => A, mu := fun s => ss.length - s.1 }

set_option maxRecDepth 100000 in
set_option maxHeartbeats 0 in
theorem rimg_ok : FOk Tryz.prog 16 rimgS := by
  refine fok_v mixed fun (g : ImgG) vs A hp => ?_
  obtain ⟨l, ss, ver, ms, f, t⟩ := g
  obtain ⟨x, y, vm, rfl, hN, hS, hM, hl1, hsh⟩ : ∃ x y vm, vs = [x, y, .agg #[.int .i64 ver, vm], .int .i64 f, .int .i64 t] ∧ NodesR A x l ∧ SlS A y ss ∧ MemR A vm ms ∧ l.length ≤ 1000000 ∧ ShortL l := hp
  have hX := hN.1.form
  obtain ⟨ax, cx, rfl⟩ := hX
  have hY := hM.1.form
  obtain ⟨am, cm, rfl⟩ := hY
  have hS0 := hS
  obtain ⟨⟨ao, c, rfl, hc, -, ha1, ha2, ha3⟩, hsl⟩ := hS0
  have hC : CTSound Tryz.prog (lookC [specE 40 rrowsS, specE 41 renS] noC) := lookC_sound (noC_sound _) (fun x hx => by
    simp only [List.mem_cons, List.not_mem_nil, or_false] at hx
    rcases hx with rfl | rfl
    · exact specE_ok rrows_ok
    · exact specE_ok ren_ok)
  refine ⟨_, tabO Tryz.prog _ noL 60 [(16, 0)], 60, hC, tabO_sound mixed hC (noL_sound _) _ _, fun blk os out tape D hD => ?_⟩
  have hbad : ∀ As, A.Sub As → ¬ (ImgG.mk l ss ver ms f t).ok → rimgS.post ⟨l, ss, ver, ms, f, t⟩ [] A (.bool false) As := fun As hs hn => ⟨hs, img_no hn⟩
  conv => lhs; whnf
  refine (hD _).2 ⟨l, ⟨_, rfl, hN, hl1, hsh⟩, fun v A1 hq => ?_⟩
  obtain ⟨s1, hv⟩ : A.Sub A1 ∧ v = .bool (decide (LoadC (l.map (·.1)))) := hq
  by_cases hL : LoadC (l.map (·.1))
  rotate_left
  · rw [decide_eq_false hL] at hv
    subst hv
    have hend := hbad A1 s1 fun h => hL h.1
    conv => lhs; whnf
    exact (hD _).2 hend
  rw [decide_eq_true hL] at hv
  subst hv
  conv => lhs; whnf
  refine split_dec (fun h500 => ?_) (fun h500 => ?_)
  · have hend := hbad A1 s1 fun h => by
      have h2 := h.2.1
      have h500 : (500 : Int) < (l.length : Int) := h500
      rw [List.length_map] at h2
      have h2 : l.length ≤ 500 := h2
      omega
    conv => lhs; whnf
    exact (hD _).2 hend
  conv => lhs; whnf
  refine split_dec (fun h200 => ?_) (fun h200 => ?_)
  · have hend := hbad A1 s1 fun h => by
      have h2 : ss.length ≤ 200 := h.2.2.1
      have h200 : (200 : Int) < (ss.length : Int) := h200
      omega
    conv => lhs; whnf
    exact (hD _).2 hend
  conv => lhs; whnf
  refine (hD _).2 ⟨((ver, ms) : Int × List MemD), ⟨_, rfl, hM.sub s1⟩, fun v A2 hq => ?_⟩
  have hq : A2 = A1 ∧ ∃ z, v = .int .i64 z ∧ (z = 0 ↔ ensD ver ms = 0) := hq
  have h9 := hq.1.symm
  have hz := hq.2
  subst h9
  obtain ⟨z, hv, hz⟩ := hz
  subst hv
  conv => lhs; whnf
  refine split_nd (fun hz0 => ?_) (fun hz0 => ?_)
  rotate_left
  · have hend := hbad A1 s1 fun h => hz0 (hz.2 h.2.2.2.1)
    conv => lhs; whnf
    exact (hD _).2 hend
  have hE := hz.1 hz0
  conv => lhs; whnf
  refine split_dec (fun hf => ?_) (fun hf => ?_)
  · have hend := hbad A1 s1 fun h => by
      have h2 : 0 ≤ f := h.2.2.2.2.1
      omega
    conv => lhs; whnf
    exact (hD _).2 hend
  conv => lhs; whnf
  refine split_dec (fun ht => ?_) (fun ht => ?_)
  · have hend := hbad A1 s1 fun h => by
      have h2 : f ≤ t := h.2.2.2.2.2.1
      omega
    conv => lhs; whnf
    exact (hD _).2 hend
  conv => lhs; whnf
  have hlm : (l.map (·.1)).length = l.length := List.length_map _
  have hno : ∀ As, A.Sub As → sitsOk 0 ss = false → rimgS.post ⟨l, ss, ver, ms, f, t⟩ [] A (.bool false) As := fun As hs hn => hbad As hs fun h => absurd (hn.symm.trans h.2.2.2.2.2.2) Bool.false_ne_true
  have hyes : sitsOk 0 ss = true → (ImgG.mk l ss ver ms f t).ok := fun h => ⟨hL, by
    show (l.map (·.1)).length ≤ 500
    rw [hlm]
    have h500 : ¬ (500 : Int) < (l.length : Int) := h500
    omega, by
    show ss.length ≤ 200
    have h200 : ¬ (200 : Int) < (ss.length : Int) := h200
    omega, hE, by show 0 ≤ f; omega, by show f ≤ t; omega, h⟩
  refine (hD _).2 ⟨rimgInv A1 ss, ⟨((0, 0) : Nat × Int), sitI_zero ss, ⟨rfl, rfl, trivial⟩, trivial, rfl⟩, fun (s : Nat × Int) hG => ⟨⟨trivial, trivial, trivial⟩, trivial, ?_⟩⟩
  obtain ⟨k, last⟩ := s
  have hG : SitI ss (k, last) := hG
  have hk : k ≤ ss.length := hG.1
  conv => lhs; whnf
  refine split_dec (fun hlt => ?_) (fun hlt => ?_)
  · have hkl : k < ss.length := by
      have hlt : (k : Int) < (ss.length : Int) := hlt
      omega
    obtain ⟨g, o, rfl, hra⟩ := Sl.at_ hc ha1 ha2 ha3 (by omega)
    have r1 := rd_sub s1 (row_at (enc := sitC) (fun _ => rfl) hra k hkl rfl)
    have i0 : (0 : Int) ≤ (k : Int) ∧ (k : Int) < (ss.length : Int) := by omega
    have hnext := sitI_next hG hkl
    have hbads := fun h => hno A1 s1 (sitI_bad hG hkl h)
    generalize ss[k] = sk at *
    obtain ⟨ses, tmo, trn⟩ := sk
    have r1 : A1.rd g (o + k * 3) 3 = some [.int .i64 ses, .int .i64 tmo, .int .i64 trn] := r1
    dsimp only at hnext hbads
    conv => lhs; whnf
    repeat (first | refine go_in i0 ?_ | refine go_rd r1 ?_ | refine go_D hD rfl ?_
            conv => lhs; whnf)
    refine split_dec (fun h1 => ?_) (fun h1 => ?_)
    · have hend := hbads fun h => by omega
      conv => lhs; whnf
      exact (hD _).2 hend
    conv => lhs; whnf
    refine split_dec (fun h2 => ?_) (fun h2 => ?_)
    · have hend := hbads fun h => by omega
      conv => lhs; whnf
      exact (hD _).2 hend
    conv => lhs; whnf
    refine split_dec (fun h3 => ?_) (fun h3 => ?_)
    · have hend := hbads fun h => by omega
      conv => lhs; whnf
      exact (hD _).2 hend
    have hG2 := hnext (by omega) (by omega) (by omega)
    conv => lhs; whnf
    exact (hD _).2 ⟨((k + 1, ses) : Nat × Int), ⟨hG2, ⟨inc_slot (by omega), rfl, trivial⟩, trivial, rfl⟩, by show ss.length - (k + 1) < ss.length - k; omega, ⟨same1 rfl rfl, trivial⟩, trivial⟩
  · have hk9 : k = ss.length := by
      have hlt : ¬ (k : Int) < (ss.length : Int) := hlt
      omega
    subst hk9
    have hend : rimgS.post ⟨l, ss, ver, ms, f, t⟩ [] A (.bool true) A1 := ⟨s1, img_yes (hyes (sitI_end hG))⟩
    conv => lhs; whnf
    exact (hD _).2 hend

end
end Go.Proofs.YthbaimobihmhiaaGreatDoor
