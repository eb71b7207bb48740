/-
  wire.Reader: Int.
  wire.Reader: Count, Byte, Text, Bytes, NewReader.
  The document's reader: fail, Byte, Int.
  The document's reader: Count, Text, Bytes.
  New readers.
  ensemble.Get.
  What a get of an image gives.
  wire.Writer: Byte, Int.
  wire.Writer: Text, Bytes.
-/
import Derived.Test.YthbaimobihmhiaaGreatDoorG09
import Derived.Test.YthbaimobihmhiaaGreatDoorG08
namespace Go.Proofs.YthbaimobihmhiaaGreatDoor
open Go.Sx Go.RowKit
noncomputable section
open Classical

def xIntInv (A : Arena) (l : List UInt8) (r : Nat) : LInv :=
  { γ := Nat × Nat, G := fun s => GI l s.1 s.2, keepS := [], keepB := [], sl := fun s => [(0, .v (.pointer (some ⟨r, 0, none⟩))), (3, .v (.int .u64 s.2)), (4, .v (.int .i64 s.1))], bl := fun _ => [], ar := fun _ => A, mu := fun s => l.length - s.1 }

def xIntS : FSpec := ⟨RxG, fun g vs A => vs = [.pointer (some ⟨g.r, 0, none⟩)] ∧ RdG goodF g.B A g.r g.st ∧ stLen g.st ≤ 900000000, fun g _ A v A' => v = .int .i64 (pInt g.st).1 ∧ KeepR A A' g.r ∧ RdG goodF g.B A' g.r (pInt g.st).2⟩

theorem pInt_some {l r : List UInt8} {n : Int} (h : vget l = some (n, r)) : pInt (some l) = (n, some r) := by
  show (match vget l with
    | some (n, r) => (n, some r)
    | none => (0, none)) = _
  rw [h]

theorem pInt_no {l : List UInt8} (h : vget l = none) : pInt (some l) = (0, none) := by
  show (match vget l with
    | some (n, r) => (n, some r)
    | none => (0, none)) = _
  rw [h]

theorem pTake_some {l : List UInt8} {k : Nat} (h : k ≤ l.length) : pTake (k : Int) (some l) = (l.take k, some (l.drop k)) := by
  show (if 0 ≤ (k : Int) ∧ (k : Int) ≤ (l.length : Int) then (l.take k, some (l.drop k)) else ([], none)) = _
  rw [if_pos (by omega)]

set_option maxRecDepth 100000 in
set_option maxHeartbeats 0 in
theorem xInt_ok : FOk Tryz.prog 89 xIntS := by
  refine fok_v mixed fun ⟨r, st, Dr⟩ vs A hp => ?_
  obtain ⟨rfl, hR, hlen⟩ : vs = [.pointer (some ⟨r, 0, none⟩)] ∧ RdG goodF Dr A r st ∧ stLen st ≤ 900000000 := hp
  have hC : CTSound Tryz.prog (lookC [specE 103 xFailS, specE 102 xTakeS] noC) := lookC_sound (noC_sound _) (fun x hx => by
    simp only [List.mem_cons, List.not_mem_nil, or_false] at hx
    rcases hx with rfl | rfl
    · exact specE_ok xFail_ok
    · exact specE_ok xTake_ok)
  refine ⟨_, tabO Tryz.prog _ noL 60 [(89, 0)], 60, hC, tabO_sound mixed hC (noL_sound _) _ _, fun blk os out tape D hD => ?_⟩
  have hR0 := hR
  obtain ⟨v, htop, hDs, hDr, hSl, hnil⟩ := hR0
  cases st with
  | none =>
    have r1 : A.rd r 1 1 = some [.bool false] := htop.rd (o := 1) (n := 1) (by show 1 + 1 ≤ 2; omega)
    have hend : xIntS.post ⟨r, none, Dr⟩ [] A (.int .i64 0) A := ⟨rfl, KeepR.refl _ _, hR⟩
    conv => lhs; whnf
    repeat (first | refine go_rd r1 ?_ | refine go_D hD rfl ?_
            conv => lhs; whnf)
    exact (hD _).2 hend
  | some l =>
    have hlen : l.length ≤ 900000000 := hlen
    have hSl : Sl Dr 1 l.length v (l.map bv) := hSl
    have hSl0 := hSl
    obtain ⟨ao, c, rfl, hc, -, ha1, ha2, ha3⟩ := hSl
    have htop : CellsAt A r [.slice ao l.length c, .bool true] := htop
    have r0 : A.rd r 0 1 = some [.slice ao l.length c] := htop.rd (o := 0) (n := 1) (by show 0 + 1 ≤ 2; omega)
    have r1 : A.rd r 1 1 = some [.bool true] := htop.rd (o := 1) (n := 1) (by show 1 + 1 ≤ 2; omega)
    have hbad : vget l = none → ∀ A1, KeepR A A1 r → RdG goodF Dr A1 r none → xIntS.post ⟨r, some l, Dr⟩ [] A (.int .i64 0) A1 := fun hv A1 h1 h2 => by
      show Value.int .i64 0 = .int .i64 (pInt (some l)).1 ∧ KeepR A A1 r ∧ RdG goodF Dr A1 r (pInt (some l)).2
      rw [pInt_no hv]
      exact ⟨rfl, h1, h2⟩
    conv => lhs; whnf
    repeat (first | refine go_rd r1 ?_ | refine go_D hD rfl ?_
            conv => lhs; whnf)
    refine (hD _).2 ⟨xIntInv A l r, ⟨((0, 0) : Nat × Nat), GI.zero l, ⟨rfl, rfl, rfl, trivial⟩, trivial, rfl⟩, fun (s : Nat × Nat) hG => ⟨⟨trivial, trivial, trivial, trivial⟩, trivial, ?_⟩⟩
    obtain ⟨k, u⟩ := s
    have hG : GI l k u := hG
    have hk : k ≤ l.length := hG.1
    have hk9 : k ≤ 9 := hG.2.1
    conv => lhs; whnf
    repeat (first | refine go_rd r0 ?_ | refine go_D hD rfl ?_
            conv => lhs; whnf)
    refine split_dec (fun hlt => ?_) (fun hlt => ?_)
    rotate_left
    · have e : k = l.length := by
        have hlt : ¬ (k : Int) < (l.length : Int) := hlt
        omega
      subst e
      conv => lhs; whnf
      refine (hD _).2 ⟨(⟨r, some l, Dr⟩ : RxG), ⟨rfl, hR⟩, fun v A1 hq => ?_⟩
      obtain ⟨hv, k1, k2⟩ : v = .tuple #[] ∧ KeepR A A1 r ∧ RdG goodF Dr A1 r none := hq
      subst hv
      have hend := hbad hG.none_end A1 k1 k2
      conv => lhs; whnf
      repeat (first | refine go_D hD rfl ?_
              conv => lhs; whnf)
      exact (hD _).2 hend
    have hkl : k < l.length := by
      have hlt : (k : Int) < (l.length : Int) := hlt
      omega
    obtain ⟨gx, ox, rfl, hra⟩ := Sl.at_ hc ha1 ha2 ha3 (by omega)
    have rb := rd_sub hDs (byte_at hra k hkl rfl)
    have i0 : (0 : Int) ≤ (k : Int) ∧ (k : Int) < (l.length : Int) := by omega
    have hcb := l[k].toNat_lt
    have hcw : IntKind.u64.wrap (l[k].toNat : Int) = (l[k].toNat : Int) := u64_wrap (by omega) (by omega)
    have h7 : IntKind.i64.wrap (7 * (k : Int)) = ((7 * k : Nat) : Int) := by rw [i64_in (by omega) (by omega)]; omega
    have h70 : (0 : Int) ≤ IntKind.i64.wrap (7 * (k : Int)) := by rw [h7]; omega
    have hu : l[k].toNat % 128 < 128 → (k = 9 → l[k].toNat % 128 ≤ 1) → bitsOf .or .u64 (u : Int) (IntKind.u64.wrap (bitsOf .and .u64 (IntKind.u64.wrap (l[k].toNat : Int)) 127 * 2 ^ (min (IntKind.i64.wrap (7 * (k : Int))).toNat IntKind.u64.bits))) = ((u + l[k].toNat % 128 * 128 ^ k : Nat) : Int) := fun h1 h2 => by
      rw [hcw, and_127 hcb, h7, Int.toNat_natCast]
      exact or_add hG.2.2.1 h1 hk9 h2
    conv => lhs; whnf
    repeat (first | refine go_in i0 ?_ | refine go_rd r0 ?_ | refine go_rd rb ?_ | refine go_D hD rfl ?_
            conv => lhs; whnf)
    refine go_dec h70 ?_
    conv => lhs; whnf
    repeat (first | refine go_in i0 ?_ | refine go_rd r0 ?_ | refine go_rd rb ?_ | refine go_D hD rfl ?_
            conv => lhs; whnf)
    -- all that may come behind it
    have hbrk : (l[k].toNat = 0 ∧ 0 < k ∨ 1 < l[k].toNat ∧ k = 9) → ¬ (128 ≤ l[k].toNat ∧ k < 9) → vget l = none := fun h1 h2 => hG.bad hkl h2 h1
    refine split_dec (fun h128 => ?_) (fun h128 => ?_)
    · have h128 : 128 ≤ l[k].toNat := by
        have h : (127 : Int) < IntKind.u64.wrap (l[k].toNat : Int) := h128
        rw [hcw] at h
        omega
      conv => lhs; whnf
      refine split_dec (fun h9 => ?_) (fun h9 => ?_)
      · have h9 : k < 9 := by
          have h9 : (k : Int) < 9 := h9
          omega
        have hG2 := hG.next hkl h128 h9
        have hu2 := hu (by omega) (by omega)
        rw [show l[k].toNat % 128 = l[k].toNat - 128 by omega] at hu2
        conv => lhs; whnf
        exact (hD _).2 ⟨((k + 1, u + (l[k].toNat - 128) * 128 ^ k) : Nat × Nat), ⟨hG2, ⟨rfl, congrArg (fun x : Int => some (SV.v (.int .u64 x))) hu2, inc_slot (by omega), trivial⟩, trivial, rfl⟩, by show l.length - (k + 1) < l.length - k; omega, trivial, trivial⟩
      · have h9 : k = 9 := by
          have h9 : ¬ (k : Int) < 9 := h9
          omega
        have hv := hbrk (.inr ⟨by omega, h9⟩) (by omega)
        conv => lhs; whnf
        refine split_dec (fun q0 => ?_) (fun q0 => ?_)
        · have q0 : l[k].toNat = 0 := by
            have h : IntKind.u64.wrap (l[k].toNat : Int) = 0 := q0
            rw [hcw] at h
            omega
          conv => lhs; whnf
          refine split_dec (fun q1 => ?_) (fun q1 => ?_)
          · have q1 : 0 < k := by
              have q1 : (0 : Int) < (k : Int) := q1
              omega
            conv => lhs; whnf
            refine (hD _).2 ⟨(⟨r, some l, Dr⟩ : RxG), ⟨rfl, hR⟩, fun v A1 hq => ?_⟩
            obtain ⟨hvv, k1, k2⟩ : v = .tuple #[] ∧ KeepR A A1 r ∧ RdG goodF Dr A1 r none := hq
            subst hvv
            have hend := hbad (hbrk (.inl ⟨q0, q1⟩) (by omega)) A1 k1 k2
            conv => lhs; whnf
            repeat (first | refine go_D hD rfl ?_
                    conv => lhs; whnf)
            exact (hD _).2 hend
          · have q1 : k = 0 := by
              have q1 : ¬ (0 : Int) < (k : Int) := q1
              omega
            conv => lhs; whnf
            refine split_dec (fun q2 => ?_) (fun q2 => ?_)
            · have q2 : False := by
                have h : (1 : Int) < IntKind.u64.wrap (l[k].toNat : Int) := q2
                rw [hcw] at h
                omega
              exact q2.elim
            have hdn := hG.done hkl (by omega) (by omega)
            obtain ⟨hv, c1, c2, c3⟩ := hdn
            have hu2 := hu (by omega) (by omega)
            rw [show l[k].toNat % 128 = l[k].toNat by omega] at hu2
            have hz : ∀ U : Int, U = ((u + l[k].toNat * 128 ^ k : Nat) : Int) → bitsOf .xor .i64 (IntKind.i64.wrap (U.fdiv (2 ^ (min (1 : Int).toNat IntKind.u64.bits)))) (IntKind.i64.wrap (0 - IntKind.i64.wrap (bitsOf .and .u64 U 1))) = zag (u + l[k].toNat * 128 ^ k) := fun U h => by
              rw [h]
              exact zag_prog c3
            have hargs : [Value.pointer (some ⟨r, 0, none⟩), .int .i64 (IntKind.i64.wrap ((k : Int) + 1))] = [.pointer (some ⟨r, 0, none⟩), .int .i64 ((k + 1 : Nat) : Int)] := by
              rw [i64_in (by omega) (by omega)]; rfl
            have hpt := pTake_some (l := l) (k := k + 1) (by omega)
            have hpi := pInt_some hv
            conv => lhs; whnf
            refine (hD _).2 ⟨((⟨r, some l, Dr⟩, ((k + 1 : Nat) : Int)) : RxG × Int), ⟨hargs, hR, hlen⟩, fun v A1 hq => ?_⟩
            obtain ⟨hS9, k1, k2⟩ : Sl Dr 1 (pTake ((k + 1 : Nat) : Int) (some l)).1.length v ((pTake ((k + 1 : Nat) : Int) (some l)).1.map bv) ∧ KeepR A A1 r ∧ RdG goodF Dr A1 r (pTake ((k + 1 : Nat) : Int) (some l)).2 := hq
            rw [hpt] at k2
            obtain ⟨a9, c9, hf9⟩ := hS9.form
            subst hf9
            have hend : ∀ x : Int, x = zag (u + l[k].toNat * 128 ^ k) → xIntS.post ⟨r, some l, Dr⟩ [] A (.int .i64 x) A1 := fun x hx => by
              show Value.int .i64 x = .int .i64 (pInt (some l)).1 ∧ KeepR A A1 r ∧ RdG goodF Dr A1 r (pInt (some l)).2
              rw [hpi, hx]
              exact ⟨rfl, k1, k2⟩
            conv => lhs; whnf
            repeat (first | refine go_D hD rfl ?_
                    conv => lhs; whnf)
            exact (hD _).2 (hend _ (hz _ hu2))
        · have q0 : l[k].toNat ≠ 0 := fun e => by
            refine q0 ?_
            show IntKind.u64.wrap (l[k].toNat : Int) = 0
            rw [hcw]
            omega
          conv => lhs; whnf
          refine split_dec (fun q2 => ?_) (fun q2 => ?_)
          · have q2 : 1 < l[k].toNat := by
              have h : (1 : Int) < IntKind.u64.wrap (l[k].toNat : Int) := q2
              rw [hcw] at h
              omega
            conv => lhs; whnf
            refine split_dec (fun q3 => ?_) (fun q3 => ?_)
            · have q3 : k = 9 := by
                have q3 : (k : Int) = 9 := q3
                omega
              conv => lhs; whnf
              refine (hD _).2 ⟨(⟨r, some l, Dr⟩ : RxG), ⟨rfl, hR⟩, fun v A1 hq => ?_⟩
              obtain ⟨hvv, k1, k2⟩ : v = .tuple #[] ∧ KeepR A A1 r ∧ RdG goodF Dr A1 r none := hq
              subst hvv
              have hend := hbad (hbrk (.inr ⟨q2, q3⟩) (by omega)) A1 k1 k2
              conv => lhs; whnf
              repeat (first | refine go_D hD rfl ?_
                      conv => lhs; whnf)
              exact (hD _).2 hend
            · have q3 : k ≠ 9 := fun e => by
                refine q3 ?_
                show (k : Int) = 9
                omega
              have hdn := hG.done hkl (by omega) (by omega)
              obtain ⟨hv, c1, c2, c3⟩ := hdn
              have hu2 := hu (by omega) (by omega)
              rw [show l[k].toNat % 128 = l[k].toNat by omega] at hu2
              have hz : ∀ U : Int, U = ((u + l[k].toNat * 128 ^ k : Nat) : Int) → bitsOf .xor .i64 (IntKind.i64.wrap (U.fdiv (2 ^ (min (1 : Int).toNat IntKind.u64.bits)))) (IntKind.i64.wrap (0 - IntKind.i64.wrap (bitsOf .and .u64 U 1))) = zag (u + l[k].toNat * 128 ^ k) := fun U h => by
                rw [h]
                exact zag_prog c3
              have hargs : [Value.pointer (some ⟨r, 0, none⟩), .int .i64 (IntKind.i64.wrap ((k : Int) + 1))] = [.pointer (some ⟨r, 0, none⟩), .int .i64 ((k + 1 : Nat) : Int)] := by
                rw [i64_in (by omega) (by omega)]; rfl
              have hpt := pTake_some (l := l) (k := k + 1) (by omega)
              have hpi := pInt_some hv
              conv => lhs; whnf
              refine (hD _).2 ⟨((⟨r, some l, Dr⟩, ((k + 1 : Nat) : Int)) : RxG × Int), ⟨hargs, hR, hlen⟩, fun v A1 hq => ?_⟩
              obtain ⟨hS9, k1, k2⟩ : Sl Dr 1 (pTake ((k + 1 : Nat) : Int) (some l)).1.length v ((pTake ((k + 1 : Nat) : Int) (some l)).1.map bv) ∧ KeepR A A1 r ∧ RdG goodF Dr A1 r (pTake ((k + 1 : Nat) : Int) (some l)).2 := hq
              rw [hpt] at k2
              obtain ⟨a9, c9, hf9⟩ := hS9.form
              subst hf9
              have hend : ∀ x : Int, x = zag (u + l[k].toNat * 128 ^ k) → xIntS.post ⟨r, some l, Dr⟩ [] A (.int .i64 x) A1 := fun x hx => by
                show Value.int .i64 x = .int .i64 (pInt (some l)).1 ∧ KeepR A A1 r ∧ RdG goodF Dr A1 r (pInt (some l)).2
                rw [hpi, hx]
                exact ⟨rfl, k1, k2⟩
              conv => lhs; whnf
              repeat (first | refine go_D hD rfl ?_
                      conv => lhs; whnf)
              exact (hD _).2 (hend _ (hz _ hu2))
          · have q2 : ¬ 1 < l[k].toNat := fun e => by
              refine q2 ?_
              show (1 : Int) < IntKind.u64.wrap (l[k].toNat : Int)
              rw [hcw]
              omega
            have hdn := hG.done hkl (by omega) (by omega)
            obtain ⟨hv, c1, c2, c3⟩ := hdn
            have hu2 := hu (by omega) (by omega)
            rw [show l[k].toNat % 128 = l[k].toNat by omega] at hu2
            have hz : ∀ U : Int, U = ((u + l[k].toNat * 128 ^ k : Nat) : Int) → bitsOf .xor .i64 (IntKind.i64.wrap (U.fdiv (2 ^ (min (1 : Int).toNat IntKind.u64.bits)))) (IntKind.i64.wrap (0 - IntKind.i64.wrap (bitsOf .and .u64 U 1))) = zag (u + l[k].toNat * 128 ^ k) := fun U h => by
              rw [h]
              exact zag_prog c3
            have hargs : [Value.pointer (some ⟨r, 0, none⟩), .int .i64 (IntKind.i64.wrap ((k : Int) + 1))] = [.pointer (some ⟨r, 0, none⟩), .int .i64 ((k + 1 : Nat) : Int)] := by
              rw [i64_in (by omega) (by omega)]; rfl
            have hpt := pTake_some (l := l) (k := k + 1) (by omega)
            have hpi := pInt_some hv
            conv => lhs; whnf
            refine (hD _).2 ⟨((⟨r, some l, Dr⟩, ((k + 1 : Nat) : Int)) : RxG × Int), ⟨hargs, hR, hlen⟩, fun v A1 hq => ?_⟩
            obtain ⟨hS9, k1, k2⟩ : Sl Dr 1 (pTake ((k + 1 : Nat) : Int) (some l)).1.length v ((pTake ((k + 1 : Nat) : Int) (some l)).1.map bv) ∧ KeepR A A1 r ∧ RdG goodF Dr A1 r (pTake ((k + 1 : Nat) : Int) (some l)).2 := hq
            rw [hpt] at k2
            obtain ⟨a9, c9, hf9⟩ := hS9.form
            subst hf9
            have hend : ∀ x : Int, x = zag (u + l[k].toNat * 128 ^ k) → xIntS.post ⟨r, some l, Dr⟩ [] A (.int .i64 x) A1 := fun x hx => by
              show Value.int .i64 x = .int .i64 (pInt (some l)).1 ∧ KeepR A A1 r ∧ RdG goodF Dr A1 r (pInt (some l)).2
              rw [hpi, hx]
              exact ⟨rfl, k1, k2⟩
            conv => lhs; whnf
            repeat (first | refine go_D hD rfl ?_
                    conv => lhs; whnf)
            exact (hD _).2 (hend _ (hz _ hu2))
    · have h128 : l[k].toNat < 128 := by
        have h : ¬ (127 : Int) < IntKind.u64.wrap (l[k].toNat : Int) := h128
        rw [hcw] at h
        omega
      conv => lhs; whnf
      refine split_dec (fun q0 => ?_) (fun q0 => ?_)
      · have q0 : l[k].toNat = 0 := by
          have h : IntKind.u64.wrap (l[k].toNat : Int) = 0 := q0
          rw [hcw] at h
          omega
        conv => lhs; whnf
        refine split_dec (fun q1 => ?_) (fun q1 => ?_)
        · have q1 : 0 < k := by
            have q1 : (0 : Int) < (k : Int) := q1
            omega
          conv => lhs; whnf
          refine (hD _).2 ⟨(⟨r, some l, Dr⟩ : RxG), ⟨rfl, hR⟩, fun v A1 hq => ?_⟩
          obtain ⟨hvv, k1, k2⟩ : v = .tuple #[] ∧ KeepR A A1 r ∧ RdG goodF Dr A1 r none := hq
          subst hvv
          have hend := hbad (hbrk (.inl ⟨q0, q1⟩) (by omega)) A1 k1 k2
          conv => lhs; whnf
          repeat (first | refine go_D hD rfl ?_
                  conv => lhs; whnf)
          exact (hD _).2 hend
        · have q1 : k = 0 := by
            have q1 : ¬ (0 : Int) < (k : Int) := q1
            omega
          conv => lhs; whnf
          refine split_dec (fun q2 => ?_) (fun q2 => ?_)
          · have q2 : False := by
              have h : (1 : Int) < IntKind.u64.wrap (l[k].toNat : Int) := q2
              rw [hcw] at h
              omega
            exact q2.elim
          have hdn := hG.done hkl (by omega) (by omega)
          obtain ⟨hv, c1, c2, c3⟩ := hdn
          have hu2 := hu (by omega) (by omega)
          rw [show l[k].toNat % 128 = l[k].toNat by omega] at hu2
          have hz : ∀ U : Int, U = ((u + l[k].toNat * 128 ^ k : Nat) : Int) → bitsOf .xor .i64 (IntKind.i64.wrap (U.fdiv (2 ^ (min (1 : Int).toNat IntKind.u64.bits)))) (IntKind.i64.wrap (0 - IntKind.i64.wrap (bitsOf .and .u64 U 1))) = zag (u + l[k].toNat * 128 ^ k) := fun U h => by
            rw [h]
            exact zag_prog c3
          have hargs : [Value.pointer (some ⟨r, 0, none⟩), .int .i64 (IntKind.i64.wrap ((k : Int) + 1))] = [.pointer (some ⟨r, 0, none⟩), .int .i64 ((k + 1 : Nat) : Int)] := by
            rw [i64_in (by omega) (by omega)]; rfl
          have hpt := pTake_some (l := l) (k := k + 1) (by omega)
          have hpi := pInt_some hv
          conv => lhs; whnf
          refine (hD _).2 ⟨((⟨r, some l, Dr⟩, ((k + 1 : Nat) : Int)) : RxG × Int), ⟨hargs, hR, hlen⟩, fun v A1 hq => ?_⟩
          obtain ⟨hS9, k1, k2⟩ : Sl Dr 1 (pTake ((k + 1 : Nat) : Int) (some l)).1.length v ((pTake ((k + 1 : Nat) : Int) (some l)).1.map bv) ∧ KeepR A A1 r ∧ RdG goodF Dr A1 r (pTake ((k + 1 : Nat) : Int) (some l)).2 := hq
          rw [hpt] at k2
          obtain ⟨a9, c9, hf9⟩ := hS9.form
          subst hf9
          have hend : ∀ x : Int, x = zag (u + l[k].toNat * 128 ^ k) → xIntS.post ⟨r, some l, Dr⟩ [] A (.int .i64 x) A1 := fun x hx => by
            show Value.int .i64 x = .int .i64 (pInt (some l)).1 ∧ KeepR A A1 r ∧ RdG goodF Dr A1 r (pInt (some l)).2
            rw [hpi, hx]
            exact ⟨rfl, k1, k2⟩
          conv => lhs; whnf
          repeat (first | refine go_D hD rfl ?_
                  conv => lhs; whnf)
          exact (hD _).2 (hend _ (hz _ hu2))
      · have q0 : l[k].toNat ≠ 0 := fun e => by
          refine q0 ?_
          show IntKind.u64.wrap (l[k].toNat : Int) = 0
          rw [hcw]
          omega
        conv => lhs; whnf
        refine split_dec (fun q2 => ?_) (fun q2 => ?_)
        · have q2 : 1 < l[k].toNat := by
            have h : (1 : Int) < IntKind.u64.wrap (l[k].toNat : Int) := q2
            rw [hcw] at h
            omega
          conv => lhs; whnf
          refine split_dec (fun q3 => ?_) (fun q3 => ?_)
          · have q3 : k = 9 := by
              have q3 : (k : Int) = 9 := q3
              omega
            conv => lhs; whnf
            refine (hD _).2 ⟨(⟨r, some l, Dr⟩ : RxG), ⟨rfl, hR⟩, fun v A1 hq => ?_⟩
            obtain ⟨hvv, k1, k2⟩ : v = .tuple #[] ∧ KeepR A A1 r ∧ RdG goodF Dr A1 r none := hq
            subst hvv
            have hend := hbad (hbrk (.inr ⟨q2, q3⟩) (by omega)) A1 k1 k2
            conv => lhs; whnf
            repeat (first | refine go_D hD rfl ?_
                    conv => lhs; whnf)
            exact (hD _).2 hend
          · have q3 : k ≠ 9 := fun e => by
              refine q3 ?_
              show (k : Int) = 9
              omega
            have hdn := hG.done hkl (by omega) (by omega)
            obtain ⟨hv, c1, c2, c3⟩ := hdn
            have hu2 := hu (by omega) (by omega)
            rw [show l[k].toNat % 128 = l[k].toNat by omega] at hu2
            have hz : ∀ U : Int, U = ((u + l[k].toNat * 128 ^ k : Nat) : Int) → bitsOf .xor .i64 (IntKind.i64.wrap (U.fdiv (2 ^ (min (1 : Int).toNat IntKind.u64.bits)))) (IntKind.i64.wrap (0 - IntKind.i64.wrap (bitsOf .and .u64 U 1))) = zag (u + l[k].toNat * 128 ^ k) := fun U h => by
              rw [h]
              exact zag_prog c3
            have hargs : [Value.pointer (some ⟨r, 0, none⟩), .int .i64 (IntKind.i64.wrap ((k : Int) + 1))] = [.pointer (some ⟨r, 0, none⟩), .int .i64 ((k + 1 : Nat) : Int)] := by
              rw [i64_in (by omega) (by omega)]; rfl
            have hpt := pTake_some (l := l) (k := k + 1) (by omega)
            have hpi := pInt_some hv
            conv => lhs; whnf
            refine (hD _).2 ⟨((⟨r, some l, Dr⟩, ((k + 1 : Nat) : Int)) : RxG × Int), ⟨hargs, hR, hlen⟩, fun v A1 hq => ?_⟩
            obtain ⟨hS9, k1, k2⟩ : Sl Dr 1 (pTake ((k + 1 : Nat) : Int) (some l)).1.length v ((pTake ((k + 1 : Nat) : Int) (some l)).1.map bv) ∧ KeepR A A1 r ∧ RdG goodF Dr A1 r (pTake ((k + 1 : Nat) : Int) (some l)).2 := hq
            rw [hpt] at k2
            obtain ⟨a9, c9, hf9⟩ := hS9.form
            subst hf9
            have hend : ∀ x : Int, x = zag (u + l[k].toNat * 128 ^ k) → xIntS.post ⟨r, some l, Dr⟩ [] A (.int .i64 x) A1 := fun x hx => by
              show Value.int .i64 x = .int .i64 (pInt (some l)).1 ∧ KeepR A A1 r ∧ RdG goodF Dr A1 r (pInt (some l)).2
              rw [hpi, hx]
              exact ⟨rfl, k1, k2⟩
            conv => lhs; whnf
            repeat (first | refine go_D hD rfl ?_
                    conv => lhs; whnf)
            exact (hD _).2 (hend _ (hz _ hu2))
        · have q2 : ¬ 1 < l[k].toNat := fun e => by
            refine q2 ?_
            show (1 : Int) < IntKind.u64.wrap (l[k].toNat : Int)
            rw [hcw]
            omega
          have hdn := hG.done hkl (by omega) (by omega)
          obtain ⟨hv, c1, c2, c3⟩ := hdn
          have hu2 := hu (by omega) (by omega)
          rw [show l[k].toNat % 128 = l[k].toNat by omega] at hu2
          have hz : ∀ U : Int, U = ((u + l[k].toNat * 128 ^ k : Nat) : Int) → bitsOf .xor .i64 (IntKind.i64.wrap (U.fdiv (2 ^ (min (1 : Int).toNat IntKind.u64.bits)))) (IntKind.i64.wrap (0 - IntKind.i64.wrap (bitsOf .and .u64 U 1))) = zag (u + l[k].toNat * 128 ^ k) := fun U h => by
            rw [h]
            exact zag_prog c3
          have hargs : [Value.pointer (some ⟨r, 0, none⟩), .int .i64 (IntKind.i64.wrap ((k : Int) + 1))] = [.pointer (some ⟨r, 0, none⟩), .int .i64 ((k + 1 : Nat) : Int)] := by
            rw [i64_in (by omega) (by omega)]; rfl
          have hpt := pTake_some (l := l) (k := k + 1) (by omega)
          have hpi := pInt_some hv
          conv => lhs; whnf
          refine (hD _).2 ⟨((⟨r, some l, Dr⟩, ((k + 1 : Nat) : Int)) : RxG × Int), ⟨hargs, hR, hlen⟩, fun v A1 hq => ?_⟩
          obtain ⟨hS9, k1, k2⟩ : Sl Dr 1 (pTake ((k + 1 : Nat) : Int) (some l)).1.length v ((pTake ((k + 1 : Nat) : Int) (some l)).1.map bv) ∧ KeepR A A1 r ∧ RdG goodF Dr A1 r (pTake ((k + 1 : Nat) : Int) (some l)).2 := hq
          rw [hpt] at k2
          obtain ⟨a9, c9, hf9⟩ := hS9.form
          subst hf9
          have hend : ∀ x : Int, x = zag (u + l[k].toNat * 128 ^ k) → xIntS.post ⟨r, some l, Dr⟩ [] A (.int .i64 x) A1 := fun x hx => by
            show Value.int .i64 x = .int .i64 (pInt (some l)).1 ∧ KeepR A A1 r ∧ RdG goodF Dr A1 r (pInt (some l)).2
            rw [hpi, hx]
            exact ⟨rfl, k1, k2⟩
          conv => lhs; whnf
          repeat (first | refine go_D hD rfl ?_
                  conv => lhs; whnf)
          exact (hD _).2 (hend _ (hz _ hu2))

end
end Go.Proofs.YthbaimobihmhiaaGreatDoor

namespace Go.Proofs.YthbaimobihmhiaaGreatDoor
open Go.Sx Go.RowKit
noncomputable section
open Classical

theorem pTake_count {most : Int} (hm : 0 ≤ most) (st : RdSt) : pTake (pCount most st).1 (pCount most st).2 = pText most st := by
  have h0 := (pCount_in (s := st) hm).1
  unfold pText
  cases h : (pCount most st).2 with
  | none => rfl
  | some l =>
    show (if 0 ≤ (pCount most st).1 ∧ (pCount most st).1 ≤ (l.length : Int) then (l.take (pCount most st).1.toNat, some (l.drop (pCount most st).1.toNat)) else ([], none)) = _
    by_cases h2 : (pCount most st).1.toNat ≤ l.length
    · rw [if_pos (by omega)]
      exact (if_pos h2).symm
    · rw [if_neg (by omega)]
      exact (if_neg h2).symm

def xCountS : FSpec := ⟨RxG × Int, fun g vs A => vs = [.pointer (some ⟨g.1.r, 0, none⟩), .int .i64 g.2] ∧ RdG goodF g.1.B A g.1.r g.1.st ∧ stLen g.1.st ≤ 900000000 ∧ 0 ≤ g.2 ∧ g.2 ≤ 900000000,
  fun g _ A v A' => v = .int .i64 (pCount g.2 g.1.st).1 ∧ KeepR A A' g.1.r ∧ RdG goodF g.1.B A' g.1.r (pCount g.2 g.1.st).2⟩

set_option maxRecDepth 100000 in
set_option maxHeartbeats 0 in
theorem xCount_ok : FOk Tryz.prog 86 xCountS := by
  refine fok_v mixed fun ⟨⟨r, st, Dr⟩, most⟩ vs A hp => ?_
  obtain ⟨rfl, hR, hlen, hm0, hm1⟩ : vs = [.pointer (some ⟨r, 0, none⟩), .int .i64 most] ∧ RdG goodF Dr A r st ∧ stLen st ≤ 900000000 ∧ 0 ≤ most ∧ most ≤ 900000000 := hp
  have hC : CTSound Tryz.prog (lookC [specE 103 xFailS, specE 89 xIntS] noC) := lookC_sound (noC_sound _) (fun x hx => by
    simp only [List.mem_cons, List.not_mem_nil, or_false] at hx
    rcases hx with rfl | rfl
    · exact specE_ok xFail_ok
    · exact specE_ok xInt_ok)
  refine ⟨_, noL, 60, hC, noL_sound _, fun blk os out tape D hD => ?_⟩
  have hin := pInt_in st
  have hbad : ((pInt st).1 < 0 ∨ most < (pInt st).1) → ∀ A1, KeepR A A1 r → RdG goodF Dr A1 r none → xCountS.post (⟨r, st, Dr⟩, most) [] A (.int .i64 0) A1 := fun h A1 h1 h2 => by
    show Value.int .i64 0 = .int .i64 (pCount most st).1 ∧ KeepR A A1 r ∧ RdG goodF Dr A1 r (pCount most st).2
    have e : pCount most st = (0, none) := if_pos h
    rw [e]
    exact ⟨rfl, h1, h2⟩
  have hgood : ¬ ((pInt st).1 < 0 ∨ most < (pInt st).1) → ∀ A1, KeepR A A1 r → RdG goodF Dr A1 r (pInt st).2 → xCountS.post (⟨r, st, Dr⟩, most) [] A (.int .i64 (pInt st).1) A1 := fun h A1 h1 h2 => by
    show Value.int .i64 (pInt st).1 = .int .i64 (pCount most st).1 ∧ KeepR A A1 r ∧ RdG goodF Dr A1 r (pCount most st).2
    have e : pCount most st = pInt st := if_neg h
    rw [e]
    exact ⟨rfl, h1, h2⟩
  conv => lhs; whnf
  refine (hD _).2 ⟨(⟨r, st, Dr⟩ : RxG), ⟨rfl, hR, hlen⟩, fun v A1 hq => ?_⟩
  obtain ⟨hv, k1, k2⟩ : v = .int .i64 (pInt st).1 ∧ KeepR A A1 r ∧ RdG goodF Dr A1 r (pInt st).2 := hq
  generalize (pInt st).1 = n at *
  subst hv
  conv => lhs; whnf
  refine split_dec (fun h0 => ?_) (fun h0 => ?_)
  · conv => lhs; whnf
    refine (hD _).2 ⟨(⟨r, (pInt st).2, Dr⟩ : RxG), ⟨rfl, k2⟩, fun v A2 hq => ?_⟩
    obtain ⟨hv, j1, j2⟩ : v = .tuple #[] ∧ KeepR A1 A2 r ∧ RdG goodF Dr A2 r none := hq
    subst hv
    have hend := hbad (.inl h0) A2 (k1.trans j1) j2
    conv => lhs; whnf
    repeat (first | refine go_D hD rfl ?_
            conv => lhs; whnf)
    exact (hD _).2 hend
  conv => lhs; whnf
  refine split_dec (fun h1 => ?_) (fun h1 => ?_)
  · conv => lhs; whnf
    refine (hD _).2 ⟨(⟨r, (pInt st).2, Dr⟩ : RxG), ⟨rfl, k2⟩, fun v A2 hq => ?_⟩
    obtain ⟨hv, j1, j2⟩ : v = .tuple #[] ∧ KeepR A1 A2 r ∧ RdG goodF Dr A2 r none := hq
    subst hv
    have hend := hbad (.inr h1) A2 (k1.trans j1) j2
    conv => lhs; whnf
    repeat (first | refine go_D hD rfl ?_
            conv => lhs; whnf)
    exact (hD _).2 hend
  have hend := hgood (fun h => h.elim h0 h1) A1 k1 k2
  conv => lhs; whnf
  repeat (first | refine go_D hD rfl ?_
          conv => lhs; whnf)
  exact (hD _).2 hend

theorem takeCountC : CTSound Tryz.prog (lookC [specE 102 xTakeS, specE 86 xCountS, specE 65 cloneBytesS] noC) := lookC_sound (noC_sound _) (fun x hx => by
  simp only [List.mem_cons, List.not_mem_nil, or_false] at hx
  rcases hx with rfl | rfl | rfl
  · exact specE_ok xTake_ok
  · exact specE_ok xCount_ok
  · exact specE_ok cloneBytes_ok)

def xBytesS : FSpec := ⟨RxG × Int, xCountS.pre, fun g _ A v A' => SlB (A'.minus A) v (pText g.2 g.1.st).1 ∧ KeepR A A' g.1.r ∧ RdG goodF g.1.B A' g.1.r (pText g.2 g.1.st).2⟩

set_option maxRecDepth 100000 in
set_option maxHeartbeats 0 in
theorem xBytes_ok : FOk Tryz.prog 88 xBytesS := by
  refine fok_v mixed fun ⟨⟨r, st, Dr⟩, most⟩ vs A hp => ?_
  obtain ⟨rfl, hR, hlen, hm0, hm1⟩ : vs = [.pointer (some ⟨r, 0, none⟩), .int .i64 most] ∧ RdG goodF Dr A r st ∧ stLen st ≤ 900000000 ∧ 0 ≤ most ∧ most ≤ 900000000 := hp
  refine ⟨_, noL, 60, takeCountC, noL_sound _, fun blk os out tape D hD => ?_⟩
  conv => lhs; whnf
  refine (hD _).2 ⟨((⟨r, st, Dr⟩, most) : RxG × Int), ⟨rfl, hR, hlen, hm0, hm1⟩, fun v A1 hq => ?_⟩
  obtain ⟨hv, k1, k2⟩ : v = .int .i64 (pCount most st).1 ∧ KeepR A A1 r ∧ RdG goodF Dr A1 r (pCount most st).2 := hq
  subst hv
  have hl2 := pCount_len most st
  conv => lhs; whnf
  refine (hD _).2 ⟨((⟨r, (pCount most st).2, Dr⟩, (pCount most st).1) : RxG × Int), ⟨rfl, k2, by show stLen (pCount most st).2 ≤ _; omega⟩, fun v A2 hq => ?_⟩
  have hq : Sl Dr 1 (pTake (pCount most st).1 (pCount most st).2).1.length v ((pTake (pCount most st).1 (pCount most st).2).1.map bv) ∧ KeepR A1 A2 r ∧ RdG goodF Dr A2 r (pTake (pCount most st).1 (pCount most st).2).2 := hq
  rw [pTake_count hm0] at hq
  obtain ⟨hS9, j1, j2⟩ := hq
  obtain ⟨a9, c9, hf9⟩ := hS9.form
  subst hf9
  have htl := (pText_len most st).2
  have hB : SlB A2 (.slice a9 (pText most st).1.length c9) (pText most st).1 := ⟨hS9.sub j2.dsub, by omega⟩
  conv => lhs; whnf
  refine (hD _).2 ⟨(pText most st).1, ⟨_, rfl, hB⟩, fun v A3 hq => ?_⟩
  obtain ⟨s3, hS3⟩ : A2.Sub A3 ∧ SlB (A3.minus A2) v (pText most st).1 := hq
  have hk2 := k1.trans j1
  have hend : xBytesS.post (⟨r, st, Dr⟩, most) [] A v A3 := ⟨hS3.sub (minus_keep hk2 j2.live2), hk2.trans (KeepR.of_sub s3 r), j2.keep s3⟩
  obtain ⟨a8, c8, hf8⟩ := hS3.1.form
  subst hf8
  conv => lhs; whnf
  repeat (first | refine go_D hD rfl ?_
          conv => lhs; whnf)
  exact (hD _).2 hend

def xTextS : FSpec := ⟨RxG × Int, xCountS.pre, fun g _ A v A' => v = .string ⟨(pText g.2 g.1.st).1.toArray⟩ ∧ KeepR A A' g.1.r ∧ RdG goodF g.1.B A' g.1.r (pText g.2 g.1.st).2⟩

set_option maxRecDepth 100000 in
set_option maxHeartbeats 0 in
theorem xText_ok : FOk Tryz.prog 87 xTextS := by
  refine fok_v mixed fun ⟨⟨r, st, Dr⟩, most⟩ vs A hp => ?_
  obtain ⟨rfl, hR, hlen, hm0, hm1⟩ : vs = [.pointer (some ⟨r, 0, none⟩), .int .i64 most] ∧ RdG goodF Dr A r st ∧ stLen st ≤ 900000000 ∧ 0 ≤ most ∧ most ≤ 900000000 := hp
  refine ⟨_, noL, 60, takeCountC, noL_sound _, fun blk os out tape D hD => ?_⟩
  conv => lhs; whnf
  refine (hD _).2 ⟨((⟨r, st, Dr⟩, most) : RxG × Int), ⟨rfl, hR, hlen, hm0, hm1⟩, fun v A1 hq => ?_⟩
  obtain ⟨hv, k1, k2⟩ : v = .int .i64 (pCount most st).1 ∧ KeepR A A1 r ∧ RdG goodF Dr A1 r (pCount most st).2 := hq
  subst hv
  have hl2 := pCount_len most st
  conv => lhs; whnf
  refine (hD _).2 ⟨((⟨r, (pCount most st).2, Dr⟩, (pCount most st).1) : RxG × Int), ⟨rfl, k2, by show stLen (pCount most st).2 ≤ _; omega⟩, fun v A2 hq => ?_⟩
  have hq : Sl Dr 1 (pTake (pCount most st).1 (pCount most st).2).1.length v ((pTake (pCount most st).1 (pCount most st).2).1.map bv) ∧ KeepR A1 A2 r ∧ RdG goodF Dr A2 r (pTake (pCount most st).1 (pCount most st).2).2 := hq
  rw [pTake_count hm0] at hq
  obtain ⟨hS9, j1, j2⟩ := hq
  have hk2 := k1.trans j1
  have hend : xTextS.post (⟨r, st, Dr⟩, most) [] A (.string ⟨(pText most st).1.toArray⟩) A2 := ⟨rfl, hk2, j2⟩
  obtain ⟨a9, c9, hf9, hc9, hl9, ha1, ha2, ha3⟩ := hS9.sub j2.dsub
  subst hf9
  generalize (pText most st).1 = s at *
  by_cases hs : s = []
  · subst hs
    rcases a9 with _ | ⟨g, o, _ | sp⟩
    all_goals
      conv => lhs; whnf
      repeat (first | refine go_D hD rfl ?_
              conv => lhs; whnf)
      exact (hD _).2 hend
  · have hpos : 0 < s.length := List.length_pos_iff.2 hs
    obtain ⟨g, o, e, hra⟩ := Sl.at_ hc9 ha1 ha2 ha3 hpos
    subst e
    rw [Nat.mul_one] at hra
    have hz : Nat.beq s.length 0 = false := nbeq_ne (by omega)
    conv => lhs; whnf
    repeat (first | refine go_rd hra ?_ | refine go_D hD rfl ?_
            conv => lhs; whnf)
    refine split_b (fun h => absurd (hz.symm.trans h) Bool.false_ne_true) (fun _ => ?_)
    conv => lhs; whnf
    repeat (first | refine go_rd hra ?_ | refine go_by (bytesVs_u8 s) ?_ | refine go_D hD rfl ?_
            conv => lhs; whnf)
    exact (hD _).2 hend

def xByteS : FSpec := ⟨RxG, fun g vs A => vs = [.pointer (some ⟨g.r, 0, none⟩)] ∧ RdG goodF g.B A g.r g.st ∧ stLen g.st ≤ 900000000, fun g _ A v A' => v = bv (pByte g.st).1 ∧ KeepR A A' g.r ∧ RdG goodF g.B A' g.r (pByte g.st).2⟩

theorem pTake_one (st : RdSt) : (pTake 1 st).2 = (pByte st).2 ∧ ((pTake 1 st).1 = [] ∧ (pByte st).1 = 0 ∨ (pTake 1 st).1 = [(pByte st).1]) := by
  rcases st with _ | _ | ⟨c, l⟩
  · exact ⟨rfl, .inl ⟨rfl, rfl⟩⟩
  · exact ⟨rfl, .inl ⟨rfl, rfl⟩⟩
  · have e : pTake 1 (some (c :: l)) = ([c], some l) := by
      show (if 0 ≤ (1 : Int) ∧ (1 : Int) ≤ (((c :: l).length : Nat) : Int) then ((c :: l).take 1, some ((c :: l).drop 1)) else ([], none)) = _
      rw [if_pos (by rw [List.length_cons]; omega)]
      rfl
    rw [e]
    exact ⟨rfl, .inr rfl⟩

set_option maxRecDepth 100000 in
set_option maxHeartbeats 0 in
theorem xByte_ok : FOk Tryz.prog 85 xByteS := by
  refine fok_v mixed fun ⟨r, st, Dr⟩ vs A hp => ?_
  obtain ⟨rfl, hR, hlen⟩ : vs = [.pointer (some ⟨r, 0, none⟩)] ∧ RdG goodF Dr A r st ∧ stLen st ≤ 900000000 := hp
  refine ⟨_, noL, 60, takeCountC, noL_sound _, fun blk os out tape D hD => ?_⟩
  have hone := pTake_one st
  conv => lhs; whnf
  refine (hD _).2 ⟨((⟨r, st, Dr⟩, 1) : RxG × Int), ⟨rfl, hR, hlen⟩, fun v A2 hq => ?_⟩
  have hq : Sl Dr 1 (pTake 1 st).1.length v ((pTake 1 st).1.map bv) ∧ KeepR A A2 r ∧ RdG goodF Dr A2 r (pTake 1 st).2 := hq
  rw [hone.1] at hq
  obtain ⟨hS9, j1, j2⟩ := hq
  rcases hone.2 with ⟨h1, h2⟩ | h1
  · rw [h1] at hS9
    obtain ⟨a9, c9, hf9⟩ := hS9.form
    subst hf9
    have hend : xByteS.post ⟨r, st, Dr⟩ [] A (.int .u8 0) A2 := ⟨by show _ = bv (pByte st).1; rw [h2]; rfl, j1, j2⟩
    conv => lhs; whnf
    repeat (first | refine go_D hD rfl ?_
            conv => lhs; whnf)
    exact (hD _).2 hend
  · rw [h1] at hS9
    have hend : xByteS.post ⟨r, st, Dr⟩ [] A (bv (pByte st).1) A2 := ⟨rfl, j1, j2⟩
    obtain ⟨a9, c9, hf9, hc9, hl9, ha1, ha2, ha3⟩ := hS9.sub j2.dsub
    have hc9 : 1 ≤ c9 := hc9
    obtain ⟨g, o, e, hra⟩ := Sl.at_ hc9 ha1 ha2 ha3 (Nat.succ_pos 0)
    subst e
    subst hf9
    have hra : A2.rd g (o + 0 * 1) 1 = some [bv (pByte st).1] := hra
    conv => lhs; whnf
    repeat (first | refine go_rd hra ?_ | refine go_D hD rfl ?_
            conv => lhs; whnf)
    exact (hD _).2 hend

end
end Go.Proofs.YthbaimobihmhiaaGreatDoor

namespace Go.Proofs.YthbaimobihmhiaaGreatDoor
open Go.Sx Go.RowKit
noncomputable section
open Classical

def badF : RdSt → Bool := fun st => st.isNone

structure RyG where
  r : Nat
  st : RdSt
  B : Arena

def yFailS : FSpec := ⟨RyG, fun g vs A => vs = [.pointer (some ⟨g.r, 0, none⟩)] ∧ RdG badF g.B A g.r g.st, fun g _ A v A' => v = .tuple #[] ∧ KeepR A A' g.r ∧ RdG badF g.B A' g.r none⟩

set_option maxRecDepth 100000 in
set_option maxHeartbeats 0 in
theorem yFail_ok : FOk Tryz.prog 73 yFailS := by
  refine fok_v mixed fun ⟨r, st, Dr⟩ vs A hp => ?_
  obtain ⟨rfl, hR⟩ : vs = [.pointer (some ⟨r, 0, none⟩)] ∧ RdG badF Dr A r st := hp
  refine ⟨noC, noL, 60, noC_sound _, noL_sound _, fun blk os out tape D hD => ?_⟩
  obtain ⟨v, htop, hDs, hDr, hSl, hnil⟩ := hR
  conv => lhs; whnf
  refine (hD _).2 ⟨htop.room (by show 1 + 1 ≤ 2; omega), fun A1 hP1 => ?_⟩
  have hP1 : A.Put A1 r 1 [.bool true] := hP1
  have t1 : CellsAt A1 r [v, .bool true] := htop.put hP1 (by show 1 + 1 ≤ 2; omega)
  conv => lhs; whnf
  refine (hD _).2 ⟨t1.room (by show 0 + 1 ≤ 2; omega), fun A2 hP2 => ?_⟩
  have hP2 : A1.Put A2 r 0 [.slice none 0 0] := hP2
  have t2 : CellsAt A2 r [.slice none 0 0, .bool true] := t1.put hP2 (by show 0 + 1 ≤ 2; omega)
  have hend : yFailS.post ⟨r, st, Dr⟩ [] A (.tuple #[]) A2 := ⟨rfl, (KeepR.put hP1).trans (KeepR.put hP2), _, t2, hP2.sub (hP1.sub hDs hDr) hDr, hDr, Sl.nil _ _, fun _ => rfl⟩
  conv => lhs; whnf
  repeat (first | refine go_D hD rfl ?_
          conv => lhs; whnf)
  exact (hD _).2 hend

theorem yFailC : CTSound Tryz.prog (lookC [specE 73 yFailS] noC) := lookC_sound (noC_sound _) (fun x hx => by
  simp only [List.mem_singleton] at hx
  subst hx
  exact specE_ok yFail_ok)

/-- The rest of what is left is left. -/
theorem RdG.rest {f : RdSt → Bool} {A A1 Dr : Arena} {r c n : Nat} {l : List UInt8} {g o : Nat} {b : Bool} (htop : CellsAt A r [.slice (some ⟨g, o, none⟩) l.length c, .bool b]) (hDs : Dr.Sub A) (hDr : Dr.blk r = none)
    (hSl : Sl Dr 1 l.length (.slice (some ⟨g, o, none⟩) l.length c) (l.map bv)) (hn : n ≤ l.length) (hc : 0 < c) (hf : f (some (l.drop n)) = b) (hP : A.Put A1 r 0 [.slice (some ⟨g, o + (bif c.beq n then 0 else n * 1), none⟩) (l.length - n) (c - n)]) :
    KeepR A A1 r ∧ RdG f Dr A1 r (some (l.drop n)) := by
  obtain ⟨-, -, -, hpos, -⟩ := Sl.tail hSl hn
  obtain ⟨g', o', e, hD2⟩ := hpos hc
  injection e with e
  injection e with e1 e2
  subst e1; subst e2
  have h2 := hD2 (some ⟨g, o + (bif c.beq n then 0 else n * 1), none⟩) (fun h => by rw [nbeq_ne (show c ≠ n by omega)]; show some (⟨g, o + n * 1, none⟩ : Addr) = _; rw [Nat.mul_one]) (fun _ => ⟨_, _, rfl⟩)
  have t1 : CellsAt A1 r [.slice (some ⟨g, o + (bif c.beq n then 0 else n * 1), none⟩) (l.length - n) (c - n), .bool b] := htop.put hP (by show 0 + 1 ≤ 2; omega)
  refine ⟨KeepR.put hP, _, (by rw [hf]; exact t1), hP.sub hDs hDr, hDr, ?_, fun h => (by cases h)⟩
  show Sl Dr 1 (l.drop n).length _ _
  rw [List.length_drop]
  exact h2

def yByteS : FSpec := ⟨RyG, fun g vs A => vs = [.pointer (some ⟨g.r, 0, none⟩)] ∧ RdG badF g.B A g.r g.st ∧ stLen g.st ≤ 900000000, fun g _ A v A' => v = bv (pByte g.st).1 ∧ KeepR A A' g.r ∧ RdG badF g.B A' g.r (pByte g.st).2⟩

set_option maxRecDepth 100000 in
set_option maxHeartbeats 0 in
theorem yByte_ok : FOk Tryz.prog 48 yByteS := by
  refine fok_v mixed fun ⟨r, st, Dr⟩ vs A hp => ?_
  obtain ⟨rfl, hR, hlen⟩ : vs = [.pointer (some ⟨r, 0, none⟩)] ∧ RdG badF Dr A r st ∧ stLen st ≤ 900000000 := hp
  refine ⟨_, noL, 60, yFailC, noL_sound _, fun blk os out tape D hD => ?_⟩
  have hR0 := hR
  obtain ⟨v, htop, hDs, hDr, hSl, hnil⟩ := hR0
  have hbad : (pByte st).2 = none ∧ (pByte st).1 = 0 → stL st = [] → sxTop Tryz.prog (lookC [specE 73 yFailS] noC) noL 60 48 ([Value.pointer (some ⟨r, 0, none⟩)].map SV.v) ⟨.e, 0, opMem blk os out tape A D hD⟩ (endP yByteS ⟨r, st, Dr⟩ [.pointer (some ⟨r, 0, none⟩)] A) = true := fun h h0 => by
    rw [h0] at hSl
    obtain ⟨ao, c, rfl, -, -, -, -, -⟩ := hSl
    have r0 : A.rd r 0 1 = some [.slice ao 0 c] := htop.rd (o := 0) (n := 1) (by show 0 + 1 ≤ 2; omega)
    conv => lhs; whnf
    repeat (first | refine go_rd r0 ?_ | refine go_D hD rfl ?_
            conv => lhs; whnf)
    refine (hD _).2 ⟨(⟨r, st, Dr⟩ : RyG), ⟨rfl, hR⟩, fun v A1 hq => ?_⟩
    obtain ⟨hvv, k1, k2⟩ : v = .tuple #[] ∧ KeepR A A1 r ∧ RdG badF Dr A1 r none := hq
    subst hvv
    have hend : yByteS.post ⟨r, st, Dr⟩ [] A (.int .u8 0) A1 := by
      show Value.int .u8 0 = bv (pByte st).1 ∧ KeepR A A1 r ∧ RdG badF Dr A1 r (pByte st).2
      rw [h.1, h.2]
      exact ⟨rfl, k1, k2⟩
    conv => lhs; whnf
    repeat (first | refine go_D hD rfl ?_
            conv => lhs; whnf)
    exact (hD _).2 hend
  rcases st with _ | _ | ⟨x, l⟩
  · exact hbad ⟨rfl, rfl⟩ rfl
  · exact hbad ⟨rfl, rfl⟩ rfl
  · clear hbad
    have hSl : Sl Dr 1 (x :: l).length v ((x :: l).map bv) := hSl
    have hSl0 := hSl
    obtain ⟨ao, c, rfl, hc, -, ha1, ha2, ha3⟩ := hSl
    obtain ⟨g, o, rfl, hra⟩ := Sl.at_ hc ha1 ha2 ha3 (Nat.succ_pos _)
    have htop : CellsAt A r [.slice (some ⟨g, o, none⟩) (x :: l).length c, .bool false] := htop
    have r0 : A.rd r 0 1 = some [.slice (some ⟨g, o, none⟩) (x :: l).length c] := htop.rd (o := 0) (n := 1) (by show 0 + 1 ≤ 2; omega)
    have rb : A.rd g (o + 0 * 1) 1 = some [bv x] := rd_sub hDs (byte_at hra 0 (Nat.succ_pos _) rfl)
    have hlc : (x :: l).length = l.length + 1 := rfl
    have hb2 : ((decide ((0 : Int) ≤ 1) && decide ((1 : Int) ≤ (((x :: l).length : Nat) : Int))) && (true || decide ((((x :: l).length : Nat) : Int) ≤ (c : Int)))) = true := by
      simp only [Bool.and_eq_true, Bool.or_eq_true, decide_eq_true_iff]
      omega
    have hx0 : (0 : Int) < (((x :: l).length : Nat) : Int) := by rw [hlc]; omega
    conv => lhs; whnf
    repeat (first | refine go_dec hx0 ?_ | refine go_rd r0 ?_ | refine go_rd rb ?_ | refine go_D hD rfl ?_
            conv => lhs; whnf)
    refine go_b hb2 ?_
    conv => lhs; whnf
    repeat (first | refine go_rd r0 ?_ | refine go_D hD rfl ?_
            conv => lhs; whnf)
    refine (hD _).2 ⟨htop.room (by show 0 + 1 ≤ 2; omega), fun A1 hP => ?_⟩
    have hP : A.Put A1 r 0 [.slice (some ⟨g, o + (bif c.beq 1 then 0 else 1 * 1), none⟩) ((x :: l).length - 1) (c - 1)] := hP
    have hrest := RdG.rest (f := badF) htop hDs hDr hSl0 (n := 1) (Nat.succ_pos _) (by omega) rfl hP
    have hend : yByteS.post ⟨r, some (x :: l), Dr⟩ [] A (bv x) A1 := ⟨rfl, hrest⟩
    conv => lhs; whnf
    repeat (first | refine go_D hD rfl ?_
            conv => lhs; whnf)
    exact (hD _).2 hend

/-! ### Int -/

theorem shl_add {u c k : Nat} (hu : u < 128 ^ k) (hc : c < 128) (hk : k ≤ 9) (h9 : k = 9 → c ≤ 1) :
    IntKind.u64.wrap ((u : Int) + IntKind.u64.wrap ((c : Int) * 2 ^ (min (7 * k) 64))) = ((u + c * 128 ^ k : Nat) : Int) := by
  have e7 : 128 ^ k = 2 ^ (7 * k) := by rw [show 128 = 2 ^ 7 from rfl, ← Nat.pow_mul]
  have hmin : min (7 * k) 64 = 7 * k := by omega
  have hlt : u + c * 128 ^ k < 18446744073709551616 := by
    by_cases h : k = 9
    · subst h
      have := h9 rfl
      have e : (128 : Nat) ^ 9 = 9223372036854775808 := by decide
      rw [e] at hu ⊢
      omega
    · have h1 : c * 128 ^ k ≤ 127 * 128 ^ k := Nat.mul_le_mul_right _ (by omega)
      have h2 : 128 ^ (k + 1) ≤ 128 ^ 9 := Nat.pow_le_pow_right (by decide) (by omega)
      have e : (128 : Nat) ^ 9 = 9223372036854775808 := by decide
      rw [Nat.pow_succ] at h2
      rw [e] at h2
      omega
  have hz : ((c : Int) * 2 ^ (7 * k)) = ((c * 128 ^ k : Nat) : Int) := by rw [e7]; push_cast; rfl
  rw [hmin, hz, u64_wrap (n := ((c * 128 ^ k : Nat) : Int)) (by omega) (by omega), u64_wrap (by omega) (by omega)]
  omega

def yIntInv (A : Arena) (l : List UInt8) (r : Nat) : LInv :=
  { γ := Nat × Int, G := fun s => s.1 ≤ l.length ∧ ((∃ u : Nat, s.2 = u ∧ GI l s.1 u) ∨ (s.1 = 10 ∧ vget l = none)), keepS := [], keepB := [], sl := fun s => [(0, .v (.pointer (some ⟨r, 0, none⟩))), (3, .v (.int .u64 s.2)), (4, .v (.int .i64 s.1))], bl := fun _ => [], ar := fun _ => A, mu := fun s => 10 - s.1 }

def yIntS : FSpec := ⟨RyG, fun g vs A => vs = [.pointer (some ⟨g.r, 0, none⟩)] ∧ RdG badF g.B A g.r g.st ∧ stLen g.st ≤ 900000000, fun g _ A v A' => v = .int .i64 (pInt g.st).1 ∧ KeepR A A' g.r ∧ RdG badF g.B A' g.r (pInt g.st).2⟩

theorem pIntL (st : RdSt) : pInt st = match vget (stL st) with
    | some (n, r) => (n, if st = none then none else some r)
    | none => (0, none) := by
  cases st with
  | none => rfl
  | some l =>
    show (match vget l with
      | some (n, r) => (n, some r)
      | none => (0, none)) = _
    show _ = match vget l with
      | some (n, r) => (n, if (some l : RdSt) = none then none else some r)
      | none => (0, none)
    cases vget l with
    | none => rfl
    | some x => obtain ⟨n, r⟩ := x; rfl

theorem pInt_yno {st : RdSt} (h : vget (stL st) = none) : pInt st = (0, none) := by rw [pIntL, h]

set_option maxRecDepth 100000 in
set_option maxHeartbeats 0 in
theorem yInt_ok : FOk Tryz.prog 52 yIntS := by
  refine fok_v mixed fun ⟨r, st, Dr⟩ vs A hp => ?_
  obtain ⟨rfl, hR, hlen⟩ : vs = [.pointer (some ⟨r, 0, none⟩)] ∧ RdG badF Dr A r st ∧ stLen st ≤ 900000000 := hp
  refine ⟨_, tabO Tryz.prog _ noL 60 [(52, 0)], 60, yFailC, tabO_sound mixed yFailC (noL_sound _) _ _, fun blk os out tape D hD => ?_⟩
  have hR0 := hR
  obtain ⟨v, htop, hDs, hDr, hSl, hnil⟩ := hR0
  have hbad : vget (stL st) = none → ∀ A1, KeepR A A1 r → RdG badF Dr A1 r none → yIntS.post ⟨r, st, Dr⟩ [] A (.int .i64 0) A1 := fun hv A1 h1 h2 => by
    show Value.int .i64 0 = .int .i64 (pInt st).1 ∧ KeepR A A1 r ∧ RdG badF Dr A1 r (pInt st).2
    rw [pInt_yno hv]
    exact ⟨rfl, h1, h2⟩
  have hll : (stL st).length ≤ 900000000 := by cases st <;> first | exact hlen | exact Nat.zero_le _
  obtain ⟨l, hl⟩ : ∃ l, l = stL st := ⟨_, rfl⟩
  rw [← hl] at hSl hbad hll
  have hSl0 := hSl
  obtain ⟨ao, c, rfl, hc, -, ha1, ha2, ha3⟩ := hSl
  have r0 : A.rd r 0 1 = some [.slice ao l.length c] := htop.rd (o := 0) (n := 1) (by show 0 + 1 ≤ 2; omega)
  conv => lhs; whnf
  have hG0 : (yIntInv A l r).G ((0, 0) : Nat × Int) := ⟨Nat.zero_le _, .inl ⟨0, rfl, GI.zero l⟩⟩
  refine (hD _).2 ⟨yIntInv A l r, ⟨((0, 0) : Nat × Int), hG0, ⟨rfl, rfl, rfl, trivial⟩, trivial, rfl⟩, fun (s : Nat × Int) hG => ⟨⟨trivial, trivial, trivial, trivial⟩, trivial, ?_⟩⟩
  clear hG0
  obtain ⟨k, U⟩ := s
  obtain ⟨hk, hG⟩ : k ≤ l.length ∧ ((∃ u : Nat, U = u ∧ GI l k u) ∨ (k = 10 ∧ vget l = none)) := hG
  have hend1 : k = l.length → vget l = none := fun e => by
    rcases hG with ⟨u, _, h⟩ | ⟨_, h⟩
    · rw [e] at h; exact h.none_end
    · exact h
  conv => lhs; whnf
  repeat (first | refine go_rd r0 ?_ | refine go_D hD rfl ?_
          conv => lhs; whnf)
  refine split_dec (fun hlt => ?_) (fun hlt => ?_)
  rotate_left
  · have e : k = l.length := by
      have hlt : ¬ (k : Int) < (l.length : Int) := hlt
      omega
    conv => lhs; whnf
    repeat (first | refine go_rd r0 ?_ | refine go_D hD rfl ?_
            conv => lhs; whnf)
    refine split_dec (fun _ => ?_) (fun q => absurd (show (l.length : Int) ≤ (k : Int) by omega) q)
    conv => lhs; whnf
    repeat (first | refine go_rd r0 ?_ | refine go_D hD rfl ?_
            conv => lhs; whnf)
    refine (hD _).2 ⟨(⟨r, st, Dr⟩ : RyG), ⟨rfl, hR⟩, fun v A1 hq => ?_⟩
    obtain ⟨hvv, k1, k2⟩ : v = .tuple #[] ∧ KeepR A A1 r ∧ RdG badF Dr A1 r none := hq
    subst hvv
    have hend := hbad (hend1 e) A1 k1 k2
    conv => lhs; whnf
    repeat (first | refine go_D hD rfl ?_
            conv => lhs; whnf)
    exact (hD _).2 hend
  have hkl : k < l.length := by
    have hlt : (k : Int) < (l.length : Int) := hlt
    omega
  obtain ⟨gx, ox, rfl, hra⟩ := Sl.at_ hc ha1 ha2 ha3 (by omega)
  have rb := rd_sub hDs (byte_at hra k hkl rfl)
  have i0 : (0 : Int) ≤ (k : Int) ∧ (k : Int) < (l.length : Int) := by omega
  have hcb := l[k].toNat_lt
  conv => lhs; whnf
  refine split_dec (fun h10 => ?_) (fun h10 => ?_)
  rotate_left
  · have hv : vget l = none := by
      rcases hG with ⟨u, _, h⟩ | ⟨_, h⟩
      · have := h.2.1
        have h10 : ¬ (k : Int) < 10 := h10
        omega
      · exact h
    have hk10 : k = 10 := by
      rcases hG with ⟨u, _, h⟩ | ⟨h, _⟩
      · have := h.2.1
        have h10 : ¬ (k : Int) < 10 := h10
        omega
      · exact h
    conv => lhs; whnf
    repeat (first | refine go_rd r0 ?_ | refine go_D hD rfl ?_
            conv => lhs; whnf)
    refine split_dec (fun q => absurd q (show ¬ (l.length : Int) ≤ (k : Int) by omega)) (fun _ => ?_)
    conv => lhs; whnf
    refine split_dec (fun _ => ?_) (fun q => absurd (show (k : Int) = 10 by omega) q)
    conv => lhs; whnf
    repeat (first | refine go_rd r0 ?_ | refine go_D hD rfl ?_
            conv => lhs; whnf)
    refine (hD _).2 ⟨(⟨r, st, Dr⟩ : RyG), ⟨rfl, hR⟩, fun v A1 hq => ?_⟩
    obtain ⟨hvv, k1, k2⟩ : v = .tuple #[] ∧ KeepR A A1 r ∧ RdG badF Dr A1 r none := hq
    subst hvv
    have hend := hbad hv A1 k1 k2
    conv => lhs; whnf
    repeat (first | refine go_D hD rfl ?_
            conv => lhs; whnf)
    exact (hD _).2 hend
  have hk10 : k < 10 := by
    have h10 : (k : Int) < 10 := h10
    omega
  have hGu : ∃ u : Nat, U = u ∧ GI l k u := hG.resolve_right fun h => by omega
  clear hG
  obtain ⟨u, rfl, hG⟩ := hGu
  have hk9 : k ≤ 9 := by omega
  have hcw : IntKind.u64.wrap (l[k].toNat : Int) = (l[k].toNat : Int) := u64_wrap (by omega) (by omega)
  have h7 : IntKind.i64.wrap (7 * (k : Int)) = ((7 * k : Nat) : Int) := by rw [i64_in (by omega) (by omega)]; omega
  have h70 : (0 : Int) ≤ IntKind.u64.wrap (IntKind.i64.wrap (7 * (k : Int))) := by rw [h7, u64_wrap (by omega) (by omega)]; omega
  conv => lhs; whnf
  repeat (first | refine go_in i0 ?_ | refine go_rd r0 ?_ | refine go_rd rb ?_ | refine go_D hD rfl ?_
          conv => lhs; whnf)
  have hbrk : (l[k].toNat = 0 ∧ 0 < k ∨ 1 < l[k].toNat ∧ k = 9) → ¬ (128 ≤ l[k].toNat ∧ k < 9) → vget l = none := fun h1 h2 => hG.bad hkl h2 h1
  refine split_dec (fun h128 => ?_) (fun h128 => ?_)
  · have h128 : 128 ≤ l[k].toNat := by
      have h : (128 : Int) ≤ (l[k].toNat : Int) := h128
      omega
    have hsub : IntKind.u8.wrap ((l[k].toNat : Int) - 128) = ((l[k].toNat - 128 : Nat) : Int) := by
      have h : IntKind.u8.wrap ((l[k].toNat : Int) - 128) = ((l[k].toNat : Int) - 128) % 256 := rfl
      rw [h]; omega
    have hG2 : (yIntInv A l r).G ((k + 1, IntKind.u64.wrap ((u : Int) + IntKind.u64.wrap (IntKind.u64.wrap (IntKind.u8.wrap ((l[k].toNat : Int) - 128)) * 2 ^ (min (IntKind.u64.wrap (IntKind.i64.wrap (7 * (k : Int)))).toNat IntKind.u64.bits)))) : Nat × Int) := by
      refine ⟨hkl, ?_⟩
      by_cases h9 : k < 9
      · refine .inl ⟨_, ?_, hG.next hkl h128 h9⟩
        rw [hsub, u64_wrap (n := ((l[k].toNat - 128 : Nat) : Int)) (by omega) (by omega), h7, u64_wrap (n := ((7 * k : Nat) : Int)) (by omega) (by omega), Int.toNat_natCast]
        exact shl_add hG.2.2.1 (by omega) hk9 (by omega)
      · refine .inr ⟨by show k + 1 = 10; omega, hbrk (.inr ⟨by omega, by omega⟩) (by omega)⟩
    conv => lhs; whnf
    repeat (first | refine go_in i0 ?_ | refine go_dec h70 ?_ | refine go_rd r0 ?_ | refine go_rd rb ?_ | refine go_D hD rfl ?_
            conv => lhs; whnf)
    exact (hD _).2 ⟨((k + 1, _) : Nat × Int), ⟨hG2, ⟨rfl, rfl, inc_slot (by omega), trivial⟩, trivial, rfl⟩, by show 10 - (k + 1) < 10 - k; omega, trivial, trivial⟩
  · have h128 : l[k].toNat < 128 := by
      have h : ¬ (128 : Int) ≤ (l[k].toNat : Int) := h128
      omega
    conv => lhs; whnf
    repeat (first | refine go_rd r0 ?_ | refine go_D hD rfl ?_
            conv => lhs; whnf)
    refine split_dec (fun q => absurd q (show ¬ (l.length : Int) ≤ (k : Int) by omega)) (fun _ => ?_)
    conv => lhs; whnf
    refine split_dec (fun q => absurd q (show ¬ (k : Int) = 10 by omega)) (fun _ => ?_)
    conv => lhs; whnf
    refine split_dec (fun q9 => ?_) (fun q9 => ?_)
    · have q9 : k = 9 := by
        have q9 : (k : Int) = 9 := q9
        omega
      conv => lhs; whnf
      repeat (first | refine go_in i0 ?_ | refine go_rd r0 ?_ | refine go_rd rb ?_ | refine go_D hD rfl ?_
              conv => lhs; whnf)
      refine split_dec (fun q1 => ?_) (fun q1 => ?_)
      · have q1 : 1 < l[k].toNat := by
          have q1 : (1 : Int) < (l[k].toNat : Int) := q1
          omega
        conv => lhs; whnf
        repeat (first | refine go_rd r0 ?_ | refine go_D hD rfl ?_
                conv => lhs; whnf)
        refine (hD _).2 ⟨(⟨r, st, Dr⟩ : RyG), ⟨rfl, hR⟩, fun v A1 hq => ?_⟩
        obtain ⟨hvv, k1, k2⟩ : v = .tuple #[] ∧ KeepR A A1 r ∧ RdG badF Dr A1 r none := hq
        subst hvv
        have hend := hbad (hbrk (.inr ⟨q1, q9⟩) (by omega)) A1 k1 k2
        conv => lhs; whnf
        repeat (first | refine go_D hD rfl ?_
                conv => lhs; whnf)
        exact (hD _).2 hend
      have q1 : ¬ 1 < l[k].toNat := by
        have q1 : ¬ (1 : Int) < (l[k].toNat : Int) := q1
        omega
      conv => lhs; whnf
      refine split_dec (fun _ => ?_) (fun q => absurd (show (0 : Int) < (k : Int) by omega) q)
      conv => lhs; whnf
      repeat (first | refine go_in i0 ?_ | refine go_rd r0 ?_ | refine go_rd rb ?_ | refine go_D hD rfl ?_
              conv => lhs; whnf)
      refine split_dec (fun q2 => ?_) (fun q2 => ?_)
      · have q2 : l[k].toNat = 0 := by
          have q2 : (l[k].toNat : Int) = 0 := q2
          omega
        conv => lhs; whnf
        repeat (first | refine go_rd r0 ?_ | refine go_D hD rfl ?_
                conv => lhs; whnf)
        refine (hD _).2 ⟨(⟨r, st, Dr⟩ : RyG), ⟨rfl, hR⟩, fun v A1 hq => ?_⟩
        obtain ⟨hvv, k1, k2⟩ : v = .tuple #[] ∧ KeepR A A1 r ∧ RdG badF Dr A1 r none := hq
        subst hvv
        have hend := hbad (hbrk (.inl ⟨q2, by omega⟩) (by omega)) A1 k1 k2
        conv => lhs; whnf
        repeat (first | refine go_D hD rfl ?_
                conv => lhs; whnf)
        exact (hD _).2 hend
      have q2 : l[k].toNat ≠ 0 := by
        have q2 : ¬ (l[k].toNat : Int) = 0 := q2
        omega
      have hdn := hG.done hkl (by omega) (by omega)
      obtain ⟨hv, c1, c2, c3⟩ := hdn
      have hU : IntKind.u64.wrap ((u : Int) + IntKind.u64.wrap (IntKind.u64.wrap (l[k].toNat : Int) * 2 ^ (min (IntKind.u64.wrap (IntKind.i64.wrap (7 * (k : Int)))).toNat IntKind.u64.bits))) = ((u + l[k].toNat * 128 ^ k : Nat) : Int) := by
        rw [hcw, h7, u64_wrap (n := ((7 * k : Nat) : Int)) (by omega) (by omega), Int.toNat_natCast]
        exact shl_add hG.2.2.1 c1 hk9 c2
      have hn1 : IntKind.i64.wrap ((k : Int) + 1) = ((k + 1 : Nat) : Int) := by rw [i64_in (by omega) (by omega)]; rfl
      have hb2 : ((decide ((0 : Int) ≤ IntKind.i64.wrap ((k : Int) + 1)) && decide (IntKind.i64.wrap ((k : Int) + 1) ≤ (l.length : Int))) && (true || decide ((l.length : Int) ≤ (c : Int)))) = true := by
        rw [hn1]
        simp only [Bool.and_eq_true, Bool.or_eq_true, decide_eq_true_iff]
        omega
      conv => lhs; whnf
      repeat (first | refine go_in i0 ?_ | refine go_dec h70 ?_ | refine go_rd r0 ?_ | refine go_rd rb ?_ | refine go_D hD rfl ?_
              conv => lhs; whnf)
      refine go_b hb2 ?_
      conv => lhs; whnf
      repeat (first | refine go_rd r0 ?_ | refine go_D hD rfl ?_
              conv => lhs; whnf)
      refine (hD _).2 ⟨htop.room (by show 0 + 1 ≤ 2; omega), fun A1 hP => ?_⟩
      have hP : A.Put A1 r 0 [.slice (some ⟨gx, ox + (bif c.beq (IntKind.i64.wrap ((k : Int) + 1)).toNat then 0 else (IntKind.i64.wrap ((k : Int) + 1)).toNat * 1), none⟩) (l.length - (IntKind.i64.wrap ((k : Int) + 1)).toNat) (c - (IntKind.i64.wrap ((k : Int) + 1)).toNat)] := hP
      rw [hn1, Int.toNat_natCast] at hP
      have hsome : st = some l := by
        cases st with
        | none =>
          have e : l = [] := hl
          rw [e] at hkl
          exact absurd hkl (Nat.not_lt_zero _)
        | some l' => rw [hl]; rfl
      have hrest := RdG.rest (f := badF) htop hDs hDr hSl0 (n := k + 1) (by omega) (by omega) (by rw [hsome]; rfl) hP
      have hpi : pInt st = (zag (u + l[k].toNat * 128 ^ k), some (l.drop (k + 1))) := by
        rw [hsome]
        show (match vget l with
          | some (n, r) => (n, some r)
          | none => (0, none)) = _
        rw [hv]
      have hend : ∀ x : Int, x = zag (u + l[k].toNat * 128 ^ k) → yIntS.post ⟨r, st, Dr⟩ [] A (.int .i64 x) A1 := fun x hx => by
        show Value.int .i64 x = .int .i64 (pInt st).1 ∧ KeepR A A1 r ∧ RdG badF Dr A1 r (pInt st).2
        rw [hpi, hx]
        exact ⟨rfl, hrest⟩
      have hodd : ∀ U : Int, U = ((u + l[k].toNat * 128 ^ k : Nat) : Int) → U.tmod 2 = 1 → IntKind.i64.wrap (IntKind.i64.wrap (0 - IntKind.i64.wrap (IntKind.u64.wrap (U.tdiv 2))) - 1) = zag (u + l[k].toNat * 128 ^ k) := fun U h h1 => by
        rw [h] at h1 ⊢
        exact zag_ref_odd c3 h1
      have heven : ∀ U : Int, U = ((u + l[k].toNat * 128 ^ k : Nat) : Int) → ¬ U.tmod 2 = 1 → IntKind.i64.wrap (IntKind.u64.wrap (U.tdiv 2)) = zag (u + l[k].toNat * 128 ^ k) := fun U h h1 => by
        rw [h] at h1 ⊢
        exact zag_ref_even c3 h1
      conv => lhs; whnf
      repeat (first | refine go_D hD rfl ?_
              conv => lhs; whnf)
      refine split_dec (fun hm => ?_) (fun hm => ?_)
      · conv => lhs; whnf
        exact (hD _).2 (hend _ (hodd _ hU hm))
      · conv => lhs; whnf
        exact (hD _).2 (hend _ (heven _ hU hm))
    · have q9 : k ≠ 9 := by
        have q9 : ¬ (k : Int) = 9 := q9
        omega
      conv => lhs; whnf
      refine split_dec (fun q0 => ?_) (fun q0 => ?_)
      · have q0 : 0 < k := by
          have q0 : (0 : Int) < (k : Int) := q0
          omega
        conv => lhs; whnf
        repeat (first | refine go_in i0 ?_ | refine go_rd r0 ?_ | refine go_rd rb ?_ | refine go_D hD rfl ?_
                conv => lhs; whnf)
        refine split_dec (fun q2 => ?_) (fun q2 => ?_)
        · have q2 : l[k].toNat = 0 := by
            have q2 : (l[k].toNat : Int) = 0 := q2
            omega
          conv => lhs; whnf
          repeat (first | refine go_rd r0 ?_ | refine go_D hD rfl ?_
                  conv => lhs; whnf)
          refine (hD _).2 ⟨(⟨r, st, Dr⟩ : RyG), ⟨rfl, hR⟩, fun v A1 hq => ?_⟩
          obtain ⟨hvv, k1, k2⟩ : v = .tuple #[] ∧ KeepR A A1 r ∧ RdG badF Dr A1 r none := hq
          subst hvv
          have hend := hbad (hbrk (.inl ⟨q2, q0⟩) (by omega)) A1 k1 k2
          conv => lhs; whnf
          repeat (first | refine go_D hD rfl ?_
                  conv => lhs; whnf)
          exact (hD _).2 hend
        have q2 : l[k].toNat ≠ 0 := by
          have q2 : ¬ (l[k].toNat : Int) = 0 := q2
          omega
        have hdn := hG.done hkl (by omega) (by omega)
        obtain ⟨hv, c1, c2, c3⟩ := hdn
        have hU : IntKind.u64.wrap ((u : Int) + IntKind.u64.wrap (IntKind.u64.wrap (l[k].toNat : Int) * 2 ^ (min (IntKind.u64.wrap (IntKind.i64.wrap (7 * (k : Int)))).toNat IntKind.u64.bits))) = ((u + l[k].toNat * 128 ^ k : Nat) : Int) := by
          rw [hcw, h7, u64_wrap (n := ((7 * k : Nat) : Int)) (by omega) (by omega), Int.toNat_natCast]
          exact shl_add hG.2.2.1 c1 hk9 c2
        have hn1 : IntKind.i64.wrap ((k : Int) + 1) = ((k + 1 : Nat) : Int) := by rw [i64_in (by omega) (by omega)]; rfl
        have hb2 : ((decide ((0 : Int) ≤ IntKind.i64.wrap ((k : Int) + 1)) && decide (IntKind.i64.wrap ((k : Int) + 1) ≤ (l.length : Int))) && (true || decide ((l.length : Int) ≤ (c : Int)))) = true := by
          rw [hn1]
          simp only [Bool.and_eq_true, Bool.or_eq_true, decide_eq_true_iff]
          omega
        conv => lhs; whnf
        repeat (first | refine go_in i0 ?_ | refine go_dec h70 ?_ | refine go_rd r0 ?_ | refine go_rd rb ?_ | refine go_D hD rfl ?_
                conv => lhs; whnf)
        refine go_b hb2 ?_
        conv => lhs; whnf
        repeat (first | refine go_rd r0 ?_ | refine go_D hD rfl ?_
                conv => lhs; whnf)
        refine (hD _).2 ⟨htop.room (by show 0 + 1 ≤ 2; omega), fun A1 hP => ?_⟩
        have hP : A.Put A1 r 0 [.slice (some ⟨gx, ox + (bif c.beq (IntKind.i64.wrap ((k : Int) + 1)).toNat then 0 else (IntKind.i64.wrap ((k : Int) + 1)).toNat * 1), none⟩) (l.length - (IntKind.i64.wrap ((k : Int) + 1)).toNat) (c - (IntKind.i64.wrap ((k : Int) + 1)).toNat)] := hP
        rw [hn1, Int.toNat_natCast] at hP
        have hsome : st = some l := by
          cases st with
          | none =>
            have e : l = [] := hl
            rw [e] at hkl
            exact absurd hkl (Nat.not_lt_zero _)
          | some l' => rw [hl]; rfl
        have hrest := RdG.rest (f := badF) htop hDs hDr hSl0 (n := k + 1) (by omega) (by omega) (by rw [hsome]; rfl) hP
        have hpi : pInt st = (zag (u + l[k].toNat * 128 ^ k), some (l.drop (k + 1))) := by
          rw [hsome]
          show (match vget l with
            | some (n, r) => (n, some r)
            | none => (0, none)) = _
          rw [hv]
        have hend : ∀ x : Int, x = zag (u + l[k].toNat * 128 ^ k) → yIntS.post ⟨r, st, Dr⟩ [] A (.int .i64 x) A1 := fun x hx => by
          show Value.int .i64 x = .int .i64 (pInt st).1 ∧ KeepR A A1 r ∧ RdG badF Dr A1 r (pInt st).2
          rw [hpi, hx]
          exact ⟨rfl, hrest⟩
        have hodd : ∀ U : Int, U = ((u + l[k].toNat * 128 ^ k : Nat) : Int) → U.tmod 2 = 1 → IntKind.i64.wrap (IntKind.i64.wrap (0 - IntKind.i64.wrap (IntKind.u64.wrap (U.tdiv 2))) - 1) = zag (u + l[k].toNat * 128 ^ k) := fun U h h1 => by
          rw [h] at h1 ⊢
          exact zag_ref_odd c3 h1
        have heven : ∀ U : Int, U = ((u + l[k].toNat * 128 ^ k : Nat) : Int) → ¬ U.tmod 2 = 1 → IntKind.i64.wrap (IntKind.u64.wrap (U.tdiv 2)) = zag (u + l[k].toNat * 128 ^ k) := fun U h h1 => by
          rw [h] at h1 ⊢
          exact zag_ref_even c3 h1
        conv => lhs; whnf
        repeat (first | refine go_D hD rfl ?_
                conv => lhs; whnf)
        refine split_dec (fun hm => ?_) (fun hm => ?_)
        · conv => lhs; whnf
          exact (hD _).2 (hend _ (hodd _ hU hm))
        · conv => lhs; whnf
          exact (hD _).2 (hend _ (heven _ hU hm))
      · have q0 : k = 0 := by
          have q0 : ¬ (0 : Int) < (k : Int) := q0
          omega
        have hdn := hG.done hkl (by omega) (by omega)
        obtain ⟨hv, c1, c2, c3⟩ := hdn
        have hU : IntKind.u64.wrap ((u : Int) + IntKind.u64.wrap (IntKind.u64.wrap (l[k].toNat : Int) * 2 ^ (min (IntKind.u64.wrap (IntKind.i64.wrap (7 * (k : Int)))).toNat IntKind.u64.bits))) = ((u + l[k].toNat * 128 ^ k : Nat) : Int) := by
          rw [hcw, h7, u64_wrap (n := ((7 * k : Nat) : Int)) (by omega) (by omega), Int.toNat_natCast]
          exact shl_add hG.2.2.1 c1 hk9 c2
        have hn1 : IntKind.i64.wrap ((k : Int) + 1) = ((k + 1 : Nat) : Int) := by rw [i64_in (by omega) (by omega)]; rfl
        have hb2 : ((decide ((0 : Int) ≤ IntKind.i64.wrap ((k : Int) + 1)) && decide (IntKind.i64.wrap ((k : Int) + 1) ≤ (l.length : Int))) && (true || decide ((l.length : Int) ≤ (c : Int)))) = true := by
          rw [hn1]
          simp only [Bool.and_eq_true, Bool.or_eq_true, decide_eq_true_iff]
          omega
        conv => lhs; whnf
        repeat (first | refine go_in i0 ?_ | refine go_dec h70 ?_ | refine go_rd r0 ?_ | refine go_rd rb ?_ | refine go_D hD rfl ?_
                conv => lhs; whnf)
        refine go_b hb2 ?_
        conv => lhs; whnf
        repeat (first | refine go_rd r0 ?_ | refine go_D hD rfl ?_
                conv => lhs; whnf)
        refine (hD _).2 ⟨htop.room (by show 0 + 1 ≤ 2; omega), fun A1 hP => ?_⟩
        have hP : A.Put A1 r 0 [.slice (some ⟨gx, ox + (bif c.beq (IntKind.i64.wrap ((k : Int) + 1)).toNat then 0 else (IntKind.i64.wrap ((k : Int) + 1)).toNat * 1), none⟩) (l.length - (IntKind.i64.wrap ((k : Int) + 1)).toNat) (c - (IntKind.i64.wrap ((k : Int) + 1)).toNat)] := hP
        rw [hn1, Int.toNat_natCast] at hP
        have hsome : st = some l := by
          cases st with
          | none =>
            have e : l = [] := hl
            rw [e] at hkl
            exact absurd hkl (Nat.not_lt_zero _)
          | some l' => rw [hl]; rfl
        have hrest := RdG.rest (f := badF) htop hDs hDr hSl0 (n := k + 1) (by omega) (by omega) (by rw [hsome]; rfl) hP
        have hpi : pInt st = (zag (u + l[k].toNat * 128 ^ k), some (l.drop (k + 1))) := by
          rw [hsome]
          show (match vget l with
            | some (n, r) => (n, some r)
            | none => (0, none)) = _
          rw [hv]
        have hend : ∀ x : Int, x = zag (u + l[k].toNat * 128 ^ k) → yIntS.post ⟨r, st, Dr⟩ [] A (.int .i64 x) A1 := fun x hx => by
          show Value.int .i64 x = .int .i64 (pInt st).1 ∧ KeepR A A1 r ∧ RdG badF Dr A1 r (pInt st).2
          rw [hpi, hx]
          exact ⟨rfl, hrest⟩
        have hodd : ∀ U : Int, U = ((u + l[k].toNat * 128 ^ k : Nat) : Int) → U.tmod 2 = 1 → IntKind.i64.wrap (IntKind.i64.wrap (0 - IntKind.i64.wrap (IntKind.u64.wrap (U.tdiv 2))) - 1) = zag (u + l[k].toNat * 128 ^ k) := fun U h h1 => by
          rw [h] at h1 ⊢
          exact zag_ref_odd c3 h1
        have heven : ∀ U : Int, U = ((u + l[k].toNat * 128 ^ k : Nat) : Int) → ¬ U.tmod 2 = 1 → IntKind.i64.wrap (IntKind.u64.wrap (U.tdiv 2)) = zag (u + l[k].toNat * 128 ^ k) := fun U h h1 => by
          rw [h] at h1 ⊢
          exact zag_ref_even c3 h1
        conv => lhs; whnf
        repeat (first | refine go_D hD rfl ?_
                conv => lhs; whnf)
        refine split_dec (fun hm => ?_) (fun hm => ?_)
        · conv => lhs; whnf
          exact (hD _).2 (hend _ (hodd _ hU hm))
        · conv => lhs; whnf
          exact (hD _).2 (hend _ (heven _ hU hm))

end
end Go.Proofs.YthbaimobihmhiaaGreatDoor

namespace Go.Proofs.YthbaimobihmhiaaGreatDoor
open Go.Sx Go.RowKit
noncomputable section
open Classical

theorem yIntC : CTSound Tryz.prog (lookC [specE 73 yFailS, specE 52 yIntS] noC) := lookC_sound (noC_sound _) (fun x hx => by
  simp only [List.mem_cons, List.not_mem_nil, or_false] at hx
  rcases hx with rfl | rfl
  · exact specE_ok yFail_ok
  · exact specE_ok yInt_ok)

def yCountS : FSpec := ⟨RyG × Int, fun g vs A => vs = [.pointer (some ⟨g.1.r, 0, none⟩), .int .i64 g.2] ∧ RdG badF g.1.B A g.1.r g.1.st ∧ stLen g.1.st ≤ 900000000 ∧ 0 ≤ g.2 ∧ g.2 ≤ 900000000,
  fun g _ A v A' => v = .int .i64 (pCount g.2 g.1.st).1 ∧ KeepR A A' g.1.r ∧ RdG badF g.1.B A' g.1.r (pCount g.2 g.1.st).2⟩

set_option maxRecDepth 100000 in
set_option maxHeartbeats 0 in
theorem yCount_ok : FOk Tryz.prog 49 yCountS := by
  refine fok_v mixed fun ⟨⟨r, st, Dr⟩, most⟩ vs A hp => ?_
  obtain ⟨rfl, hR, hlen, hm0, hm1⟩ : vs = [.pointer (some ⟨r, 0, none⟩), .int .i64 most] ∧ RdG badF Dr A r st ∧ stLen st ≤ 900000000 ∧ 0 ≤ most ∧ most ≤ 900000000 := hp
  refine ⟨_, noL, 60, yIntC, noL_sound _, fun blk os out tape D hD => ?_⟩
  have hin := pInt_in st
  have hbad : ((pInt st).1 < 0 ∨ most < (pInt st).1) → ∀ A1, KeepR A A1 r → RdG badF Dr A1 r none → yCountS.post (⟨r, st, Dr⟩, most) [] A (.int .i64 0) A1 := fun h A1 h1 h2 => by
    show Value.int .i64 0 = .int .i64 (pCount most st).1 ∧ KeepR A A1 r ∧ RdG badF Dr A1 r (pCount most st).2
    have e : pCount most st = (0, none) := if_pos h
    rw [e]
    exact ⟨rfl, h1, h2⟩
  have hgood : ¬ ((pInt st).1 < 0 ∨ most < (pInt st).1) → ∀ A1, KeepR A A1 r → RdG badF Dr A1 r (pInt st).2 → yCountS.post (⟨r, st, Dr⟩, most) [] A (.int .i64 (pInt st).1) A1 := fun h A1 h1 h2 => by
    show Value.int .i64 (pInt st).1 = .int .i64 (pCount most st).1 ∧ KeepR A A1 r ∧ RdG badF Dr A1 r (pCount most st).2
    have e : pCount most st = pInt st := if_neg h
    rw [e]
    exact ⟨rfl, h1, h2⟩
  conv => lhs; whnf
  refine (hD _).2 ⟨(⟨r, st, Dr⟩ : RyG), ⟨rfl, hR, hlen⟩, fun v A1 hq => ?_⟩
  obtain ⟨hv, k1, k2⟩ : v = .int .i64 (pInt st).1 ∧ KeepR A A1 r ∧ RdG badF Dr A1 r (pInt st).2 := hq
  generalize (pInt st).1 = n at *
  subst hv
  conv => lhs; whnf
  refine split_dec (fun h0 => ?_) (fun h0 => ?_)
  · conv => lhs; whnf
    refine (hD _).2 ⟨(⟨r, (pInt st).2, Dr⟩ : RyG), ⟨rfl, k2⟩, fun v A2 hq => ?_⟩
    obtain ⟨hv, j1, j2⟩ : v = .tuple #[] ∧ KeepR A1 A2 r ∧ RdG badF Dr A2 r none := hq
    subst hv
    have hend := hbad (.inl h0) A2 (k1.trans j1) j2
    conv => lhs; whnf
    repeat (first | refine go_D hD rfl ?_
            conv => lhs; whnf)
    exact (hD _).2 hend
  conv => lhs; whnf
  refine split_dec (fun h1 => ?_) (fun h1 => ?_)
  · conv => lhs; whnf
    refine (hD _).2 ⟨(⟨r, (pInt st).2, Dr⟩ : RyG), ⟨rfl, k2⟩, fun v A2 hq => ?_⟩
    obtain ⟨hv, j1, j2⟩ : v = .tuple #[] ∧ KeepR A1 A2 r ∧ RdG badF Dr A2 r none := hq
    subst hv
    have hend := hbad (.inr h1) A2 (k1.trans j1) j2
    conv => lhs; whnf
    repeat (first | refine go_D hD rfl ?_
            conv => lhs; whnf)
    exact (hD _).2 hend
  have hend := hgood (fun h => h.elim h0 h1) A1 k1 k2
  conv => lhs; whnf
  repeat (first | refine go_D hD rfl ?_
          conv => lhs; whnf)
  exact (hD _).2 hend

/-! ### Text -/

theorem pText_bad {most : Int} {st : RdSt} (h : (pInt st).1 < 0 ∨ most < (pInt st).1 ∨ ((stL (pInt st).2).length : Int) < (pInt st).1) : pText most st = ([], none) := by
  unfold pText
  by_cases h2 : (pInt st).1 < 0 ∨ most < (pInt st).1
  · have e : pCount most st = (0, none) := if_pos h2
    rw [e]
  · have e : pCount most st = pInt st := if_neg h2
    rw [e]
    have h3 : ((stL (pInt st).2).length : Int) < (pInt st).1 := by
      rcases h with h | h | h
      · exact absurd (.inl h) h2
      · exact absurd (.inr h) h2
      · exact h
    cases h4 : (pInt st).2 with
    | none => rfl
    | some l =>
      rw [h4] at h3
      have h3 : (l.length : Int) < (pInt st).1 := h3
      exact if_neg (by omega)

theorem pText_good {most : Int} {st : RdSt} {l : List UInt8} {k : Nat} (h1 : (pInt st).1 = k) (h2 : (k : Int) ≤ most) (h3 : (pInt st).2 = some l) (h4 : k ≤ l.length) : pText most st = (l.take k, some (l.drop k)) := by
  have e : pCount most st = pInt st := if_neg (by omega)
  unfold pText
  rw [e, h3]
  have hk : (pInt st).1.toNat = k := by rw [h1]; exact Int.toNat_natCast k
  show (if (pInt st).1.toNat ≤ l.length then (l.take (pInt st).1.toNat, some (l.drop (pInt st).1.toNat)) else ([], none)) = _
  rw [hk, if_pos h4]

theorem pText_none {most : Int} {st : RdSt} (h0 : 0 ≤ most) (h : (pInt st).2 = none) : pText most st = ([], none) := by
  have e : pCount most st = pInt st := if_neg (by rw [pInt_bad h]; omega)
  unfold pText
  rw [e, h]

def yTextS : FSpec := ⟨RyG × Int, yCountS.pre, fun g _ A v A' => v = .string ⟨(pText g.2 g.1.st).1.toArray⟩ ∧ KeepR A A' g.1.r ∧ RdG badF g.1.B A' g.1.r (pText g.2 g.1.st).2⟩

set_option maxRecDepth 100000 in
set_option maxHeartbeats 0 in
theorem yText_ok : FOk Tryz.prog 74 yTextS := by
  refine fok_v mixed fun ⟨⟨r, st, Dr⟩, most⟩ vs A hp => ?_
  obtain ⟨rfl, hR, hlen, hm0, hm1⟩ : vs = [.pointer (some ⟨r, 0, none⟩), .int .i64 most] ∧ RdG badF Dr A r st ∧ stLen st ≤ 900000000 ∧ 0 ≤ most ∧ most ≤ 900000000 := hp
  refine ⟨_, noL, 60, yIntC, noL_sound _, fun blk os out tape D hD => ?_⟩
  have hin := pInt_in st
  have hbadT := fun h => pText_bad (most := most) (st := st) h
  have hgoodT := fun l k h1 h2 h3 h4 => pText_good (most := most) (st := st) (l := l) (k := k) h1 h2 h3 h4
  have hnoneT := fun h => pText_none (most := most) (st := st) hm0 h
  have hpb := fun h => pInt_bad (s := st) h
  have hbad : pText most st = ([], none) → ∀ A1, KeepR A A1 r → RdG badF Dr A1 r none → yTextS.post (⟨r, st, Dr⟩, most) [] A (.string ⟨#[]⟩) A1 := fun e A1 h1 h2 => by
    show Value.string ⟨#[]⟩ = .string ⟨(pText most st).1.toArray⟩ ∧ KeepR A A1 r ∧ RdG badF Dr A1 r (pText most st).2
    rw [e]
    exact ⟨rfl, h1, h2⟩
  conv => lhs; whnf
  refine (hD _).2 ⟨(⟨r, st, Dr⟩ : RyG), ⟨rfl, hR, hlen⟩, fun v A1 hq => ?_⟩
  obtain ⟨hv, k1, k2⟩ : v = .int .i64 (pInt st).1 ∧ KeepR A A1 r ∧ RdG badF Dr A1 r (pInt st).2 := hq
  generalize (pInt st).1 = n at *
  generalize (pInt st).2 = s2 at *
  subst hv
  have hK2 := k2
  obtain ⟨v, htop, hDs, hDr, hSl, hnil⟩ := hK2
  obtain ⟨l, hl⟩ : ∃ l, l = stL s2 := ⟨_, rfl⟩
  rw [← hl] at hSl hbadT
  have hSl0 := hSl
  obtain ⟨ao, c, rfl, hc, -, ha1, ha2, ha3⟩ := hSl
  have r0 : A1.rd r 0 1 = some [.slice ao l.length c] := htop.rd (o := 0) (n := 1) (by show 0 + 1 ≤ 2; omega)
  have hFAIL : ∀ (K : Unit), pText most st = ([], none) → True := fun _ _ => trivial
  clear hFAIL
  conv => lhs; whnf
  refine split_dec (fun h0 => ?_) (fun h0 => ?_)
  · have hT := hbadT (.inl h0)
    conv => lhs; whnf
    refine (hD _).2 ⟨(⟨r, s2, Dr⟩ : RyG), ⟨rfl, k2⟩, fun v A2 hq => ?_⟩
    obtain ⟨hvv, j1, j2⟩ : v = .tuple #[] ∧ KeepR A1 A2 r ∧ RdG badF Dr A2 r none := hq
    subst hvv
    have hend := hbad hT A2 (k1.trans j1) j2
    conv => lhs; whnf
    repeat (first | refine go_D hD rfl ?_
            conv => lhs; whnf)
    exact (hD _).2 hend
  conv => lhs; whnf
  refine split_dec (fun h1 => ?_) (fun h1 => ?_)
  · have hT := hbadT (.inr (.inl h1))
    conv => lhs; whnf
    refine (hD _).2 ⟨(⟨r, s2, Dr⟩ : RyG), ⟨rfl, k2⟩, fun v A2 hq => ?_⟩
    obtain ⟨hvv, j1, j2⟩ : v = .tuple #[] ∧ KeepR A1 A2 r ∧ RdG badF Dr A2 r none := hq
    subst hvv
    have hend := hbad hT A2 (k1.trans j1) j2
    conv => lhs; whnf
    repeat (first | refine go_D hD rfl ?_
            conv => lhs; whnf)
    exact (hD _).2 hend
  conv => lhs; whnf
  repeat (first | refine go_rd r0 ?_ | refine go_D hD rfl ?_
          conv => lhs; whnf)
  refine split_dec (fun h2 => ?_) (fun h2 => ?_)
  · have hT := hbadT (.inr (.inr h2))
    conv => lhs; whnf
    refine (hD _).2 ⟨(⟨r, s2, Dr⟩ : RyG), ⟨rfl, k2⟩, fun v A2 hq => ?_⟩
    obtain ⟨hvv, j1, j2⟩ : v = .tuple #[] ∧ KeepR A1 A2 r ∧ RdG badF Dr A2 r none := hq
    subst hvv
    have hend := hbad hT A2 (k1.trans j1) j2
    conv => lhs; whnf
    repeat (first | refine go_D hD rfl ?_
            conv => lhs; whnf)
    exact (hD _).2 hend
  obtain ⟨k, rfl⟩ : ∃ k : Nat, n = k := ⟨n.toNat, by omega⟩
  have hk : k ≤ l.length := by
    have h2 : ¬ (l.length : Int) < (k : Int) := h2
    omega
  have hkm : (k : Int) ≤ most := by
    have h1 : ¬ most < (k : Int) := h1
    omega
  have ht := Sl.tail hSl0 hk
  obtain ⟨-, -, hT, hpos, hzero⟩ := ht
  by_cases hc0 : c = 0
  · have hl0 := hzero hc0
    have hk0 : k = 0 := by
      rw [hl0] at hk
      exact Nat.le_zero.1 hk
    have hpt : pText most st = ([], s2) := by
      cases s2 with
      | none => exact hnoneT rfl
      | some l' =>
        have e : l = l' := hl
        have h9 := hgoodT l' 0 (by rw [hk0]) hm0 rfl (Nat.zero_le _)
        rw [h9, ← e, hl0]
        rfl
    have hend : ∀ (ao' : Option Addr) (A2 : Arena), A1.Put A2 r 0 [.slice ao' 0 0] → (s2 = none → ao' = none) → yTextS.post (⟨r, st, Dr⟩, most) [] A (.string ⟨#[]⟩) A2 := fun ao' A2 hP hn => by
      show Value.string ⟨#[]⟩ = .string ⟨(pText most st).1.toArray⟩ ∧ KeepR A A2 r ∧ RdG badF Dr A2 r (pText most st).2
      rw [hpt]
      have t2 : CellsAt A2 r [.slice ao' 0 0, .bool (badF s2)] := htop.put hP (by show 0 + 1 ≤ 2; omega)
      refine ⟨rfl, k1.trans (KeepR.put hP), _, t2, hP.sub hDs hDr, hDr, ?_, fun e => by rw [hn e]⟩
      rw [← hl, hl0]
      exact Sl.zero _ _ (fun _ => rfl) fun _ _ h => absurd h (Nat.lt_irrefl _)
    have hnn : s2 = none → ao = none := fun e => by
      have h9 := hnil e
      injection h9 with h9
    subst hk0
    subst hc0
    subst hl0
    rcases ao with _ | ⟨g, o, _ | sp⟩
    all_goals
      conv => lhs; whnf
      repeat (first | refine go_rd r0 ?_ | refine go_D hD rfl ?_
              conv => lhs; whnf)
      refine (hD _).2 ⟨htop.room (by show 0 + 1 ≤ 2; omega), fun A2 hP => ?_⟩
      have hend2 := fun ao' (hP : A1.Put A2 r 0 [.slice ao' 0 0]) (h : s2 = none → ao' = none) => hend ao' A2 hP h
      conv => lhs; whnf
      repeat (first | refine go_D hD rfl ?_
              conv => lhs; whnf)
      exact (hD _).2 (hend2 _ hP hnn)
  · obtain ⟨g, o, rfl, hD2⟩ := hpos (by omega)
    have hsome : s2 = some l := by
      cases s2 with
      | none =>
        have h9 := hnil rfl
        injection h9 with h9
        cases h9
      | some l' => rw [hl]; rfl
    subst hsome
    have hpt := hgoodT l k rfl hkm rfl hk
    have htop : CellsAt A1 r [.slice (some ⟨g, o, none⟩) l.length c, .bool false] := htop
    have hb1 : ((decide ((0 : Int) ≤ 0) && decide ((0 : Int) ≤ (k : Int))) && (false || decide ((k : Int) ≤ (c : Int)))) = true := by
      simp only [Bool.and_eq_true, Bool.or_eq_true, decide_eq_true_iff]
      omega
    have hb2 : ((decide ((0 : Int) ≤ (k : Int)) && decide ((k : Int) ≤ (l.length : Int))) && (true || decide ((l.length : Int) ≤ (c : Int)))) = true := by
      simp only [Bool.and_eq_true, Bool.or_eq_true, decide_eq_true_iff]
      omega
    have hend : ∀ A2 : Arena, A1.Put A2 r 0 [.slice (some ⟨g, o + (bif c.beq k then 0 else k * 1), none⟩) (l.length - k) (c - k)] → yTextS.post (⟨r, st, Dr⟩, most) [] A (.string ⟨(l.take k).toArray⟩) A2 := fun A2 hP => by
      have hrest := RdG.rest (f := badF) htop hDs hDr hSl0 (n := k) hk (by omega) rfl hP
      show Value.string ⟨(l.take k).toArray⟩ = .string ⟨(pText most st).1.toArray⟩ ∧ KeepR A A2 r ∧ RdG badF Dr A2 r (pText most st).2
      rw [hpt]
      exact ⟨rfl, k1.trans hrest.1, hrest.2⟩
    have e8 : (bif c.beq (Int.toNat 0) then 0 else Int.toNat 0 * 1) = 0 := by cases c.beq (Int.toNat 0) <;> rfl
    have htl : (l.take k).length = k := by rw [List.length_take, Nat.min_eq_left hk]
    generalize hs : l.take k = s at *
    obtain ⟨_, _, e9, -, -, -, -, hb3⟩ := hT
    injection e9 with e9
    subst e9
    by_cases hk0 : k = 0
    · subst hk0
      have hs0 : s = [] := List.length_eq_zero_iff.1 htl
      subst hs0
      conv => lhs; whnf
      repeat (first | refine go_rd r0 ?_ | refine go_D hD rfl ?_
              conv => lhs; whnf)
      refine (hD _).2 ⟨htop.room (by show 0 + 1 ≤ 2; omega), fun A2 hP => ?_⟩
      have hend2 := hend A2 hP
      conv => lhs; whnf
      repeat (first | refine go_D hD rfl ?_
              conv => lhs; whnf)
      exact (hD _).2 hend2
    · have hra : A1.rd g (o + (bif c.beq (Int.toNat 0) then 0 else Int.toNat 0 * 1)) k = some (s.map bv) := by
        rw [e8]
        have h9 := rd_sub hDs (hb3 (by omega) _ rfl)
        rw [Nat.mul_one] at h9
        exact h9
      have hz : Nat.beq k 0 = false := nbeq_ne hk0
      conv => lhs; whnf
      repeat (first | refine go_rd r0 ?_ | refine go_D hD rfl ?_
              conv => lhs; whnf)
      refine go_b hb1 ?_
      conv => lhs; whnf
      repeat (first | refine go_rd r0 ?_ | refine go_D hD rfl ?_
              conv => lhs; whnf)
      refine split_b (fun h => absurd (hz.symm.trans h) Bool.false_ne_true) (fun _ => ?_)
      conv => lhs; whnf
      repeat (first | refine go_rd hra ?_ | refine go_by (bytesVs_u8 s) ?_ | refine go_rd r0 ?_ | refine go_D hD rfl ?_
              conv => lhs; whnf)
      refine go_b hb2 ?_
      conv => lhs; whnf
      repeat (first | refine go_rd r0 ?_ | refine go_D hD rfl ?_
              conv => lhs; whnf)
      refine (hD _).2 ⟨htop.room (by show 0 + 1 ≤ 2; omega), fun A2 hP => ?_⟩
      have hend2 := hend A2 hP
      conv => lhs; whnf
      repeat (first | refine go_D hD rfl ?_
              conv => lhs; whnf)
      exact (hD _).2 hend2

/-! ### Bytes -/

def yBytesS : FSpec := ⟨RyG × Int, yCountS.pre, fun g _ A v A' => SlB (A'.minus A) v (pText g.2 g.1.st).1 ∧ KeepR A A' g.1.r ∧ RdG badF g.1.B A' g.1.r (pText g.2 g.1.st).2⟩

set_option maxRecDepth 100000 in
set_option maxHeartbeats 0 in
theorem yBytes_ok : FOk Tryz.prog 54 yBytesS := by
  refine fok_v mixed fun ⟨⟨r, st, Dr⟩, most⟩ vs A hp => ?_
  obtain ⟨rfl, hR, hlen, hm0, hm1⟩ : vs = [.pointer (some ⟨r, 0, none⟩), .int .i64 most] ∧ RdG badF Dr A r st ∧ stLen st ≤ 900000000 ∧ 0 ≤ most ∧ most ≤ 900000000 := hp
  have hC : CTSound Tryz.prog (lookC [specE 74 yTextS] noC) := lookC_sound (noC_sound _) (fun x hx => by
    simp only [List.mem_singleton] at hx
    subst hx
    exact specE_ok yText_ok)
  refine ⟨_, noL, 60, hC, noL_sound _, fun blk os out tape D hD => ?_⟩
  have htl := (pText_len most st).2
  conv => lhs; whnf
  refine (hD _).2 ⟨((⟨r, st, Dr⟩, most) : RyG × Int), ⟨rfl, hR, hlen, hm0, hm1⟩, fun v A1 hq => ?_⟩
  obtain ⟨hv, k1, k2⟩ : v = .string ⟨(pText most st).1.toArray⟩ ∧ KeepR A A1 r ∧ RdG badF Dr A1 r (pText most st).2 := hq
  subst hv
  have hfin : ∀ (g cap : Nat) (A2 : Arena) (cc : Array Value) (zs : List Value) (e : TypeId), (pText most st).1.length ≤ cap → cc.toList = (pText most st).1.map (fun b => Value.int .u8 b.toNat) ++ zs → zs.length = cap - (pText most st).1.length → A1.blk g = none → A2.blk g = some (.cells cc e (cc.size, cc.size + 1)) → (∀ k, k ≠ g → A2.blk k = A1.blk k) →
      yBytesS.post (⟨r, st, Dr⟩, most) [] A (.slice (some ⟨g, 0, none⟩) (pText most st).1.length cap) A2 := fun g cap A2 cc zs e h1 h2 h3 h4 h5 h6 => by
    have hs : A1.Sub A2 := fun k o hk => by rw [h6 k fun e => by rw [e, h4] at hk; cases hk]; exact hk
    have hsz : cc.size = cap := by
      rw [← Array.length_toList, h2, List.length_append, List.length_map, h3]
      omega
    have hrd : A2.rd g 0 ((pText most st).1.length * 1) = some ((pText most st).1.map bv) := by
      rw [rd_mk h5 (by rw [hsz]; omega), h2, List.drop_zero, Nat.mul_one, List.take_left' (by rw [List.length_map])]
      rfl
    have hnew : SlB (A2.minus A1) (.slice (some ⟨g, 0, none⟩) (pText most st).1.length cap) (pText most st).1 := ⟨Sl.row h1 (rd_minus hrd h4), by omega⟩
    exact ⟨hnew.sub (minus_keep k1 k2.live2), k1.trans (KeepR.of_sub hs r), k2.keep hs⟩
  clear htl
  generalize (pText most st).1 = s at *
  conv => lhs; whnf
  repeat (first | refine go_D hD rfl ?_
          conv => lhs; whnf)
  refine (hD _).2 fun g cap A2 cc zs h1 h2 h3 h4 h5 h6 => ?_
  have hend := hfin g cap A2 cc zs _ h1 h2 h3 h4 h5 h6
  conv => lhs; whnf
  repeat (first | refine go_D hD rfl ?_
          conv => lhs; whnf)
  exact (hD _).2 hend

end
end Go.Proofs.YthbaimobihmhiaaGreatDoor

namespace Go.Proofs.YthbaimobihmhiaaGreatDoor
open Go.Sx Go.RowKit
noncomputable section
open Classical

def alRx : TypeId → Bool := fun t => Nat.beq t 145
def alRy : TypeId → Bool := fun t => Nat.beq t 119

def xNewS : FSpec := ⟨List UInt8, fun l vs A => ∃ x, vs = [x] ∧ SlB A x l, fun l _ A v A' => A.Sub A' ∧ ∃ r, v = .pointer (some ⟨r, 0, none⟩) ∧ A.blk r = none ∧ ∃ D, RdG goodF D A' r (some l)⟩

set_option maxRecDepth 100000 in
set_option maxHeartbeats 0 in
theorem xNew_ok : FOk Tryz.prog 84 xNewS := by
  refine fok_a mixed alRx fun (l : List UInt8) vs A hp => ?_
  obtain ⟨x, rfl, hX⟩ : ∃ x, vs = [x] ∧ SlB A x l := hp
  have hC : CTSound Tryz.prog (lookC [specE 65 cloneBytesS] noC) := lookC_sound (noC_sound _) (fun x hx => by
    simp only [List.mem_singleton] at hx
    subst hx
    exact specE_ok cloneBytes_ok)
  obtain ⟨ax, cx, hxf⟩ := hX.1.form
  subst hxf
  refine ⟨_, noL, 60, hC, noL_sound _, fun blk os out tape D hD => ?_⟩
  conv => lhs; whnf
  refine (hD _).2 ⟨l, ⟨_, rfl, hX⟩, fun v A1 hq => ?_⟩
  obtain ⟨s1, hS1⟩ : A.Sub A1 ∧ SlB (A1.minus A) v l := hq
  obtain ⟨av, cv, hvf⟩ := hS1.1.form
  subst hvf
  conv => lhs; whnf
  repeat (first | refine go_D hD rfl ?_
          conv => lhs; whnf)
  refine (hD _).2 fun r A2 hN => ?_
  have hN : A1.New A2 r #[.slice av l.length cv, .bool true] 145 := hN
  have hend : xNewS.post l [] A (.pointer (some ⟨r, 0, none⟩)) A2 := by
    refine ⟨s1.trans hN.sub, r, rfl, ?_, A1, _, ⟨_, _, _, hN.at_, .inl rfl, rfl⟩, hN.sub, hN.none_, hS1.1.sub (minus_sub _ _), fun h => (by cases h)⟩
    cases hA : A.blk r with
    | none => rfl
    | some o => have := s1 r o hA; rw [hN.none_] at this; cases this
  conv => lhs; whnf
  repeat (first | refine go_D hD rfl ?_
          conv => lhs; whnf)
  exact (hD _).2 hend

def yNewS : FSpec := ⟨List UInt8, fun l vs A => ∃ x, vs = [x] ∧ SlB A x l, fun l _ A v A' => A.Sub A' ∧ ∃ r, v = .pointer (some ⟨r, 0, none⟩) ∧ A.blk r = none ∧ ∃ D, RdG badF D A' r (some l)⟩

set_option maxRecDepth 100000 in
set_option maxHeartbeats 0 in
theorem yNew_ok : FOk Tryz.prog 47 yNewS := by
  refine fok_a mixed alRy fun (l : List UInt8) vs A hp => ?_
  obtain ⟨x, rfl, hX⟩ : ∃ x, vs = [x] ∧ SlB A x l := hp
  obtain ⟨ax, cx, hxf⟩ := hX.1.form
  subst hxf
  refine ⟨noC, noL, 60, noC_sound _, noL_sound _, fun blk os out tape D hD => ?_⟩
  conv => lhs; whnf
  refine (hD _).2 fun g1 A1 hN => ?_
  have hN : A.New A1 g1 #[] 5 := hN
  obtain ⟨ax', cx', hxf', hc, hl, ha1, ha2, ha3⟩ := hX.1
  injection hxf' with e1 e2 e3
  subst e1; subst e3
  have hsrc : ∀ {h : HS}, h.M.A = A1 → srcA h 1 l.length (.v (.slice ax l.length cx)) = some (l.map bv) := fun {h} hA => by
    by_cases h0 : l.length = 0
    · rw [show l.map bv = [] from by rw [List.length_eq_zero_iff.1 h0]; rfl]
      exact src_none h0
    · obtain ⟨g, o, e, hr⟩ := Sl.at_ hc ha1 ha2 ha3 (by omega)
      subst e
      exact src_row h0 (by rw [hA]; exact rd_sub hN.sub hr)
  conv => lhs; whnf
  repeat (first | refine go_D hD rfl ?_
          conv => lhs; whnf)
  refine (hD _).2 ⟨[], l.map bv, rfl, hsrc rfl, hl, bv_one l, by show 0 + l.length ≤ _; have := hX.2; omega, fun h0 => ?_, rfl, fun h => (by cases h), fun _ _ _ h1 h2 => ?_, fun v A2 hA => ?_⟩
  · have h0 : 0 < 0 + l.length := h0
    show Builtin.nextslicecap (0 + l.length) 0 * 1 ≤ _
    rw [nextcap0 h0]
    have := hX.2
    omega
  · exfalso
    have h1 : 0 + l.length ≤ 0 := h1
    exact h2 (List.length_eq_zero_iff.1 (by rw [hl]; omega))
  have hce := clone_end hN.sub hA hl
  obtain ⟨k1, k2⟩ := hce
  obtain ⟨av, cv, hvf⟩ := k2.form
  subst hvf
  conv => lhs; whnf
  repeat (first | refine go_D hD rfl ?_
          conv => lhs; whnf)
  refine (hD _).2 fun r A3 hN3 => ?_
  have hN3 : A2.New A3 r #[.slice av l.length cv, .bool false] 119 := hN3
  have hend : yNewS.post l [] A (.pointer (some ⟨r, 0, none⟩)) A3 := by
    refine ⟨k1.trans hN3.sub, r, rfl, ?_, A2, _, ⟨_, _, _, hN3.at_, .inl rfl, rfl⟩, hN3.sub, hN3.none_, k2.sub (minus_sub _ _), fun h => (by cases h)⟩
    cases hA : A.blk r with
    | none => rfl
    | some o => have := k1 r o hA; rw [hN3.none_] at this; cases this
  conv => lhs; whnf
  repeat (first | refine go_D hD rfl ?_
          conv => lhs; whnf)
  exact (hD _).2 hend

end
end Go.Proofs.YthbaimobihmhiaaGreatDoor

namespace Go.Proofs.YthbaimobihmhiaaGreatDoor
open Go.Sx Go.RowKit
noncomputable section
open Classical

theorem GrowR.keepR {A1 A A' : Arena} {es r : Nat} {e : TypeId} {n : Nat} {v : Value} {cs : List Value} (h : GrowR A1 A es e n v cs) (hk : KeepR A A' r) (hr : A1.blk r ≠ none) : GrowR A1 A' es e n v cs := by
  obtain ⟨h1, h2 | ⟨g, nc, c, h3, h4, h4', h5, h6, h7, h8⟩⟩ := h
  · exact ⟨h1, .inl h2⟩
  · exact ⟨h1, .inr ⟨g, nc, c, h3, h4, h4', h5, hk g _ h6 fun e => hr (by rw [← e]; exact h5), h7, h8⟩⟩

theorem GrowR.slM {A0 A1 A : Arena} {es : Nat} {e : TypeId} {n : Nat} {v : Value} {cs : List Value} (h : GrowR A1 A es e n v cs) (hg : ∀ g, A1.blk g = none → A0.blk g = none) : Sl (A.minus A0) es n v cs := by
  obtain ⟨h1, ⟨rfl, rfl⟩ | ⟨g, nc, c, rfl, h4, h4', h5, h6, h7, rfl⟩⟩ := h
  · have : cs = [] := List.length_eq_zero_iff.1 (by rw [h1]; simp)
    subst this
    exact Sl.nil _ _
  · refine Sl.row h4 (rd_minus ?_ (hg g h5))
    have hle : n * es ≤ nc * es := Nat.mul_le_mul_right _ h4
    rw [rd_mk h6 (by omega)]
    rfl

/-- What a get of a config gives. -/
def GetER (l : List UInt8) (A : Arena) (v : Value) (A' : Arena) : Prop := A.Sub A' ∧ (getE l = none → v = .tuple #[.agg #[.int .i64 0, .slice none 0 0], .int .i64 4]) ∧
  ∀ ver ms, getE l = some (ver, ms) → ∃ x, v = .tuple #[.agg #[.int .i64 ver, x], .int .i64 0] ∧ MemR (A'.minus A) x ms

def ensGetS : FSpec := ⟨List UInt8, fun l vs A => ∃ x, vs = [x] ∧ SlB A x l ∧ l.length ≤ 900000000, fun l _ A v A' => GetER l A v A'⟩

structure EgS where
  k : Nat
  A : Arena
  n : Nat
  v : Value

def ensGetInv (_A0 A1 : Arena) (r : Nat) (B : Arena) (ver : Int) (n : Nat) (st : RdSt) (sl : List (Nat × SV)) : LInv :=
  { γ := Nat × Arena × (Option (Nat × Nat) × Nat), G := fun s => s.1 ≤ n ∧ KeepR A1 s.2.1 r ∧ RdG goodF B s.2.1 r (pMems s.1 st).2 ∧ GrowR A1 s.2.1 4 68 s.1 (.slice (addrA s.2.2.1) s.1 s.2.2.2) (memCells (pMems s.1 st).1),
    keepS := [], keepB := [0], sl := fun s => (16, .v (.int .i64 s.1)) :: sl, bl := fun s => [(1, .cells [.v (.int .i64 ver), .v (.slice (addrA s.2.2.1) s.1 s.2.2.2)] 0 (27 + 1))], ar := fun s => s.2.1, mu := fun s => n - s.1 }

theorem ensGetC : CTSound Tryz.prog (lookC [specE 84 xNewS, specE 89 xIntS, specE 86 xCountS, specE 58 ensS] noC) := lookC_sound (noC_sound _) (fun x hx => by
  simp only [List.mem_cons, List.not_mem_nil, or_false] at hx
  rcases hx with rfl | rfl | rfl | rfl
  · exact specE_ok xNew_ok
  · exact specE_ok xInt_ok
  · exact specE_ok xCount_ok
  · exact specE_ok ens_ok)

set_option maxRecDepth 100000 in
set_option maxHeartbeats 0 in
theorem ensGet_ok : FOk Tryz.prog 91 ensGetS := by
  refine fok_v mixed fun (l : List UInt8) vs A hp => ?_
  obtain ⟨x, rfl, hX, hlen⟩ : ∃ x, vs = [x] ∧ SlB A x l ∧ l.length ≤ 900000000 := hp
  obtain ⟨ax, cx, hxf⟩ := hX.1.form
  subst hxf
  refine ⟨_, tabO Tryz.prog _ noL 60 [(91, 0)], 60, ensGetC, tabO_sound mixed ensGetC (noL_sound _) _ _, fun blk os out tape D hD => ?_⟩
  conv => lhs; whnf
  refine (hD _).2 ⟨l, ⟨_, rfl, hX⟩, fun v A1 hq => ?_⟩
  obtain ⟨s1, r, hv, hr, B, hR⟩ : A.Sub A1 ∧ ∃ r, v = .pointer (some ⟨r, 0, none⟩) ∧ A.blk r = none ∧ ∃ D, RdG goodF D A1 r (some l) := hq
  subst hv
  conv => lhs; whnf
  refine (hD _).2 ⟨(⟨r, some l, B⟩ : RxG), ⟨rfl, hR, hlen⟩, fun v A2 hq => ?_⟩
  obtain ⟨hv, k2, hR2⟩ : v = .int .i64 (pInt (some l)).1 ∧ KeepR A1 A2 r ∧ RdG goodF B A2 r (pInt (some l)).2 := hq
  have hl2 : stLen (pInt (some l)).2 ≤ l.length := pInt_len (some l)
  have hgE : ∀ st : RdSt, st = (pInt (some l)).2 → getE l = if (pMems (pCount 7 st).1.toNat (pCount 7 st).2).2 = some [] ∧ ensD (pInt (some l)).1 (pMems (pCount 7 st).1.toNat (pCount 7 st).2).1 = 0 then some ((pInt (some l)).1, (pMems (pCount 7 st).1.toNat (pCount 7 st).2).1) else none := fun st h => by rw [h]; rfl
  have hgE := hgE _ rfl
  generalize (pInt (some l)).1 = ver at *
  generalize (pInt (some l)).2 = s2 at *
  subst hv
  conv => lhs; whnf
  refine (hD _).2 ⟨((⟨r, s2, B⟩, 7) : RxG × Int), ⟨rfl, hR2, by show stLen s2 ≤ _; omega, by show (0 : Int) ≤ 7; decide, by show (7 : Int) ≤ _; decide⟩, fun v A3 hq => ?_⟩
  obtain ⟨hv, k3, hR3⟩ : v = .int .i64 (pCount 7 s2).1 ∧ KeepR A2 A3 r ∧ RdG goodF B A3 r (pCount 7 s2).2 := hq
  have hn7 := pCount_in (s := s2) (show (0 : Int) ≤ 7 by decide)
  have hl3 := pCount_len 7 s2
  obtain ⟨n, hn⟩ : ∃ n : Nat, (pCount 7 s2).1 = n := ⟨(pCount 7 s2).1.toNat, by omega⟩
  rw [hn] at hv hn7 hgE
  rw [Int.toNat_natCast] at hgE
  generalize (pCount 7 s2).2 = s3 at *
  subst hv
  conv => lhs; whnf
  have hG0 : n ≤ n ∧ True := ⟨Nat.le_refl _, trivial⟩
  have hK0 : KeepR A3 A3 r := KeepR.refl _ _
  have hn8 : n ≤ 7 := by omega
  refine (hD _).2 ⟨ensGetInv A A3 r B ver n s3 [(15, .v (.int .i64 n)), (5, .ptr 1 0), (4, .v (.pointer (some ⟨r, 0, none⟩))), (2, .ptr 0 0)], ⟨((0, A3, none, 0) : Nat × Arena × (Option (Nat × Nat) × Nat)), ⟨Nat.zero_le _, hK0, hR3, GrowR.nil _ _ _ _⟩, ⟨rfl, rfl, rfl, rfl, rfl, trivial⟩, ⟨rfl, trivial⟩, rfl⟩, fun (s : Nat × Arena × (Option (Nat × Nat) × Nat)) hG => ⟨⟨trivial, trivial, Nat.lt_succ_self 1, trivial, Nat.succ_pos 1, trivial⟩, ⟨Nat.lt_succ_self 1, ⟨trivial, trivial, trivial⟩, trivial⟩, ?_⟩⟩
  obtain ⟨k, A4, base, c⟩ := s
  obtain ⟨hk, hK, hR4, hrow⟩ : k ≤ n ∧ KeepR A3 A4 r ∧ RdG goodF B A4 r (pMems k s3).2 ∧ GrowR A3 A4 4 68 k (.slice (addrA base) k c) (memCells (pMems k s3).1) := hG
  have hsl := pMems_stlen s3 k
  conv => lhs; whnf
  refine split_dec (fun hlt => ?_) (fun hlt => ?_)
  · have hkn : k < n := by
      have hlt : (k : Int) < (n : Int) := hlt
      omega
    have hnext : pMems (k + 1) s3 = ((pMems k s3).1 ++ [(pMem (pMems k s3).2).1], (pMem (pMems k s3).2).2) := rfl
    generalize (pMems k s3).1 = ms0 at *
    generalize (pMems k s3).2 = t0 at *
    conv => lhs; whnf
    repeat (first | refine go_D hD rfl ?_
            conv => lhs; whnf)
    refine (hD _).2 ⟨((⟨r, t0, B⟩, 7) : RxG × Int), ⟨rfl, hR4, by show stLen t0 ≤ _; omega, by show (0 : Int) ≤ 7; decide, by show (7 : Int) ≤ _; decide⟩, fun v A5 hq => ?_⟩
    obtain ⟨hv, j5, R5⟩ : v = .int .i64 (pCount 7 t0).1 ∧ KeepR A4 A5 r ∧ RdG goodF B A5 r (pCount 7 t0).2 := hq
    have hin5 := pCount_in (s := t0) (show (0 : Int) ≤ 7 by decide)
    have hsl5 := pCount_len 7 t0
    subst hv
    conv => lhs; whnf
    repeat (first | refine go_D hD rfl ?_
            conv => lhs; whnf)
    refine (hD _).2 ⟨((⟨r, (pCount 7 t0).2, B⟩, 2) : RxG × Int), ⟨rfl, R5, by show stLen (pCount 7 t0).2 ≤ _; omega, by show (0 : Int) ≤ 2; decide, by show (2 : Int) ≤ _; decide⟩, fun v A6 hq => ?_⟩
    obtain ⟨hv, j6, R6⟩ : v = .int .i64 (pCount 2 (pCount 7 t0).2).1 ∧ KeepR A5 A6 r ∧ RdG goodF B A6 r (pCount 2 (pCount 7 t0).2).2 := hq
    have hin6 := pCount_in (s := (pCount 7 t0).2) (show (0 : Int) ≤ 2 by decide)
    have hsl6 := pCount_len 2 (pCount 7 t0).2
    subst hv
    conv => lhs; whnf
    repeat (first | refine go_D hD rfl ?_
            conv => lhs; whnf)
    refine (hD _).2 ⟨((⟨r, (pCount 2 (pCount 7 t0).2).2, B⟩, 1000) : RxG × Int), ⟨rfl, R6, by show stLen (pCount 2 (pCount 7 t0).2).2 ≤ _; omega, by show (0 : Int) ≤ 1000; decide, by show (1000 : Int) ≤ _; decide⟩, fun v A7 hq => ?_⟩
    obtain ⟨hv, j7, R7⟩ : v = .int .i64 (pCount 1000 (pCount 2 (pCount 7 t0).2).2).1 ∧ KeepR A6 A7 r ∧ RdG goodF B A7 r (pCount 1000 (pCount 2 (pCount 7 t0).2).2).2 := hq
    have hin7 := pCount_in (s := (pCount 2 (pCount 7 t0).2).2) (show (0 : Int) ≤ 1000 by decide)
    have hsl7 := pCount_len 1000 (pCount 2 (pCount 7 t0).2).2
    subst hv
    conv => lhs; whnf
    repeat (first | refine go_D hD rfl ?_
            conv => lhs; whnf)
    refine (hD _).2 ⟨((⟨r, (pCount 1000 (pCount 2 (pCount 7 t0).2).2).2, B⟩, 7) : RxG × Int), ⟨rfl, R7, by show stLen (pCount 1000 (pCount 2 (pCount 7 t0).2).2).2 ≤ _; omega, by show (0 : Int) ≤ 7; decide, by show (7 : Int) ≤ _; decide⟩, fun v A8 hq => ?_⟩
    obtain ⟨hv, j8, R8⟩ : v = .int .i64 (pCount 7 (pCount 1000 (pCount 2 (pCount 7 t0).2).2).2).1 ∧ KeepR A7 A8 r ∧ RdG goodF B A8 r (pCount 7 (pCount 1000 (pCount 2 (pCount 7 t0).2).2).2).2 := hq
    have hin8 := pCount_in (s := (pCount 1000 (pCount 2 (pCount 7 t0).2).2).2) (show (0 : Int) ≤ 7 by decide)
    have hsl8 := pCount_len 7 (pCount 1000 (pCount 2 (pCount 7 t0).2).2).2
    subst hv
    have hm : pMem t0 = (⟨(pCount 7 t0).1, (pCount 2 (pCount 7 t0).2).1, (pCount 1000 (pCount 2 (pCount 7 t0).2).2).1, (pCount 7 (pCount 1000 (pCount 2 (pCount 7 t0).2).2).2).1⟩, (pCount 7 (pCount 1000 (pCount 2 (pCount 7 t0).2).2).2).2) := rfl
    rw [hm] at hnext
    generalize (pCount 7 t0).1 = id at *
    generalize (pCount 2 (pCount 7 t0).2).1 = role at *
    generalize (pCount 1000 (pCount 2 (pCount 7 t0).2).2).1 = weight at *
    generalize (pCount 7 (pCount 1000 (pCount 2 (pCount 7 t0).2).2).2).1 = group at *
    generalize (pCount 7 (pCount 1000 (pCount 2 (pCount 7 t0).2).2).2).2 = t8 at *
    have hK8 : KeepR A4 A8 r := j5.trans (j6.trans (j7.trans j8))
    have hK38 : KeepR A3 A8 r := hK.trans hK8
    obtain ⟨or3, hor3⟩ := hR3.live2
    have hrow8 := GrowR.keepR hrow hK8 (by rw [hor3]; simp)
    have hf := hrow8.formN
    obtain ⟨base', c', hvb, hbase, hP, hA⟩ := hf
    injection hvb with e1 e2 e3
    have e1 := addrA_inj e1
    subst e1; subst e3
    have hrole : IntKind.u8.wrap role = role := by
      have h : IntKind.u8.wrap role = role % 256 := rfl
      rw [h]; omega
    conv => lhs; whnf
    repeat (first | refine go_D hD rfl ?_
            conv => lhs; whnf)
    refine (hD _).2 fun ge A9 hN => ?_
    have hN : A8.New A9 ge #[.int .i64 id, .int .u8 (IntKind.u8.wrap role), .int .i64 weight, .int .i64 group] 68 := hN
    rw [hrole] at hN
    have hrow9 := hrow8.sub hN.sub
    have hf9 := hrow9.formN
    obtain ⟨base'', c'', hvb, -, hP, hA⟩ := hf9
    injection hvb with e1 e2 e3
    have e1 := addrA_inj e1
    subst e1; subst e3
    have hPd := hP 1 32 (by omega) (by omega)
    have hy9 : A9.rd ge 0 (1 * 4) = some [.int .i64 id, .int .u8 role, .int .i64 weight, .int .i64 group] := hN.rd (o := 0) (n := 1 * 4) (by show 0 + 1 * 4 ≤ 4; omega)
    have hlive9 : ∀ j, A9.blk j = none → A3.blk j = none := fun j hj => by
      cases h3 : A3.blk j with
      | none => rfl
      | some o =>
        by_cases e : j = r
        · obtain ⟨o', ho⟩ := R8.live2
          rw [e, hN.sub r o' ho] at hj; cases hj
        · rw [hN.sub j o (hK38 j o h3 e)] at hj; cases hj
    rcases hbase with rfl | ⟨gx, rfl⟩ <;> (conv => lhs; whnf)
    all_goals
      repeat (first | refine go_D hD rfl ?_
              conv => lhs; whnf)
      refine (hD _).2 ⟨_, [.int .i64 id, .int .u8 role, .int .i64 weight, .int .i64 group], hPd.rd, hy9, rfl, fun v hv => by
        simp only [List.mem_cons, List.not_mem_nil, or_false] at hv
        rcases hv with rfl | rfl | rfl | rfl <;> rfl, ?_, hPd.cap, rfl, hPd.none_, fun g' o' he' hle' _ => hPd.room 4 rfl g' o' he' hle', fun v9 A10 hAp => ?_⟩
      · show k + 1 ≤ 9223372036854775807
        omega
      · have hc9 := hA 1 [.int .i64 id, .int .u8 role, .int .i64 weight, .int .i64 group] v9 A10 rfl hlive9 hAp
        obtain ⟨hrow10, hsame⟩ := hc9
        have hf10 := hrow10.formN
        obtain ⟨b10, c10, hv10, -⟩ := hf10
        subst hv10
        have hr10 : A10.blk r = A9.blk r := hsame r or3 hor3
        have hB10 : B.Sub A10 := fun j o hj => by
          rw [hsame j o (hR3.dsub j o hj)]
          exact hN.sub j o (R8.dsub j o hj)
        have hR10 := (R8.keep hN.sub).other hB10 hr10
        have hK10 : KeepR A3 A10 r := fun j o hj hjr => by
          rw [hsame j o hj]
          exact hN.sub j o (hK38 j o hj hjr)
        have hrow10 : GrowR A3 A10 4 68 (k + 1) (.slice (addrA b10) (k + 1) c10) (memCells (pMems (k + 1) s3).1) := by
          rw [hnext]
          show GrowR A3 A10 4 _ (k + 1) _ (memCells (ms0 ++ [⟨id, role, weight, group⟩]))
          have e : memCells (ms0 ++ [⟨id, role, weight, group⟩]) = memCells ms0 ++ [.int .i64 id, .int .u8 role, .int .i64 weight, .int .i64 group] := by
            unfold memCells
            rw [List.map_append, List.flatten_append]
            rfl
          rw [e]
          exact hrow10
        have hR10 : RdG goodF B A10 r (pMems (k + 1) s3).2 := by rw [hnext]; exact hR10
        conv => lhs; whnf
        repeat (first | refine go_D hD rfl ?_
                conv => lhs; whnf)
        exact (hD _).2 ⟨((k + 1, A10, b10, c10) : Nat × Arena × (Option (Nat × Nat) × Nat)), ⟨⟨hkn, hK10, hR10, hrow10⟩, ⟨inc_slot (by omega), rfl, rfl, rfl, rfl, trivial⟩, ⟨rfl, trivial⟩, rfl⟩, by show n - (k + 1) < n - k; omega, trivial, ⟨same1 rfl rfl, trivial⟩⟩
  · have hkn : k = n := by
      have hlt : ¬ (k : Int) < (n : Int) := hlt
      omega
    subst hkn
    have hA04 : A.Sub A4 := fun j o hj => hK j o (k3 j o (k2 j o (s1 j o hj) fun e => (by rw [e, hr] at hj; cases hj)) fun e => (by rw [e, hr] at hj; cases hj)) fun e => (by rw [e, hr] at hj; cases hj)
    have hbadE : getE l = none → ensGetS.post l [] A (.tuple #[.agg #[.int .i64 0, .slice none 0 0], .int .i64 4]) A4 := fun h => ⟨hA04, fun _ => rfl, fun ver ms h2 => (by rw [h] at h2; cases h2)⟩
    have hrowS := hrow.sl
    have hml : (pMems k s3).1.length = k := pMems_len s3 k
    have hR40 := hR4
    obtain ⟨v4, htop, hDs, hDr, hSl4, hnil4⟩ := hR40
    have r1 : A4.rd r 1 1 = some [.bool (goodF (pMems k s3).2)] := htop.rd (o := 1) (n := 1) (by show 1 + 1 ≤ 2; omega)
    have hgood : (pMems k s3).2 = some [] → goodF (pMems k s3).2 = true := fun h => by rw [h]; rfl
    cases hst : (pMems k s3).2 with
    | none =>
      rw [hst] at r1
      have hend := hbadE (by rw [hgE, if_neg (by rw [hst]; rintro ⟨h, _⟩; cases h)])
      conv => lhs; whnf
      repeat (first | refine go_rd r1 ?_ | refine go_D hD rfl ?_
              conv => lhs; whnf)
      exact (hD _).2 hend
    | some l4 =>
      rw [hst] at r1 htop hSl4
      have hSl4 : Sl B 1 l4.length v4 (l4.map bv) := hSl4
      obtain ⟨a4, c4, hf4⟩ := hSl4.form
      subst hf4
      have r1 : A4.rd r 1 1 = some [.bool true] := r1
      have r0 : A4.rd r 0 1 = some [.slice a4 l4.length c4] := htop.rd (o := 0) (n := 1) (by show 0 + 1 ≤ 2; omega)
      conv => lhs; whnf
      repeat (first | refine go_rd r1 ?_ | refine go_rd r0 ?_ | refine go_D hD rfl ?_
              conv => lhs; whnf)
      refine split_nd (fun q0 => ?_) (fun q0 => ?_)
      rotate_left
      · have hend := hbadE (by
          rw [hgE, if_neg]
          rintro ⟨h, _⟩
          rw [hst] at h
          injection h with h
          rw [h] at q0
          exact q0 rfl)
        conv => lhs; whnf
        exact (hD _).2 hend
      have hl40 : l4 = [] := by
        have q0 : (l4.length : Int) = 0 := q0
        exact List.length_eq_zero_iff.1 (by omega)
      subst hl40
      have hM : MemR A4 (.slice (addrA base) k c) (pMems k s3).1 := ⟨by rw [hml]; exact hrowS, by rw [hml]; omega⟩
      have hnew : ∀ g, A3.blk g = none → A.blk g = none := fun g hg => by
        cases hA : A.blk g with
        | none => rfl
        | some o =>
          have hgr : g ≠ r := fun e => by rw [e, hr] at hA; cases hA
          have := k3 g o (k2 g o (s1 g o hA) hgr) hgr
          rw [hg] at this; cases this
      have hMm : MemR (A4.minus A) (.slice (addrA base) k c) (pMems k s3).1 := ⟨by rw [hml]; exact GrowR.slM hrow hnew, by rw [hml]; omega⟩
      have hyes : ensD ver (pMems k s3).1 = 0 → ensGetS.post l [] A (.tuple #[.agg #[.int .i64 ver, .slice (addrA base) k c], .int .i64 0]) A4 := fun h => by
        have hgE2 : getE l = some (ver, (pMems k s3).1) := by rw [hgE, if_pos ⟨hst, h⟩]
        refine ⟨hA04, fun h2 => (by rw [hgE2] at h2; cases h2), fun ver' ms' h2 => ?_⟩
        rw [hgE2] at h2
        injection h2 with h2
        injection h2 with e1 e2
        subst e1; subst e2
        exact ⟨_, rfl, hMm⟩
      have hno : ensD ver (pMems k s3).1 ≠ 0 → ensGetS.post l [] A (.tuple #[.agg #[.int .i64 0, .slice none 0 0], .int .i64 4]) A4 := fun h => hbadE (by
        rw [hgE, if_neg]
        rintro ⟨_, h2⟩
        exact h h2)
      generalize (pMems k s3).1 = ms at *
      conv => lhs; whnf
      repeat (first | refine go_D hD rfl ?_
              conv => lhs; whnf)
      refine (hD _).2 ⟨((ver, ms) : Int × List MemD), ⟨_, rfl, hM⟩, fun v A5 hq => ?_⟩
      have hq : A5 = A4 ∧ v = .int .i64 (ensD ver ms) := hq
      have h9 := hq.1.symm
      have hv := hq.2
      subst h9
      subst hv
      conv => lhs; whnf
      refine split_nd (fun q1 => ?_) (fun q1 => ?_)
      · have hend := hyes q1
        conv => lhs; whnf
        exact (hD _).2 hend
      · have hend := hno q1
        conv => lhs; whnf
        exact (hD _).2 hend

end
end Go.Proofs.YthbaimobihmhiaaGreatDoor

namespace Go.Proofs.YthbaimobihmhiaaGreatDoor
open Go.Sx Go.RowKit
noncomputable section
open Classical

/-- What a get of an image gives. -/
def GetIR (l : List UInt8) (A : Arena) (v : Value) (A' : Arena) : Prop := A.Sub A' ∧
  (getI l = none → v = .tuple #[.slice none 0 0, .slice none 0 0, .agg #[.int .i64 0, .slice none 0 0], .int .i64 0, .int .i64 0, .int .i64 4]) ∧
  ∀ ns ss ver ms f t, getI l = some (ns, ss, ver, ms, f, t) → ∃ (xs : List (ToldD × Value)) (x y z : Value), xs.map (·.1) = ns ∧ v = .tuple #[x, y, .agg #[.int .i64 ver, z], .int .i64 f, .int .i64 t, .int .i64 0] ∧ NodesR (A'.minus A) x xs ∧ SlS (A'.minus A) y ss ∧ MemR (A'.minus A) z ms

def getS : FSpec := ⟨List UInt8, fun l vs A => ∃ x, vs = [x] ∧ SlB A x l ∧ l.length ≤ 900000000, fun l _ A v A' => GetIR l A v A'⟩

structure IhG where
  k : Nat
  A : Arena
  base : Option (Nat × Nat)
  c : Nat
  g : Option Nat
  xs : List (ToldD × Value)

def IhG.L (s : IhG) : LsD := ⟨.slice (addrA s.base) s.k s.c, s.k, s.c, s.g⟩

theorem minus_sub2 {A A1 A2 : Arena} (h : A.Sub A1) : (A2.minus A1).Sub (A2.minus A) := fun k o hk => by
  obtain ⟨h1, h2⟩ := minus_blk hk
  exact minus_mk (none_of h h1) h2

end
end Go.Proofs.YthbaimobihmhiaaGreatDoor

namespace Go.Proofs.YthbaimobihmhiaaGreatDoor
open Go.Sx Go.RowKit
noncomputable section
open Classical

theorem BfTo.refl {A : Arena} {w : Nat} {L : LsD} {l : List UInt8} (h : BfR A w L l) : BfTo A w L l A := ⟨L, h, fun _ _ h _ _ => h, fun _ h => .inl h⟩

theorem BfTo.then {A A' A'' : Arena} {w : Nat} {L L' : LsD} {l : List UInt8} (h1 : ∀ k o, A.blk k = some o → k ≠ w → L.g ≠ some k → A'.blk k = some o) (h2 : ∀ g, L'.g = some g → L.g = some g ∨ A.blk g = none) (h : BfTo A' w L' l A'') : BfTo A w L l A'' := by
  obtain ⟨L9, k1, k2, k3⟩ := h
  refine ⟨L9, k1, fun k o hk hw hL => k2 k o (h1 k o hk hw hL) hw fun e => ?_, fun g hg => ?_⟩
  · rcases h2 k e with h | h
    · exact hL h
    · rw [h] at hk; cases hk
  · rcases k3 g hg with h | h
    · exact h2 g h
    · cases hA : A.blk g with
      | none => exact .inr rfl
      | some o =>
        by_cases hw : g = w
        · subst hw
          exact absurd hg k1.ne
        · by_cases hL : L.g = some g
          · exact .inl hL
          · rw [h1 g o hA hw hL] at h; cases h

def wwByteS : FSpec := ⟨BbG, fun g vs A => vs = [.pointer (some ⟨g.w, 0, none⟩), .int .u8 g.b.toNat] ∧ BfR A g.w g.L g.l ∧ g.l.length ≤ 890000000, fun g _ A v A' => v = .tuple #[] ∧ BfTo A g.w g.L (g.l ++ [g.b]) A'⟩

set_option maxRecDepth 100000 in
set_option maxHeartbeats 0 in
theorem wwByte_ok : FOk Tryz.prog 32 wwByteS := by
  refine fok_v mixed fun ⟨w, L, l, b⟩ vs A hp => ?_
  obtain ⟨rfl, hW, hlen⟩ : vs = [.pointer (some ⟨w, 0, none⟩), .int .u8 b.toNat] ∧ BfR A w L l ∧ l.length ≤ 890000000 := hp
  have hC : CTSound Tryz.prog (lookC [specE 60 bfByteS] noC) := lookC_sound (noC_sound _) (fun x hx => by
    simp only [List.mem_singleton] at hx
    subst hx
    exact specE_ok bfByte_ok)
  refine ⟨_, noL, 60, hC, noL_sound _, fun blk os out tape D hD => ?_⟩
  conv => lhs; whnf
  repeat (first | refine go_D hD rfl ?_
          conv => lhs; whnf)
  refine (hD _).2 ⟨(⟨w, L, l, b⟩ : BbG), ⟨rfl, hW, hlen⟩, fun v A1 hq => ?_⟩
  obtain ⟨hv, hq⟩ : v = .nilIface ∧ BfTo A w L (l ++ [b]) A1 := hq
  subst hv
  have hend : wwByteS.post ⟨w, L, l, b⟩ [] A (.tuple #[]) A1 := ⟨rfl, hq⟩
  conv => lhs; whnf
  repeat (first | refine go_D hD rfl ?_
          conv => lhs; whnf)
  exact (hD _).2 hend

structure WiG where
  w : Nat
  L : LsD
  l : List UInt8
  n : Int

structure WiS where
  A : Arena
  L : LsD
  l : List UInt8
  u : Nat
  f : Nat

def wiInv (A0 : Arena) (w : Nat) (L0 : LsD) (T : List UInt8) : LInv :=
  { γ := WiS, G := fun s => BfR s.A w s.L s.l ∧ VI T s.l s.u s.f ∧ (∀ k o, A0.blk k = some o → k ≠ w → L0.g ≠ some k → s.A.blk k = some o) ∧ ∀ g, s.L.g = some g → L0.g = some g ∨ A0.blk g = none,
    keepS := [0], keepB := [], sl := fun s => [(4, .v (.int .u64 s.u))], bl := fun _ => [], ar := fun s => s.A, mu := fun s => s.u }

def wwIntS : FSpec := ⟨WiG, fun g vs A => vs = [.pointer (some ⟨g.w, 0, none⟩), .int .i64 g.n] ∧ BfR A g.w g.L g.l ∧ g.l.length ≤ 880000000 ∧ -9223372036854775808 ≤ g.n ∧ g.n ≤ 9223372036854775807, fun g _ A v A' => v = .tuple #[] ∧ BfTo A g.w g.L (g.l ++ vints g.n) A'⟩

set_option maxRecDepth 100000 in
set_option maxHeartbeats 0 in
theorem wwInt_ok : FOk Tryz.prog 33 wwIntS := by
  refine fok_v mixed fun ⟨w, L, l, n⟩ vs A hp => ?_
  obtain ⟨rfl, hW, hlen, hn1, hn2⟩ : vs = [.pointer (some ⟨w, 0, none⟩), .int .i64 n] ∧ BfR A w L l ∧ l.length ≤ 880000000 ∧ -9223372036854775808 ≤ n ∧ n ≤ 9223372036854775807 := hp
  have hC : CTSound Tryz.prog (lookC [specE 60 bfByteS] noC) := lookC_sound (noC_sound _) (fun x hx => by
    simp only [List.mem_singleton] at hx
    subst hx
    exact specE_ok bfByte_ok)
  refine ⟨_, tabO Tryz.prog _ noL 60 [(33, 0)], 60, hC, tabO_sound mixed hC (noL_sound _) _ _, fun blk os out tape D hD => ?_⟩
  have hz := zig_prog hn1 hn2
  conv => lhs; whnf
  repeat (first | refine go_D hD rfl ?_
          conv => lhs; whnf)
  have hG0 : (wiInv A w L (l ++ vints n)).G ⟨A, L, l, zig n, 9⟩ := ⟨hW, VI.start hn1 hn2 l, fun _ _ h _ _ => h, fun _ h => .inl h⟩
  refine (hD _).2 ⟨wiInv A w L (l ++ vints n), ⟨(⟨A, L, l, zig n, 9⟩ : WiS), hG0, ⟨congrArg (fun x : Int => some (SV.v (.int .u64 x))) hz, trivial⟩, trivial, rfl⟩, fun (s : WiS) hG => ⟨⟨trivial, trivial⟩, trivial, ?_⟩⟩
  clear hG0 hz
  obtain ⟨A1, L1, l1, u, f⟩ := s
  obtain ⟨hW1, hV, hk1, hg1⟩ : BfR A1 w L1 l1 ∧ VI (l ++ vints n) l1 u f ∧ (∀ k o, A.blk k = some o → k ≠ w → L.g ≠ some k → A1.blk k = some o) ∧ ∀ g, L1.g = some g → L.g = some g ∨ A.blk g = none := hG
  have hTl : (l ++ vints n).length ≤ 880000010 := by
    have := vput_len 9 (zig n)
    rw [List.length_append]
    show l.length + (vput 9 (zig n)).length ≤ _
    omega
  have hll := hV.len
  conv => lhs; whnf
  repeat (first | refine go_D hD rfl ?_
          conv => lhs; whnf)
  refine split_dec (fun h => ?_) (fun h => ?_)
  · have h : (127 : Int) < (u : Int) := h
    have hu : 128 ≤ u := by omega
    have hb : bitsOf .or .u8 (IntKind.u8.wrap (u : Int)) 128 = (((UInt8.ofNat (u % 128 + 128)).toNat : Nat) : Int) := by
      rw [u8_wrap, or_128, UInt8.toNat_ofNat_of_lt' (by omega : u % 128 + 128 < 256)]
    have hvs : [Value.pointer (some ⟨w, 0, none⟩), .int .u8 (bitsOf .or .u8 (IntKind.u8.wrap (u : Int)) 128)] = [.pointer (some ⟨w, 0, none⟩), .int .u8 (UInt8.ofNat (u % 128 + 128)).toNat] := by rw [hb]
    conv => lhs; whnf
    repeat (first | refine go_D hD rfl ?_
            conv => lhs; whnf)
    refine (hD _).2 ⟨(⟨w, L1, l1, UInt8.ofNat (u % 128 + 128)⟩ : BbG), ⟨hvs, hW1, by show l1.length ≤ 890000000; omega⟩, fun v A2 hq => ?_⟩
    obtain ⟨hv, L2, hW2, hk2, hg2⟩ : v = .nilIface ∧ BfTo A1 w L1 (l1 ++ [UInt8.ofNat (u % 128 + 128)]) A2 := hq
    subst hv
    have hnx := hV.next hu
    obtain ⟨f', hV2⟩ := hnx
    have hk3 : ∀ k o, A.blk k = some o → k ≠ w → L.g ≠ some k → A2.blk k = some o := fun k o hk hw hL => hk2 k o (hk1 k o hk hw hL) hw fun e => (hg1 k e).elim hL fun h9 => (by rw [h9] at hk; cases hk)
    have hg3 : ∀ g, L2.g = some g → L.g = some g ∨ A.blk g = none := fun g hg => by
      rcases hg2 g hg with h9 | h9
      · exact hg1 g h9
      · cases hA : A.blk g with
        | none => exact .inr rfl
        | some o =>
          by_cases hw : g = w
          · subst hw
            exact absurd hg hW2.ne
          · by_cases hL : L.g = some g
            · exact .inl hL
            · rw [hk1 g o hA hw hL] at h9; cases h9
    have hG2 : (wiInv A w L (l ++ vints n)).G ⟨A2, L2, l1 ++ [UInt8.ofNat (u % 128 + 128)], u / 128, f'⟩ := ⟨hW2, hV2, hk3, hg3⟩
    conv => lhs; whnf
    repeat (first | refine go_D hD rfl ?_
            conv => lhs; whnf)
    refine (hD _).2 ⟨(⟨A2, L2, l1 ++ [UInt8.ofNat (u % 128 + 128)], u / 128, f'⟩ : WiS), ⟨hG2, ⟨congrArg (fun x : Int => some (SV.v (.int .u64 x))) (shr_7 u), trivial⟩, trivial, rfl⟩, by show u / 128 < u; omega, ⟨same1 rfl rfl, trivial⟩, trivial⟩
  · have h : ¬ (127 : Int) < (u : Int) := h
    have hu : u < 128 := by omega
    have hb : IntKind.u8.wrap (u : Int) = (((UInt8.ofNat u).toNat : Nat) : Int) := by
      rw [u8_wrap, UInt8.toNat_ofNat_of_lt' (by omega : u < 256)]
      omega
    have hvs : [Value.pointer (some ⟨w, 0, none⟩), .int .u8 (IntKind.u8.wrap (u : Int))] = [.pointer (some ⟨w, 0, none⟩), .int .u8 (UInt8.ofNat u).toNat] := by rw [hb]
    conv => lhs; whnf
    repeat (first | refine go_D hD rfl ?_
            conv => lhs; whnf)
    refine (hD _).2 ⟨(⟨w, L1, l1, UInt8.ofNat u⟩ : BbG), ⟨hvs, hW1, by show l1.length ≤ 890000000; omega⟩, fun v A2 hq => ?_⟩
    obtain ⟨hv, hto⟩ : v = .nilIface ∧ BfTo A1 w L1 (l1 ++ [UInt8.ofNat u]) A2 := hq
    subst hv
    rw [hV.last hu] at hto
    have hend : wwIntS.post ⟨w, L, l, n⟩ [] A (.tuple #[]) A2 := ⟨rfl, BfTo.then hk1 hg1 hto⟩
    conv => lhs; whnf
    repeat (first | refine go_D hD rfl ?_
            conv => lhs; whnf)
    exact (hD _).2 hend

end
end Go.Proofs.YthbaimobihmhiaaGreatDoor

namespace Go.Proofs.YthbaimobihmhiaaGreatDoor
open Go.Sx Go.RowKit
noncomputable section
open Classical

theorem vints_len (n : Int) : (vints n).length ≤ 10 := vput_len 9 (zig n)

def wwTextS : FSpec := ⟨BsG, fun g vs A => vs = [.pointer (some ⟨g.w, 0, none⟩), .string ⟨g.s.toArray⟩] ∧ BfR A g.w g.L g.l ∧ g.l.length + g.s.length ≤ 880000000, fun g _ A v A' => v = .tuple #[] ∧ BfTo A g.w g.L (g.l ++ vints g.s.length ++ g.s) A'⟩

set_option maxRecDepth 100000 in
set_option maxHeartbeats 0 in
theorem wwText_ok : FOk Tryz.prog 34 wwTextS := by
  refine fok_v mixed fun ⟨w, L, l, s⟩ vs A hp => ?_
  obtain ⟨rfl, hW, hlen⟩ : vs = [.pointer (some ⟨w, 0, none⟩), .string ⟨s.toArray⟩] ∧ BfR A w L l ∧ l.length + s.length ≤ 880000000 := hp
  have hC : CTSound Tryz.prog (lookC [specE 33 wwIntS, specE 61 bfStrS] noC) := lookC_sound (noC_sound _) (fun x hx => by
    simp only [List.mem_cons, List.not_mem_nil, or_false] at hx
    rcases hx with rfl | rfl
    · exact specE_ok wwInt_ok
    · exact specE_ok bfStr_ok)
  refine ⟨_, noL, 60, hC, noL_sound _, fun blk os out tape D hD => ?_⟩
  have hvl := vints_len s.length
  conv => lhs; whnf
  repeat (first | refine go_D hD rfl ?_
          conv => lhs; whnf)
  refine (hD _).2 ⟨(⟨w, L, l, (s.length : Int)⟩ : WiG), ⟨rfl, hW, by show l.length ≤ 880000000; omega, by show -9223372036854775808 ≤ (s.length : Int); omega, by show (s.length : Int) ≤ 9223372036854775807; omega⟩, fun v A1 hq => ?_⟩
  obtain ⟨hv, L1, hW1, hk1, hg1⟩ : v = .tuple #[] ∧ BfTo A w L (l ++ vints s.length) A1 := hq
  subst hv
  conv => lhs; whnf
  repeat (first | refine go_D hD rfl ?_
          conv => lhs; whnf)
  refine (hD _).2 ⟨(⟨w, L1, l ++ vints s.length, s⟩ : BsG), ⟨rfl, hW1, by show (l ++ vints s.length).length + s.length ≤ 890000000; rw [List.length_append]; omega⟩, fun v A2 hq => ?_⟩
  obtain ⟨hv, hto⟩ : v = .tuple #[.int .i64 s.length, .nilIface] ∧ BfTo A1 w L1 (l ++ vints s.length ++ s) A2 := hq
  subst hv
  have hend : wwTextS.post ⟨w, L, l, s⟩ [] A (.tuple #[]) A2 := ⟨rfl, BfTo.then hk1 hg1 hto⟩
  conv => lhs; whnf
  repeat (first | refine go_D hD rfl ?_
          conv => lhs; whnf)
  exact (hD _).2 hend

def wwBytesS : FSpec := ⟨BwG, fun g vs A => ∃ x, vs = [.pointer (some ⟨g.w, 0, none⟩), x] ∧ BfR A g.w g.L g.l ∧ g.l.length + g.s.length ≤ 880000000 ∧ Sl g.C 1 g.s.length x (g.s.map bv) ∧ ∀ k o, g.C.blk k = some o → A.blk k = some o ∧ k ≠ g.w ∧ g.L.g ≠ some k, fun g _ A v A' => v = .tuple #[] ∧ BfTo A g.w g.L (g.l ++ vints g.s.length ++ g.s) A'⟩

set_option maxRecDepth 100000 in
set_option maxHeartbeats 0 in
theorem wwBytes_ok : FOk Tryz.prog 35 wwBytesS := by
  refine fok_v mixed fun ⟨w, L, l, s, C⟩ vs A hp => ?_
  obtain ⟨x, rfl, hW, hlen, hX, hCA⟩ : ∃ x, vs = [.pointer (some ⟨w, 0, none⟩), x] ∧ BfR A w L l ∧ l.length + s.length ≤ 880000000 ∧ Sl C 1 s.length x (s.map bv) ∧ ∀ k o, C.blk k = some o → A.blk k = some o ∧ k ≠ w ∧ L.g ≠ some k := hp
  have hX0 := hX
  obtain ⟨ao, cx, rfl, -⟩ := hX0
  have hC : CTSound Tryz.prog (lookC [specE 33 wwIntS, specE 62 bfWrS] noC) := lookC_sound (noC_sound _) (fun x hx => by
    simp only [List.mem_cons, List.not_mem_nil, or_false] at hx
    rcases hx with rfl | rfl
    · exact specE_ok wwInt_ok
    · exact specE_ok bfWr_ok)
  refine ⟨_, noL, 60, hC, noL_sound _, fun blk os out tape D hD => ?_⟩
  have hvl := vints_len s.length
  conv => lhs; whnf
  repeat (first | refine go_D hD rfl ?_
          conv => lhs; whnf)
  refine (hD _).2 ⟨(⟨w, L, l, (s.length : Int)⟩ : WiG), ⟨rfl, hW, by show l.length ≤ 880000000; omega, by show -9223372036854775808 ≤ (s.length : Int); omega, by show (s.length : Int) ≤ 9223372036854775807; omega⟩, fun v A1 hq => ?_⟩
  obtain ⟨hv, L1, hW1, hk1, hg1⟩ : v = .tuple #[] ∧ BfTo A w L (l ++ vints s.length) A1 := hq
  subst hv
  have hC1 : ∀ k o, C.blk k = some o → A1.blk k = some o ∧ k ≠ w ∧ L1.g ≠ some k := fun k o hk => by
    obtain ⟨h1, h2, h3⟩ := hCA k o hk
    refine ⟨hk1 k o h1 h2 h3, h2, fun e => ?_⟩
    rcases hg1 k e with h | h
    · exact h3 h
    · rw [h] at h1; cases h1
  conv => lhs; whnf
  repeat (first | refine go_D hD rfl ?_
          conv => lhs; whnf)
  refine (hD _).2 ⟨(⟨w, L1, l ++ vints s.length, s, C⟩ : BwG), ⟨_, rfl, hW1, by show (l ++ vints s.length).length + s.length ≤ 890000000; rw [List.length_append]; omega, hX, hC1⟩, fun v A2 hq => ?_⟩
  obtain ⟨hv, hto⟩ : v = .tuple #[.int .i64 s.length, .nilIface] ∧ BfTo A1 w L1 (l ++ vints s.length ++ s) A2 := hq
  subst hv
  have hend : wwBytesS.post ⟨w, L, l, s, C⟩ [] A (.tuple #[]) A2 := ⟨rfl, BfTo.then hk1 hg1 hto⟩
  conv => lhs; whnf
  repeat (first | refine go_D hD rfl ?_
          conv => lhs; whnf)
  exact (hD _).2 hend

end
end Go.Proofs.YthbaimobihmhiaaGreatDoor
