/-
  LinesNumbers: contracts of the model's entries that package strings comes to.
-/
import Derived.Test.YtbmloajiedchjaaGreatDoorProg
import Derived.Test.YtbmloajiedchjaaGreatDoorSxO
import Derived.Test.YtbmloajiedchjaaGreatDoorSxW
import Derived.Lib.MakeNoZero
import Derived.Lib.Index
namespace Go.Proofs.YtbmloajiedchjaaGreatDoor
open Go.Sx Go.RowKit
noncomputable section

def ctIdx : CT := fun args h K => match args with
  | [.v (.string s), .v (.int .u8 c)] => K (.v (.int .i64 (Lib.indexByte s.data.toList c.toNat.toUInt8))) h
  | [.str l, .v (.int .u8 c)] => K (.v (.int .i64 (Lib.indexByte l c.toNat.toUInt8))) h
  | _ => false

def ctEsc : CT := fun args h K => match args with
  | [x] => K x h
  | _ => false

/-- A new row of bytes that nobody knows. -/
def ctRaw : CT := fun args h K => match args with
  | [.v (.int .i64 k)] => bif decide (0 ≤ k) && decide (k ≤ 281474976710656) then K (.slc h.nx 0 k.toNat (.sub h.nx 0)) (h.new (.cells [] 1 (5 + 1))) else false
  | _ => false

def ctCnt : CT := fun args h K => match args with
  | [.v (.string s), .v (.int .u8 c)] => K (.v (.int .i64 (Lib.countByte s.data.toList c.toNat.toUInt8))) h
  | [.str l, .v (.int .u8 c)] => K (.v (.int .i64 (Lib.countByte l c.toNat.toUInt8))) h
  | _ => false

def C0 : FuncId → Option CT := fun f => bif Nat.beq f 159 then some ctCnt else bif Nat.beq f 123 then some ctIdx else bif Nat.beq f 107 then some ctEsc else bif Nat.beq f 108 then some ctRaw else none

theorem C0_sound : CTSound Tryz.prog C0 := by
  intro f ct h args h0 K hk ρ w H hargs
  unfold C0 at h
  cases h9 : Nat.beq f 159 with
  | true =>
    rw [h9] at h
    have := Nat.eq_of_beq_eq_true h9
    subst this
    simp only [cond_true, Option.some.injEq] at h
    subst h
    have key : ∀ (s : ByteArray) (c : Int), (callFunc 159 #[.string s, .int .u8 c]).run Tryz.prog w = .ok (.value (.int .i64 (Lib.countByte s.data.toList c.toNat.toUInt8))) w := fun s c => by
      rw [run_callFunc_extern Tryz.func159 (by kernel_rfl) (by kernel_rfl) (by kernel_rfl) (e := Extern.BytealgCount.count) (by kernel_rfl), Lib.run_countString]
      rfl
    unfold ctCnt at hk
    split at hk
    · rename_i s c
      exact goes_of_entry (key s c) H hk rfl trivial
    · rename_i l c
      exact goes_of_entry (key ⟨l.toArray⟩ c) H hk rfl trivial
    · exact absurd hk Bool.false_ne_true
  | false =>
  rw [h9] at h
  simp only [cond_false] at h
  cases h1 : Nat.beq f 123 with
  | true =>
    rw [h1] at h
    have := Nat.eq_of_beq_eq_true h1
    subst this
    simp only [cond_true, Option.some.injEq] at h
    subst h
    have key : ∀ (s : ByteArray) (c : Int), (callFunc 123 #[.string s, .int .u8 c]).run Tryz.prog w = .ok (.value (.int .i64 (Lib.indexByte s.data.toList c.toNat.toUInt8))) w := fun s c => by
      rw [run_callFunc_extern Tryz.func123 (by kernel_rfl) (by kernel_rfl) (by kernel_rfl) (e := Extern.BytealgIndexByte.indexByte) (by kernel_rfl), Lib.run_indexByteString]
      rfl
    unfold ctIdx at hk
    split at hk
    · rename_i s c
      exact goes_of_entry (key s c) H hk rfl trivial
    · rename_i l c
      exact goes_of_entry (key ⟨l.toArray⟩ c) H hk rfl trivial
    · exact absurd hk Bool.false_ne_true
  | false =>
    rw [h1] at h
    simp only [cond_false] at h
    cases h2 : Nat.beq f 107 with
    | true =>
      rw [h2] at h
      have := Nat.eq_of_beq_eq_true h2
      subst this
      simp only [cond_true, Option.some.injEq] at h
      subst h
      unfold ctEsc at hk
      split at hk
      · rename_i x
        have key : (callFunc 107 #[x.den ρ]).run Tryz.prog w = .ok (.value (x.den ρ)) w := by
          rw [run_callFunc_extern Tryz.func107 (by kernel_rfl) (by kernel_rfl) (by kernel_rfl) (e := Extern.AbiNoEscape.same) (by kernel_rfl)]
          rfl
        exact goes_of_entry key H hk rfl (hargs x (by simp))
      · exact absurd hk Bool.false_ne_true
    | false =>
      rw [h2] at h
      simp only [cond_false] at h
      cases h3 : Nat.beq f 108 with
      | false => rw [h3] at h; cases h
      | true =>
        rw [h3] at h
        have := Nat.eq_of_beq_eq_true h3
        subst this
        simp only [cond_true, Option.some.injEq] at h
        subst h
        unfold ctRaw at hk
        split at hk
        · rename_i k
          cases hc : decide (0 ≤ k) && decide (k ≤ 281474976710656) with
          | false => rw [hc] at hk; exact absurd hk Bool.false_ne_true
          | true =>
            rw [hc] at hk
            simp only [cond_true] at hk
            simp only [Bool.and_eq_true, decide_eq_true_eq] at hc
            obtain ⟨cs, hrun, hle, _⟩ := Lib.run_makeNoZero (P := Tryz.prog) w Tryz.f108.params 24 5 Tryz.underlying24 k.toNat (by omega)
            have hk' : ((k.toNat : Nat) : Int) = k := by omega
            have key : (callFunc 108 #[.int .i64 k]).run Tryz.prog w = .ok (.value (.slice (some ⟨w.heap.size, 0, none⟩) k.toNat cs.size)) (w.drew.drew.alloc (.cells cs 5)) := by
              rw [run_callFunc_extern Tryz.func108 (by kernel_rfl) (by kernel_rfl) (by kernel_rfl) (e := Extern.BytealgMakeNoZero.makeNoZero Tryz.f108.params #[24]) (by kernel_rfl)]
              rw [hk'] at hrun
              rw [hrun]; rfl
            refine .inr ⟨_, _, key, _, _, extend ρ h0.nx ⟨w.heap.size, 0, cs.size⟩, hk, ?_, ⟨Nat.lt_succ_self _, Nat.lt_succ_self _, ?_⟩, ?_, extend_ext _ _ _, Nat.le_succ _, Mem.le_refl _⟩
            · simp [SV.den, SCap.den, extend_same]
            · simp only [SCap.den, extend_same]; omega
            · exact (H.drawn (w.drawn + 1 + 1)).alloc (o := .cells cs 5) (B := .cells [] 1 (5 + 1)) (L := ⟨w.heap.size, 0, cs.size⟩) rfl (fun y hy => by cases hy)
                fun w' hw' => ⟨cs, 5, (0, 0), hw', fun i y hi => by simp at hi, by simp, .inr (Nat.zero_le _), .inl rfl, .inr ⟨rfl, rfl, fun h => absurd h (by decide)⟩⟩
        · exact absurd hk Bool.false_ne_true

end
end Go.Proofs.YtbmloajiedchjaaGreatDoor
