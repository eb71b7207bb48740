/-
  Paths: part PaF: what beadle/path.Check tells of every text.
-/
import Derived.Test.YtompigcfojbpkaaSxO
import Derived.Test.YtompigcfojbpkaaPaE
namespace Go.Proofs.Ytompigcfojbpkaa
open Go.Sx Go.RowKit Go.Shelf

def ctPath : CT := fun args h K => match args with
  | [.v (.string s)] => K (.v (.bool (pathOk s.data.toList))) h
  | [.str l] => K (.v (.bool (pathOk l))) h
  | _ => false

def ctIdx : CT := fun args h K => match args with
  | [.v (.string s), .v (.int .u8 c)] => K (.v (.int .i64 (Lib.indexByte s.data.toList c.toNat.toUInt8))) h
  | [.str l, .v (.int .u8 c)] => K (.v (.int .i64 (Lib.indexByte l c.toNat.toUInt8))) h
  | _ => false

/-- The functions whose contracts are laid down. -/
def C0 : FuncId → Option CT := fun f => bif Nat.beq f 49 then some ctPath else bif Nat.beq f 102 then some ctIdx else none

theorem C0_sound : CTSound Try.prog C0 := by
  intro f ct h args h0 K hk ρ w H hargs
  unfold C0 at h
  cases h1 : Nat.beq f 49 with
  | true =>
    rw [h1] at h
    have := Nat.eq_of_beq_eq_true h1
    subst this
    simp only [cond_true, Option.some.injEq] at h
    subst h
    unfold ctPath at hk
    split at hk
    · rename_i s
      exact goes_of_below Try.func49 (by kernel_rfl) rfl (check1 s w) H hk rfl trivial
    · rename_i l
      exact goes_of_below Try.func49 (by kernel_rfl) rfl (check1 ⟨l.toArray⟩ w) H hk rfl trivial
    · exact absurd hk Bool.false_ne_true
  | false =>
    rw [h1] at h
    simp only [cond_false] at h
    cases h2 : Nat.beq f 102 with
    | true =>
      rw [h2] at h
      have := Nat.eq_of_beq_eq_true h2
      subst this
      simp only [cond_true, Option.some.injEq] at h
      subst h
      have key : ∀ (s : ByteArray) (c : Int), (callFunc 102 #[.string s, .int .u8 c]).run Try.prog w = .ok (.value (.int .i64 (Lib.indexByte s.data.toList c.toNat.toUInt8))) w := fun s c => by
        rw [run_callFunc_extern Try.func102 (by kernel_rfl) (by kernel_rfl) (by kernel_rfl) (e := Extern.BytealgIndexByte.indexByte) (by kernel_rfl), Lib.run_indexByteString]
        rfl
      unfold ctIdx at hk
      split at hk
      · rename_i s c
        exact goes_of_entry (key s c) H hk rfl trivial
      · rename_i l c
        exact goes_of_entry (key ⟨l.toArray⟩ c) H hk rfl trivial
      · exact absurd hk Bool.false_ne_true
    | false => rw [h2] at h; cases h

end Go.Proofs.Ytompigcfojbpkaa
