/-
  Paths: part PaC: what beadle/path.Check tells of every text.
-/
import Derived.Test.YtompigcfojbpkaaPaB
import Derived.RangeFuncNested
import Derived.RangeFuncBound
import Derived.RangeFuncCalls
import Derived.RangeFuncLeaves
import Derived.OwnWalkIn
import Derived.TacticsInMore
import Derived.LoopNIn
import Derived.LoopIn
import Derived.WalkSmall
namespace Go.Proofs.Ytompigcfojbpkaa
open Go.RowKit Go.Shelf
attribute [local go_sem] Oper.semAt_some

/-- The parts between the slashes. -/
def splitL : List UInt8 → List (List UInt8)
  | [] => [[]]
  | b :: l => bif b == 47 then [] :: splitL l else match splitL l with
    | x :: xs => (b :: x) :: xs
    | [] => [[b]]

/-- What stands behind the first slash. -/
def restOk (q : List UInt8) : Bool := q.isEmpty || (splitL q).all partOk

theorem splitL_none : ∀ (l : List UInt8), (∀ b ∈ l, b ≠ 47) → splitL l = [l]
  | [], _ => rfl
  | b :: l, h => by
    have hb : (b == 47) = false := by simpa using h b (by simp)
    simp [splitL, hb, splitL_none l (fun x hx => h x (by simp [hx]))]

theorem splitL_cut : ∀ (a b : List UInt8), (∀ x ∈ a, x ≠ 47) → splitL (a ++ 47 :: b) = a :: splitL b
  | [], b, _ => by simp [splitL]
  | x :: a, b, h => by
    have hb : (x == 47) = false := by simpa using h x (by simp)
    simp [splitL, hb, splitL_cut a b (fun y hy => h y (by simp [hy]))]

theorem index_cases : ∀ (l : List UInt8), (Lib.index l [47] = -1 ∧ ∀ x ∈ l, x ≠ 47) ∨ (∃ a b, l = a ++ 47 :: b ∧ (∀ x ∈ a, x ≠ 47) ∧ Lib.index l [47] = a.length)
  | [] => .inl ⟨rfl, by simp⟩
  | x :: l => by
    by_cases hx : x = 47
    · subst hx
      exact .inr ⟨[], l, rfl, by simp, by simp [Lib.index, List.isPrefixOf]⟩
    · have e : List.isPrefixOf [47] (x :: l) = false := by
        simp [List.isPrefixOf]
        exact fun h => hx h.symm
      rcases index_cases l with ⟨h1, h2⟩ | ⟨a, b, h1, h2, h3⟩
      · refine .inl ⟨by simp [Lib.index, e, h1], fun y hy => ?_⟩
        rcases List.mem_cons.1 hy with rfl | hy
        · exact hx
        · exact h2 y hy
      · refine .inr ⟨x :: a, b, by simp [h1], fun y hy => ?_, ?_⟩
        · rcases List.mem_cons.1 hy with rfl | hy
          · exact hx
          · exact h2 y hy
        · have : ((a.length : Int) == -1) = false := by rw [beq_eq_false_iff_ne]; omega
          simp [Lib.index, e, h3, this]

/-- A text, cut at its first slash. -/
def CutFacts (q n1 n2 : List UInt8) : Prop :=
  (n1 = q ∧ n2 = [] ∧ splitL q = [q]) ∨ (q = n1 ++ 47 :: n2 ∧ splitL q = n1 :: splitL n2)

theorem cut_facts (q : List UInt8) : CutFacts q (Lib.cut q [47]).1 (Lib.cut q [47]).2.1 := by
  unfold Lib.cut
  rcases index_cases q with ⟨h1, h2⟩ | ⟨a, b, h1, h2, h3⟩
  · rw [h1]
    exact .inl ⟨rfl, rfl, splitL_none q h2⟩
  · rw [h3, if_pos (by omega)]
    refine .inr ?_
    have e1 : q.take (↑a.length : Int).toNat = a := by rw [h1]; simp
    have e2 : q.drop ((↑a.length : Int).toNat + [47].length) = b := by
      rw [h1]
      simp
    simp only [e1]
    rw [show q.drop ((↑a.length : Int).toNat + [(47 : UInt8)].length) = b from e2]
    rw [h1]
    exact ⟨rfl, splitL_cut a b h2⟩

theorem cut3 (s : ByteArray) (hs : s.size < 4294967281) (w : World) :
    Calls Try.prog 71 #[.string s, .string ⟨#[47]⟩] w fun e w' => ∃ n1 n2 b n, e = .returned (.tuple #[.string n1, .string n2, .bool b]) ∧ w' = w.drewN n ∧ Hid (CutFacts s.data.toList n1.data.toList n2.data.toList) := by
  refine (cut2 s hs w).mono ?_
  rintro e w' ⟨rfl, n, rfl⟩
  exact ⟨_, _, _, n, rfl, rfl, cut_facts _⟩

end Go.Proofs.Ytompigcfojbpkaa
