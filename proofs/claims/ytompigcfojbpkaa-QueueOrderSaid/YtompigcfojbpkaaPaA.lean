/-
  Paths: part PaA: what beadle/path.Check tells of every text.
-/
import Derived.Test.YtompigcfojbpkaaRows
import Derived.WalkKit
import Derived.Laws.Externs
import Derived.Lib.Bytealg
import Derived.Lib.CutLaws
import Derived.Lib.IndexMore
import Derived.Tactics
import Derived.Tactics2
import Derived.Shelf.RegionOpen
import Derived.Shelf.Abstract
import Derived.Shelf.RegionOpenPlain
namespace Go.Proofs.Ytompigcfojbpkaa
open Go.RowKit Go.Shelf

set_option maxRecDepth 100000 in
theorem idx1 (s : ByteArray) (c : Int) (w : World) :
    Calls Try.prog 97 #[.string s, .int .u8 c] w fun e w' => e = .returned (.int .i64 (Lib.indexByte s.data.toList c.toNat.toUInt8)) ∧ w' = w := by
  go_enter Try.func97, Try.ntmps97
  go_wp2
  rw [run_callFunc_extern Try.func102 (by kernel_rfl) (by kernel_rfl) (by kernel_rfl) (e := Extern.BytealgIndexByte.indexByte) (by kernel_rfl), Lib.run_indexByteString]
  simp only [Result.andThen]
  rw [Oper.upon_value]
  go_wp2
  go_ret
  exact ⟨rfl, rfl⟩

set_option maxRecDepth 100000 in
set_option maxHeartbeats 1000000 in
theorem idx2 (s : ByteArray) (w : World) :
    Calls Try.prog 89 #[.string s, .string ⟨#[47]⟩] w fun e w' => e = .returned (.int .i64 (Lib.index s.data.toList [47])) ∧ w' = w := by
  go_enter Try.func89, Try.ntmps89
  go_wp2_with (go_at_call 97; refine (idx1 _ _ _).mono ?_; rintro e w' ⟨rfl, rfl⟩)
  · have h1 : ([47] == s.toList) = true := by assumption
    go_ret
    refine ⟨?_, rfl⟩
    rw [show Lib.index s.data.toList [47] = 0 from Lib.zero s ⟨#[47]⟩ (.inr (by simpa using h1))]
    rfl
  · go_ret
    refine ⟨?_, rfl⟩
    rw [show Lib.index s.data.toList [47] = _ from Lib.one s ⟨#[47]⟩ rfl]
    rfl

set_option maxRecDepth 100000 in
set_option maxHeartbeats 2000000 in
theorem cut1 (s : ByteArray) (hs : s.size < 4294967281) (w : World) :
    Calls Try.prog 76 #[.string s, .string ⟨#[47]⟩] w fun e w' => e = .returned (.tuple #[.string ⟨(Lib.cut s.data.toList [47]).1.toArray⟩, .string ⟨(Lib.cut s.data.toList [47]).2.1.toArray⟩, .bool (Lib.cut s.data.toList [47]).2.2]) ∧ ∃ n, w' = w.drewN n := by
  have mixed : Try.prog.follows .mixedOrders = true := by kernel_rfl
  rcases Lib.indexB_cases s ⟨#[47]⟩ with hix | ⟨i, hix, hroom⟩
  · obtain ⟨e1, e2, e3⟩ := Lib.cutB_miss s ⟨#[47]⟩ hix
    rw [show (Lib.cut s.data.toList [47]).1 = _ from rfl, show (⟨(Lib.cut s.data.toList [47]).1.toArray⟩ : ByteArray) = _ from e1, show (⟨(Lib.cut s.data.toList [47]).2.1.toArray⟩ : ByteArray) = _ from e2, show (Lib.cut s.data.toList [47]).2.2 = _ from e3]
    go_enter Try.func76, Try.ntmps76
    go_wp2_with (go_at_call 89; refine (idx2 _ _).mono ?_; rintro e w' ⟨rfl, rfl⟩; rw [show Lib.index s.data.toList [47] = _ from hix])
    go_ret3
    exact ⟨rfl, 0, rfl⟩
  · obtain ⟨e1, e2, e3⟩ := Lib.cutB_hit s ⟨#[47]⟩ i hix
    rw [show (⟨(Lib.cut s.data.toList [47]).1.toArray⟩ : ByteArray) = _ from e1, show (⟨(Lib.cut s.data.toList [47]).2.1.toArray⟩ : ByteArray) = _ from e2, show (Lib.cut s.data.toList [47]).2.2 = _ from e3]
    have c0 : (⟨#[47]⟩ : ByteArray).size = 1 := rfl
    rw [c0] at hroom ⊢
    have c1 : (0 : Int) ≤ ↑i := by omega
    have c2 : (↑i : Int) ≤ ↑s.size := by omega
    have c3 : (0 : Int) ≤ ↑i + 1 := by omega
    have c4 : (↑i + 1 : Int) ≤ ↑s.size := by omega
    go_enter Try.func76, Try.ntmps76
    go_wp2_with (go_at_call 89; refine (idx2 _ _).mono ?_; rintro e w' ⟨rfl, rfl⟩; rw [show Lib.index s.data.toList [47] = _ from hix])
    go_region_o
    go_wp2
    go_ret3
    exact ⟨rfl, 1, rfl⟩

set_option maxRecDepth 100000 in
set_option maxHeartbeats 1000000 in
theorem cut2 (s : ByteArray) (hs : s.size < 4294967281) (w : World) :
    Calls Try.prog 71 #[.string s, .string ⟨#[47]⟩] w fun e w' => e = .returned (.tuple #[.string ⟨(Lib.cut s.data.toList [47]).1.toArray⟩, .string ⟨(Lib.cut s.data.toList [47]).2.1.toArray⟩, .bool (Lib.cut s.data.toList [47]).2.2]) ∧ ∃ n, w' = w.drewN n := by
  go_enter Try.func71, Try.ntmps71
  go_wp2_with (go_at_call 76; refine (cut1 _ hs _).mono ?_; rintro e w' ⟨rfl, n, rfl⟩)
  go_ret3
  exact ⟨rfl, n, rfl⟩
end Go.Proofs.Ytompigcfojbpkaa
