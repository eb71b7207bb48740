/-
  Paths: part PaB: what beadle/path.Check tells of every text.
-/
import Derived.Test.YtompigcfojbpkaaPaA
import Derived.Laws.RangeString
import Derived.LoopTactic
import Derived.Laws.RangeAny
namespace Go.Proofs.Ytompigcfojbpkaa
open Go.RowKit Go.Shelf

def okByte (b : UInt8) : Bool := decide (33 ≤ b.toNat) && decide (b.toNat ≤ 126) && !(b == 47)
def partOk (l : List UInt8) : Bool := l.all okByte && !l.isEmpty && !(l == [46]) && !(l == [46, 46])

theorem dec_cases (s : ByteArray) (pos : Nat) (hp : pos < s.size) :
    (okByte (s[pos]'hp) = true ∧ Utf8.decode s pos = ((s[pos]'hp).toNat, 1) ∧ 33 ≤ (Utf8.decode s pos).1 ∧ (Utf8.decode s pos).1 ≤ 126 ∧ (Utf8.decode s pos).1 ≠ 47) ∨
    (okByte (s[pos]'hp) = false ∧ ((Utf8.decode s pos).1 < 33 ∨ 126 < (Utf8.decode s pos).1 ∨ (Utf8.decode s pos).1 = 47)) := by
  by_cases ha : (s[pos]'hp).toNat < 128
  · have hd := decode_ascii s pos hp ha
    rw [hd]
    have h47 : ((s[pos]'hp) == 47) = decide ((s[pos]'hp).toNat = 47) := by
      rw [Bool.eq_iff_iff, beq_iff_eq, decide_eq_true_iff]
      exact ⟨fun h => by rw [h]; rfl, fun h => UInt8.toNat_inj.1 (by rw [h]; rfl)⟩
    unfold okByte
    rw [h47]
    by_cases h1 : 33 ≤ (s[pos]'hp).toNat <;> by_cases h2 : (s[pos]'hp).toNat ≤ 126 <;> by_cases h3 : (s[pos]'hp).toNat = 47 <;> simp [h1, h2, h3] <;> omega
  · refine .inr ⟨?_, .inr (.inl ?_)⟩
    · unfold okByte
      have : ¬ (s[pos]'hp).toNat ≤ 126 := by omega
      simp [this]
    · have := (decode_high s pos hp (by omega)).1
      omega

theorem part_bad (s : ByteArray) (pos : Nat) (hp : pos < s.size) (h : okByte (s[pos]'hp) = false) : partOk s.data.toList = false := by
  unfold partOk
  have : s.data.toList.all okByte = false := by
    rw [List.all_eq_false]
    exact ⟨s[pos]'hp, by simp [ByteArray.getElem_eq_getElem_data], by simp [h]⟩
  simp [this]

theorem part_end (s : ByteArray) (pos : Nat) (hp : ¬ pos < s.size) (h2 : (s.data.toList.take pos).all okByte = true) : Hid (partOk s.data.toList = (!s.toList.isEmpty && !s.toList == [46] && !s.toList == [46, 46])) := by
  show _ = _
  rw [List.take_of_length_le (by have : s.data.toList.length = s.size := rfl; omega)] at h2
  unfold partOk
  rw [h2, ByteArray.toList_eq]
  simp

theorem take_ok (s : ByteArray) (pos : Nat) (hp : pos < s.size) (h : okByte (s[pos]'hp) = true) (h2 : (s.data.toList.take pos).all okByte = true) : (s.data.toList.take (pos + 1)).all okByte = true := by
  have hl : pos < s.data.toList.length := by simpa using hp
  rw [List.take_succ_eq_append_getElem hl, List.all_append, h2]
  simpa [ByteArray.getElem_eq_getElem_data] using h

set_option maxRecDepth 100000 in
set_option maxHeartbeats 1000000 in
theorem part1 (s : ByteArray) (w : World) :
    Calls Try.prog 63 #[.string s] w fun e w' => e = .returned (.bool (partOk s.data.toList)) ∧ ∃ pos, w' = w.iter s pos := by
  go_enter Try.func63, Try.ntmps63
  go_wp2
  go_loopw [] (fun w' => ∃ (pos : Nat), w' = w.iter s pos ∧ pos ≤ s.size ∧ (s.data.toList.take pos).all okByte = true) (fun w' => s.size - w'.iterPos w.heap.size)
  case atStart => exact ⟨0, rfl, by omega, by simp⟩
  case round =>
    obtain ⟨pos, rfl, h1, h2⟩ := hrel
    by_cases hp : pos < s.size
    · have hnx : ∀ ty, (Instr.next (.pointer (some ⟨w.heap.size, 0, none⟩)) true ty).run Try.prog (w.iter s pos) = _ := fun ty => run_next_any w s pos ty hp
      go_wp2
      · rename_i g
        rcases dec_cases s pos hp with ⟨k1, k2, k3, k4, k5⟩ | ⟨k1, k2⟩
        · exfalso
          rcases g with g | g
          · omega
          · have := eq_of_beq g; omega
        · have k3 := part_bad s pos hp k1
          go_ret
          exact ⟨by rw [k3]; rfl, _, rfl⟩
      · rename_i g
        rcases dec_cases s pos hp with ⟨k1, k2, k3, k4, k5⟩ | ⟨k1, k2⟩
        · rw [k2]
          exact ⟨⟨pos + 1, rfl, by omega, take_ok s pos hp k1 h2⟩, by simp; omega⟩
        · exfalso
          obtain ⟨g, g'⟩ := g
          have := ne_of_beq_false g'
          omega
      · rename_i g
        rcases dec_cases s pos hp with ⟨k1, k2, k3, k4, k5⟩ | ⟨k1, k2⟩
        · exfalso; omega
        · have k3 := part_bad s pos hp k1
          go_ret
          exact ⟨by rw [k3]; rfl, _, rfl⟩
      · rename_i g
        rcases dec_cases s pos hp with ⟨k1, k2, k3, k4, k5⟩ | ⟨k1, k2⟩
        · exfalso; omega
        · have k3 := part_bad s pos hp k1
          go_ret
          exact ⟨by rw [k3]; rfl, _, rfl⟩
    · have hnx : ∀ ty, (Instr.next (.pointer (some ⟨w.heap.size, 0, none⟩)) true ty).run Try.prog (w.iter s pos) = _ := fun ty => run_next_end w s pos ty hp
      have h3 := part_end s pos hp h2
      go_wp2
      · rename_i g
        go_ret
        refine ⟨?_, _, rfl⟩
        rw [h3.out, g]; rfl
      · rename_i g
        go_ret
        refine ⟨?_, _, rfl⟩
        rw [h3.out, g]; rfl
      · go_ret
        refine ⟨?_, _, rfl⟩
        rw [h3.out]; rfl
end Go.Proofs.Ytompigcfojbpkaa
