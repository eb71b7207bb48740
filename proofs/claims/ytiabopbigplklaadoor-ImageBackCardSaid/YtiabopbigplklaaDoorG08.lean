/-
  Plain: numbers are read, seven bits a byte.
  Plain: reading numbers, texts and bytes one behind the other; as the programs reckon.
  Plain: a config out of bytes, as both programs read it.
  Plain: the CRC-32, four bits at a time by a table, is the CRC-32 bit by bit.
  Plain: the CRC-32 as both programs reckon it, in numbers of 32 bits.
  Rows that a loop makes by append.
  Rows that are made by append: many elements at once.
  Contracts: what is lent: rows in blocks of their own, with marks behind their ends; bytes.
  Lists that were handed out, and what marking and growing them leaves (the kit's look at what lies apart).
  Contract: bytes.growSlice, by the kit's law of it over any program.
  The program's writer: a bytes.Buffer in a block of the arena.
  The program's writer: a byte more.
  The program's writer: a text more.
-/
import Derived.Test.YtiabopbigplklaaDoorG07
import Derived.Test.YtiabopbigplklaaDoorG01
import Derived.Shelf.Bytes.GrowSlice
namespace Go.Proofs.YtiabopbigplklaaDoor
open Go.Sx Go.RowKit
noncomputable section

/-- The number that bytes begin with, and what stands behind it. -/
def vgetF : Nat → Nat → List UInt8 → Option (Nat × List UInt8)
  | _, _, [] => none
  | k, u, c :: l => if 128 ≤ c.toNat ∧ k < 9 then vgetF (k + 1) (u + (c.toNat - 128) * 128 ^ k) l
    else if c.toNat = 0 ∧ 0 < k ∨ 1 < c.toNat ∧ k = 9 then none
    else some (u + c.toNat * 128 ^ k, l)

def zag (u : Nat) : Int := if u % 2 = 0 then ((u / 2 : Nat) : Int) else -((u / 2 : Nat) : Int) - 1

def vget (l : List UInt8) : Option (Int × List UInt8) := match vgetF 0 0 l with
  | some r => some (zag r.1, r.2)
  | none => none

theorem zag_le (u : Nat) (h : u < 18446744073709551616) : -9223372036854775808 ≤ zag u ∧ zag u ≤ 9223372036854775807 := by
  unfold zag
  split <;> omega

theorem vgetF_lt : ∀ (l : List UInt8) (k u v : Nat) (r : List UInt8), k ≤ 9 → u < 128 ^ k → vgetF k u l = some (v, r) → v < 18446744073709551616 ∧ r.length < l.length
  | [], _, _, _, _, _, _, h => by cases h
  | c :: l, k, u, v, r, hk, hu, h => by
    unfold vgetF at h
    have hc := c.toNat_lt
    split at h
    · rename_i h1
      have h2 := vgetF_lt l (k + 1) _ v r (by omega) (by
        rw [Nat.pow_succ]
        have : (c.toNat - 128) * 128 ^ k ≤ 127 * 128 ^ k := Nat.mul_le_mul_right _ (by omega)
        omega) h
      exact ⟨h2.1, by simp only [List.length_cons]; omega⟩
    · rename_i h1
      split at h
      · cases h
      · rename_i h2
        injection h with h
        injection h with h3 h4
        subst h3; subst h4
        refine ⟨?_, by simp⟩
        by_cases h9 : k = 9
        · subst h9
          have : c.toNat * 128 ^ 9 ≤ 1 * 128 ^ 9 := Nat.mul_le_mul_right _ (by omega)
          have e : (128 : Nat) ^ 9 = 9223372036854775808 := by decide
          omega
        · have h10 : c.toNat ≤ 127 := by omega
          have : c.toNat * 128 ^ k ≤ 127 * 128 ^ k := Nat.mul_le_mul_right _ h10
          have hp : (128 : Nat) ^ k ≤ 128 ^ 8 := Nat.pow_le_pow_right (by decide) (by omega)
          have e : (128 : Nat) ^ 8 = 72057594037927936 := by decide
          omega

theorem vget_lt {l : List UInt8} {n : Int} {r : List UInt8} (h : vget l = some (n, r)) : (-9223372036854775808 ≤ n ∧ n ≤ 9223372036854775807) ∧ r.length < l.length := by
  unfold vget at h
  split at h
  · rename_i x hx
    obtain ⟨v, r'⟩ := x
    injection h with h
    injection h with h1 h2
    have h1 : zag v = n := h1
    have h2 : r' = r := h2
    subst h1; subst h2
    have := vgetF_lt l 0 0 v r' (by decide) (by decide) hx
    exact ⟨zag_le v this.1, this.2⟩
  · cases h

/-- What is put is got. -/
theorem vget_put : ∀ (f k u0 u : Nat) (r : List UInt8), f + k = 9 → u < 2 * 128 ^ f → (0 < k → 0 < u) → vgetF k u0 (vput f u ++ r) = some (u0 + u * 128 ^ k, r)
  | 0, k, u0, u, r, hk, hu, h0 => by
    have hk : k = 9 := by omega
    subst hk
    have hu : u < 2 := by simpa using hu
    have hp := h0 (by decide)
    show vgetF 9 u0 (UInt8.ofNat u :: r) = _
    unfold vgetF
    rw [UInt8.toNat_ofNat_of_lt' (by omega : u < 256), if_neg (by omega), if_neg (by omega)]
  | f + 1, k, u0, u, r, hk, hu, h0 => by
    unfold vput
    split
    · rename_i h1
      show vgetF k u0 (UInt8.ofNat u :: r) = _
      unfold vgetF
      rw [UInt8.toNat_ofNat_of_lt' (by omega : u < 256), if_neg (by omega), if_neg (by omega)]
    · rename_i h1
      show vgetF k u0 (UInt8.ofNat (u % 128 + 128) :: (vput f (u / 128) ++ r)) = _
      unfold vgetF
      rw [UInt8.toNat_ofNat_of_lt' (by omega : u % 128 + 128 < 256), if_pos (by omega), vget_put f (k + 1) _ (u / 128) r (by omega) (by rw [Nat.pow_succ] at hu; omega) (fun _ => by omega)]
      congr 2
      rw [Nat.pow_succ, Nat.add_sub_cancel, Nat.add_assoc, Nat.mul_comm (128 ^ k) 128, ← Nat.mul_assoc, ← Nat.add_mul]
      congr 2
      omega

theorem zag_zig {n : Int} : zag (zig n) = n := by
  unfold zag zig
  split <;> split <;> omega

theorem vget_vints {n : Int} (h1 : -9223372036854775808 ≤ n) (h2 : n ≤ 9223372036854775807) (r : List UInt8) : vget (vints n ++ r) = some (n, r) := by
  unfold vget vints
  rw [vget_put 9 0 0 (zig n) r rfl (by have := zig_lt h1 h2; exact Nat.lt_of_lt_of_eq this (by decide)) (fun h => absurd h (by decide))]
  show some (zag (0 + zig n * 128 ^ 0), r) = _
  rw [Nat.zero_add, Nat.pow_zero, Nat.mul_one, zag_zig]

end
end Go.Proofs.YtiabopbigplklaaDoor

namespace Go.Proofs.YtiabopbigplklaaDoor
open Go.Sx Go.RowKit
noncomputable section

/-- What is left; none: it is not good any more. -/
abbrev RdSt := Option (List UInt8)

def pByte : RdSt → UInt8 × RdSt
  | some (c :: r) => (c, some r)
  | _ => (0, none)

def pInt : RdSt → Int × RdSt
  | none => (0, none)
  | some l => match vget l with
    | some (n, r) => (n, some r)
    | none => (0, none)

def pCount (most : Int) (s : RdSt) : Int × RdSt := if (pInt s).1 < 0 ∨ most < (pInt s).1 then (0, none) else pInt s

def pText (most : Int) (s : RdSt) : List UInt8 × RdSt := match (pCount most s).2 with
  | none => ([], none)
  | some l => if (pCount most s).1.toNat ≤ l.length then (l.take (pCount most s).1.toNat, some (l.drop (pCount most s).1.toNat)) else ([], none)

theorem pInt_none : pInt none = (0, none) := rfl

theorem pInt_bad {s : RdSt} (h : (pInt s).2 = none) : (pInt s).1 = 0 := by
  unfold pInt at h ⊢
  split at h
  · rfl
  · split at h
    · cases h
    · rfl

theorem pInt_in (s : RdSt) : -9223372036854775808 ≤ (pInt s).1 ∧ (pInt s).1 ≤ 9223372036854775807 := by
  unfold pInt
  split
  · exact ⟨by decide, by decide⟩
  · split
    · rename_i h
      exact (vget_lt h).1
    · exact ⟨by decide, by decide⟩

def stLen : RdSt → Nat
  | none => 0
  | some l => l.length

theorem pInt_len (s : RdSt) : stLen (pInt s).2 ≤ stLen s := by
  unfold pInt
  split
  · exact Nat.le_refl _
  · split
    · rename_i h
      exact Nat.le_of_lt (vget_lt h).2
    · exact Nat.zero_le _

theorem pCount_len (most : Int) (s : RdSt) : stLen (pCount most s).2 ≤ stLen s := by
  unfold pCount
  split
  · exact Nat.zero_le _
  · exact pInt_len s

theorem pText_len (most : Int) (s : RdSt) : stLen (pText most s).2 ≤ stLen s ∧ (pText most s).1.length ≤ stLen s := by
  have h := pCount_len most s
  unfold pText
  split
  · exact ⟨Nat.zero_le _, Nat.zero_le _⟩
  · rename_i l hl
    rw [hl] at h
    have h : l.length ≤ stLen s := h
    split
    · refine ⟨?_, ?_⟩
      · show (l.drop _).length ≤ _
        rw [List.length_drop]; omega
      · show (l.take _).length ≤ _
        rw [List.length_take]; omega
    · exact ⟨Nat.zero_le _, Nat.zero_le _⟩

theorem pByte_len (s : RdSt) : stLen (pByte s).2 ≤ stLen s := by
  unfold pByte
  split
  · exact Nat.le_succ _
  · exact Nat.zero_le _

theorem pCount_in {most : Int} {s : RdSt} (hm : 0 ≤ most) : 0 ≤ (pCount most s).1 ∧ (pCount most s).1 ≤ most := by
  unfold pCount
  split
  · exact ⟨Int.le_refl _, hm⟩
  · omega

/-! ### As the programs reckon -/

theorem or_add {u c k : Nat} (hu : u < 128 ^ k) (hc : c < 128) (hk : k ≤ 9) (h9 : k = 9 → c ≤ 1) :
    bitsOf .or .u64 (u : Int) (IntKind.u64.wrap ((c : Int) * 2 ^ (min (7 * k) 64))) = ((u + c * 128 ^ k : Nat) : Int) := by
  have e7 : 128 ^ k = 2 ^ (7 * k) := by rw [show 128 = 2 ^ 7 from rfl, ← Nat.pow_mul]
  have hmin : min (7 * k) 64 = 7 * k := by omega
  have hlt : u + c * 128 ^ k < 18446744073709551616 := by
    by_cases h : k = 9
    · subst h
      have := h9 rfl
      have e : (128 : Nat) ^ 9 = 9223372036854775808 := by decide
      rw [e] at hu ⊢
      omega
    · have h1 : c * 128 ^ k ≤ 127 * 128 ^ k := Nat.mul_le_mul_right _ (by omega)
      have h2 : 128 ^ (k + 1) ≤ 128 ^ 9 := Nat.pow_le_pow_right (by decide) (by omega)
      have e : (128 : Nat) ^ 9 = 9223372036854775808 := by decide
      rw [Nat.pow_succ] at h2
      rw [e] at h2
      omega
  have hw : IntKind.u64.wrap ((c : Int) * 2 ^ (min (7 * k) 64)) = ((c * 128 ^ k : Nat) : Int) := by
    rw [hmin, u64_wrap]
    · rw [e7]; push_cast; rfl
    · exact Int.mul_nonneg (Int.natCast_nonneg _) (by exact_mod_cast Nat.zero_le (2 ^ (7 * k)))
    · have : ((c : Int) * 2 ^ (7 * k)) = ((c * 128 ^ k : Nat) : Int) := by rw [e7]; push_cast; rfl
      rw [this]; omega
  rw [hw]
  show IntKind.u64.wrap (((BitVec.ofInt 64 ((u : Nat) : Int) ||| BitVec.ofInt 64 ((c * 128 ^ k : Nat) : Int)).toNat : Nat) : Int) = _
  rw [BitVec.ofInt_natCast, BitVec.ofInt_natCast, BitVec.toNat_or, BitVec.toNat_ofNat, BitVec.toNat_ofNat, Nat.mod_eq_of_lt (by omega), Nat.mod_eq_of_lt (by omega)]
  have hor : u ||| c * 128 ^ k = u + c * 128 ^ k := by
    rw [e7] at hu ⊢
    rw [Nat.or_comm, ← Nat.shiftLeft_eq, ← Nat.shiftLeft_add_eq_or_of_lt hu, Nat.add_comm]
  rw [hor, u64_wrap (by omega) (by omega)]

theorem and_127 {c : Nat} (h : c < 256) : bitsOf .and .u64 (c : Int) 127 = ((c % 128 : Nat) : Int) := by
  have key : ∀ x : Fin 256, bitsOf .and .u64 ((x.val : Nat) : Int) 127 = ((x.val % 128 : Nat) : Int) := by decide +kernel
  exact key ⟨c, h⟩

theorem and_1 (u : Nat) (h : u < 18446744073709551616) : bitsOf .and .u64 (u : Int) 1 = ((u % 2 : Nat) : Int) := by
  show IntKind.u64.wrap (((BitVec.ofInt 64 ((u : Nat) : Int) &&& BitVec.ofInt 64 1).toNat : Nat) : Int) = _
  have e : BitVec.ofInt 64 1 = 1#64 := rfl
  rw [e, BitVec.ofInt_natCast, BitVec.toNat_and, BitVec.toNat_ofNat, Nat.mod_eq_of_lt (by omega)]
  have e2 : (1#64).toNat = 1 := rfl
  rw [e2, Nat.and_one_is_mod, u64_wrap (by omega) (by omega)]

theorem zag_prog {u : Nat} (h : u < 18446744073709551616) :
    bitsOf .xor .i64 (IntKind.i64.wrap ((u : Int).fdiv (2 ^ (min (1 : Int).toNat IntKind.u64.bits)))) (IntKind.i64.wrap (0 - IntKind.i64.wrap (bitsOf .and .u64 (u : Int) 1))) = zag u := by
  have e1 : (u : Int).fdiv (2 ^ (min (1 : Int).toNat IntKind.u64.bits)) = ((u / 2 : Nat) : Int) := by
    show (u : Int).fdiv 2 = _
    rw [Int.fdiv_eq_ediv_of_nonneg _ (by decide)]
    omega
  rw [e1, and_1 u h, i64_in (by omega) (by omega), i64_in (n := ((u % 2 : Nat) : Int)) (by omega) (by omega), i64_in (by omega) (by omega)]
  show IntKind.i64.wrap (((BitVec.ofInt 64 ((u / 2 : Nat) : Int) ^^^ BitVec.ofInt 64 (0 - ((u % 2 : Nat) : Int))).toNat : Nat) : Int) = _
  unfold zag
  by_cases h0 : u % 2 = 0
  · rw [if_pos h0, h0]
    have e : BitVec.ofInt 64 (0 - ((0 : Nat) : Int)) = 0#64 := by decide
    rw [e, BitVec.xor_zero, BitVec.ofInt_natCast, BitVec.toNat_ofNat, Nat.mod_eq_of_lt (by omega), i64_in (by omega) (by omega)]
  · have h1 : u % 2 = 1 := by omega
    rw [if_neg h0, h1]
    have e : BitVec.ofInt 64 (0 - ((1 : Nat) : Int)) = BitVec.allOnes 64 := by decide +kernel
    rw [e, BitVec.xor_allOnes, BitVec.toNat_not, BitVec.ofInt_natCast, BitVec.toNat_ofNat, Nat.mod_eq_of_lt (by omega)]
    have hw : ∀ n : Nat, n < 9223372036854775808 → IntKind.i64.wrap ((18446744073709551615 - n : Nat) : Int) = -(n : Int) - 1 := fun n hn => by
      simp only [IntKind.wrap, IntKind.bits, IntKind.signed]
      simp
      omega
    exact hw _ (by omega)

theorem zag_ref_odd {u : Nat} (h : u < 18446744073709551616) (h1 : (u : Int).tmod 2 = 1) : IntKind.i64.wrap (IntKind.i64.wrap (0 - IntKind.i64.wrap (IntKind.u64.wrap ((u : Int).tdiv 2))) - 1) = zag u := by
  rw [Int.tmod_eq_emod_of_nonneg (by omega)] at h1
  have e : IntKind.u64.wrap ((u : Int).tdiv 2) = ((u / 2 : Nat) : Int) := by
    rw [Int.tdiv_eq_ediv_of_nonneg (by omega), u64_wrap (by omega) (by omega)]; omega
  rw [e, i64_in (n := ((u / 2 : Nat) : Int)) (by omega) (by omega), i64_in (n := 0 - ((u / 2 : Nat) : Int)) (by omega) (by omega), i64_in (by omega) (by omega)]
  unfold zag
  rw [if_neg (by omega)]
  omega

theorem zag_ref_even {u : Nat} (h : u < 18446744073709551616) (h1 : ¬ (u : Int).tmod 2 = 1) : IntKind.i64.wrap (IntKind.u64.wrap ((u : Int).tdiv 2)) = zag u := by
  rw [Int.tmod_eq_emod_of_nonneg (by omega)] at h1
  have e : IntKind.u64.wrap ((u : Int).tdiv 2) = ((u / 2 : Nat) : Int) := by
    rw [Int.tdiv_eq_ediv_of_nonneg (by omega), u64_wrap (by omega) (by omega)]; omega
  rw [e, i64_in (n := ((u / 2 : Nat) : Int)) (by omega) (by omega)]
  unfold zag
  rw [if_pos (by omega)]

/-! ### A loop over a number's bytes -/

/-- k bytes are read, that give u. -/
def GI (l : List UInt8) (k u : Nat) : Prop := k ≤ l.length ∧ k ≤ 9 ∧ u < 128 ^ k ∧ vgetF k u (l.drop k) = vgetF 0 0 l

theorem GI.zero (l : List UInt8) : GI l 0 0 := ⟨Nat.zero_le _, by decide, by decide, rfl⟩

theorem GI.next {l : List UInt8} {k u : Nat} (h : GI l k u) (hk : k < l.length) (hc : 128 ≤ l[k].toNat) (h9 : k < 9) : GI l (k + 1) (u + (l[k].toNat - 128) * 128 ^ k) := by
  obtain ⟨_, h2, h3, h4⟩ := h
  have hb := l[k].toNat_lt
  refine ⟨hk, h9, ?_, ?_⟩
  · rw [Nat.pow_succ]
    have : (l[k].toNat - 128) * 128 ^ k ≤ 127 * 128 ^ k := Nat.mul_le_mul_right _ (by omega)
    omega
  · rw [← h4, List.drop_eq_getElem_cons hk]
    conv => rhs; unfold vgetF
    rw [if_pos ⟨hc, h9⟩]

theorem GI.none_end {l : List UInt8} {u : Nat} (h : GI l l.length u) : vget l = none := by
  obtain ⟨_, _, _, h4⟩ := h
  unfold vget
  rw [← h4, List.drop_length]
  unfold vgetF
  rfl

theorem GI.bad {l : List UInt8} {k u : Nat} (h : GI l k u) (hk : k < l.length) (hno : ¬ (128 ≤ l[k].toNat ∧ k < 9)) (hb : l[k].toNat = 0 ∧ 0 < k ∨ 1 < l[k].toNat ∧ k = 9) : vget l = none := by
  obtain ⟨_, _, _, h4⟩ := h
  unfold vget
  rw [← h4, List.drop_eq_getElem_cons hk]
  unfold vgetF
  rw [if_neg hno, if_pos hb]

theorem GI.done {l : List UInt8} {k u : Nat} (h : GI l k u) (hk : k < l.length) (hno : ¬ (128 ≤ l[k].toNat ∧ k < 9)) (hb : ¬ (l[k].toNat = 0 ∧ 0 < k ∨ 1 < l[k].toNat ∧ k = 9)) :
    vget l = some (zag (u + l[k].toNat * 128 ^ k), l.drop (k + 1)) ∧ l[k].toNat < 128 ∧ (k = 9 → l[k].toNat ≤ 1) ∧ u + l[k].toNat * 128 ^ k < 18446744073709551616 := by
  obtain ⟨_, h2, h3, h4⟩ := h
  have hv : vgetF k u (l.drop k) = some (u + l[k].toNat * 128 ^ k, l.drop (k + 1)) := by
    rw [List.drop_eq_getElem_cons hk]
    conv => lhs; unfold vgetF
    rw [if_neg hno, if_neg hb]
  refine ⟨?_, by omega, by omega, (vgetF_lt (l.drop k) k u _ _ h2 h3 hv).1⟩
  unfold vget
  rw [← h4, hv]

end
end Go.Proofs.YtiabopbigplklaaDoor

namespace Go.Proofs.YtiabopbigplklaaDoor
open Go.Sx Go.RowKit
noncomputable section
open Classical

def pMem (s : RdSt) : MemD × RdSt :=
  (⟨(pCount 7 s).1, (pCount 2 (pCount 7 s).2).1, (pCount 1000 (pCount 2 (pCount 7 s).2).2).1, (pCount 7 (pCount 1000 (pCount 2 (pCount 7 s).2).2).2).1⟩, (pCount 7 (pCount 1000 (pCount 2 (pCount 7 s).2).2).2).2)

def pMems : Nat → RdSt → List MemD × RdSt
  | 0, s => ([], s)
  | k + 1, s => ((pMems k s).1 ++ [(pMem (pMems k s).2).1], (pMem (pMems k s).2).2)

/-- A config that bytes are. -/
def getE (l : List UInt8) : Option (Int × List MemD) :=
  if (pMems (pCount 7 (pInt (some l)).2).1.toNat (pCount 7 (pInt (some l)).2).2).2 = some [] ∧ ensD (pInt (some l)).1 (pMems (pCount 7 (pInt (some l)).2).1.toNat (pCount 7 (pInt (some l)).2).2).1 = 0
  then some ((pInt (some l)).1, (pMems (pCount 7 (pInt (some l)).2).1.toNat (pCount 7 (pInt (some l)).2).2).1) else none

/-! ### The document's way -/

def pSmall (most : Int) (s : RdSt) : Int × RdSt := (if (pInt s).1 < 0 ∨ most < (pInt s).1 then most + 1 else (pInt s).1, (pInt s).2)

def dMem (s : RdSt) : MemD × RdSt :=
  (⟨(pSmall 7 s).1, (pSmall 2 (pSmall 7 s).2).1, (pSmall 1000 (pSmall 2 (pSmall 7 s).2).2).1, (pSmall 7 (pSmall 1000 (pSmall 2 (pSmall 7 s).2).2).2).1⟩, (pSmall 7 (pSmall 1000 (pSmall 2 (pSmall 7 s).2).2).2).2)

def dMems : Nat → RdSt → List MemD × RdSt
  | 0, s => ([], s)
  | k + 1, s => ((dMems k s).1 ++ [(dMem (dMems k s).2).1], (dMem (dMems k s).2).2)

def getD (l : List UInt8) : Option (Int × List MemD) :=
  if (dMems (pCount 7 (pInt (some l)).2).1.toNat (pCount 7 (pInt (some l)).2).2).2 = some [] ∧ ensD (pInt (some l)).1 (dMems (pCount 7 (pInt (some l)).2).1.toNat (pCount 7 (pInt (some l)).2).2).1 = 0
  then some ((pInt (some l)).1, (dMems (pCount 7 (pInt (some l)).2).1.toNat (pCount 7 (pInt (some l)).2).2).1) else none

theorem pCount_none {most : Int} (h : 0 ≤ most) : pCount most none = (0, none) := if_neg (by show ¬ ((0 : Int) < 0 ∨ most < 0); omega)

theorem pMem_none : pMem none = (⟨0, 0, 0, 0⟩, none) := by
  unfold pMem
  rw [pCount_none (by decide : (0 : Int) ≤ 7), pCount_none (by decide : (0 : Int) ≤ 2), pCount_none (by decide : (0 : Int) ≤ 1000)]
  simp only [pCount_none (by decide : (0 : Int) ≤ 7)]

theorem pSmall_in {most : Int} {s : RdSt} (h : (pSmall most s).1 ≤ most) : pCount most s = pSmall most s := by
  unfold pSmall at h ⊢
  by_cases h2 : (pInt s).1 < 0 ∨ most < (pInt s).1
  · rw [if_pos h2] at h
    have h : most + 1 ≤ most := h
    omega
  · rw [if_neg h2]
    exact if_neg h2

theorem pSmall_out {most : Int} {s : RdSt} (h : ¬ (pSmall most s).1 ≤ most) : pCount most s = (0, none) := by
  unfold pSmall at h
  by_cases h2 : (pInt s).1 < 0 ∨ most < (pInt s).1
  · exact if_pos h2
  · rw [if_neg h2] at h
    have h : ¬ (pInt s).1 ≤ most := h
    exact absurd (.inr (by omega)) h2

/-- In range; so both ways are one. -/
def DIn (m : MemD) : Prop := m.id ≤ 7 ∧ m.role ≤ 2 ∧ m.weight ≤ 1000 ∧ m.group ≤ 7

theorem dMem_in {s : RdSt} (h : DIn (dMem s).1) : pMem s = dMem s := by
  obtain ⟨h1, h2, h3, h4⟩ := h
  have h1 : (pSmall 7 s).1 ≤ 7 := h1
  have h2 : (pSmall 2 (pSmall 7 s).2).1 ≤ 2 := h2
  have h3 : (pSmall 1000 (pSmall 2 (pSmall 7 s).2).2).1 ≤ 1000 := h3
  have h4 : (pSmall 7 (pSmall 1000 (pSmall 2 (pSmall 7 s).2).2).2).1 ≤ 7 := h4
  unfold pMem dMem
  rw [pSmall_in h1, pSmall_in h2, pSmall_in h3, pSmall_in h4]

theorem dMem_out {s : RdSt} (h : ¬ DIn (dMem s).1) : (pMem s).2 = none := by
  have e7 : pCount 7 none = (0, none) := pCount_none (by decide)
  have e2 : pCount 2 none = (0, none) := pCount_none (by decide)
  have e1000 : pCount 1000 none = (0, none) := pCount_none (by decide)
  unfold pMem
  show (pCount 7 (pCount 1000 (pCount 2 (pCount 7 s).2).2).2).2 = none
  by_cases h1 : (pSmall 7 s).1 ≤ 7
  · rw [pSmall_in h1]
    by_cases h2 : (pSmall 2 (pSmall 7 s).2).1 ≤ 2
    · rw [pSmall_in h2]
      by_cases h3 : (pSmall 1000 (pSmall 2 (pSmall 7 s).2).2).1 ≤ 1000
      · rw [pSmall_in h3]
        by_cases h4 : (pSmall 7 (pSmall 1000 (pSmall 2 (pSmall 7 s).2).2).2).1 ≤ 7
        · exact absurd ⟨h1, h2, h3, h4⟩ h
        · rw [pSmall_out h4]
      · rw [pSmall_out h3, e7]
    · rw [pSmall_out h2, e1000, e7]
  · rw [pSmall_out h1, e2, e1000, e7]

theorem pMems_none : ∀ k, (pMems k none).2 = none
  | 0 => rfl
  | k + 1 => by
    show (pMem (pMems k none).2).2 = none
    rw [pMems_none k, pMem_none]

theorem dMems_cases (s : RdSt) : ∀ k, (∀ m ∈ (dMems k s).1, DIn m) ∧ pMems k s = dMems k s ∨ (∃ m ∈ (dMems k s).1, ¬ DIn m) ∧ (pMems k s).2 = none
  | 0 => .inl ⟨fun m hm => (by cases hm), rfl⟩
  | k + 1 => by
    rcases dMems_cases s k with ⟨h1, h2⟩ | ⟨⟨m, h1, h2⟩, h3⟩
    · by_cases h : DIn (dMem (dMems k s).2).1
      · refine .inl ⟨fun m hm => ?_, ?_⟩
        · rcases List.mem_append.1 hm with hm | hm
          · exact h1 m hm
          · rw [List.mem_singleton] at hm
            rw [hm]; exact h
        · show ((pMems k s).1 ++ [(pMem (pMems k s).2).1], (pMem (pMems k s).2).2) = ((dMems k s).1 ++ [(dMem (dMems k s).2).1], (dMem (dMems k s).2).2)
          rw [h2, dMem_in h]
      · refine .inr ⟨⟨_, List.mem_append.2 (.inr (List.mem_singleton.2 rfl)), h⟩, ?_⟩
        show (pMem (pMems k s).2).2 = none
        rw [h2]
        exact dMem_out h
    · refine .inr ⟨⟨m, List.mem_append.2 (.inl h1), h2⟩, ?_⟩
      show (pMem (pMems k s).2).2 = none
      rw [h3, pMem_none]

theorem getD_eq (l : List UInt8) : getD l = getE l := by
  unfold getD getE
  rcases dMems_cases (pCount 7 (pInt (some l)).2).2 (pCount 7 (pInt (some l)).2).1.toNat with ⟨_, h⟩ | ⟨⟨m, h1, h2⟩, h3⟩
  · rw [h]
  · rw [if_neg, if_neg]
    · rintro ⟨h4, _⟩
      rw [h3] at h4
      cases h4
    · rintro ⟨_, h4⟩
      obtain ⟨_, _, _, h5⟩ := ens_in h4
      obtain ⟨k1, k2, k3, k4, k5, k6, k7, k8⟩ := h5 m h1
      exact h2 ⟨k2, k4, k6, k8⟩

theorem pMems_len (s : RdSt) : ∀ k, (pMems k s).1.length = k
  | 0 => rfl
  | k + 1 => by
    show ((pMems k s).1 ++ [_]).length = k + 1
    rw [List.length_append, pMems_len s k]; rfl

theorem dMems_len (s : RdSt) : ∀ k, (dMems k s).1.length = k
  | 0 => rfl
  | k + 1 => by
    show ((dMems k s).1 ++ [_]).length = k + 1
    rw [List.length_append, dMems_len s k]; rfl

theorem pMem_stlen (s : RdSt) : stLen (pMem s).2 ≤ stLen s := by
  have h1 := pCount_len 7 s
  have h2 := pCount_len 2 (pCount 7 s).2
  have h3 := pCount_len 1000 (pCount 2 (pCount 7 s).2).2
  have h4 := pCount_len 7 (pCount 1000 (pCount 2 (pCount 7 s).2).2).2
  show stLen (pCount 7 (pCount 1000 (pCount 2 (pCount 7 s).2).2).2).2 ≤ _
  omega

theorem pMems_stlen (s : RdSt) : ∀ k, stLen (pMems k s).2 ≤ stLen s
  | 0 => Nat.le_refl _
  | k + 1 => Nat.le_trans (pMem_stlen _) (pMems_stlen s k)

theorem dMem_stlen (s : RdSt) : stLen (dMem s).2 ≤ stLen s := by
  have hs : ∀ m t, stLen (pSmall m t).2 ≤ stLen t := fun _ t => pInt_len t
  have h1 := hs 7 s
  have h2 := hs 2 (pSmall 7 s).2
  have h3 := hs 1000 (pSmall 2 (pSmall 7 s).2).2
  have h4 := hs 7 (pSmall 1000 (pSmall 2 (pSmall 7 s).2).2).2
  show stLen (pSmall 7 (pSmall 1000 (pSmall 2 (pSmall 7 s).2).2).2).2 ≤ _
  omega

theorem dMems_stlen (s : RdSt) : ∀ k, stLen (dMems k s).2 ≤ stLen s
  | 0 => Nat.le_refl _
  | k + 1 => Nat.le_trans (dMem_stlen _) (dMems_stlen s k)

end
end Go.Proofs.YtiabopbigplklaaDoor

namespace Go.Proofs.YtiabopbigplklaaDoor
open Go.Sx Go.RowKit
noncomputable section

/-- One bit. -/
def crcBit (c : BitVec 32) : BitVec 32 := (c >>> 1) ^^^ (if c.getLsbD 0 then 0xEDB88320#32 else 0#32)

def crcBits : Nat → BitVec 32 → BitVec 32
  | 0, c => c
  | n + 1, c => crcBits n (crcBit c)

/-- Four bits by a table. -/
def crcTab (i : BitVec 32) : BitVec 32 := crcBits 4 i

def crcNib (c : BitVec 32) : BitVec 32 := (c >>> 4) ^^^ crcTab (c &&& 15#32)

theorem crcBit_xor (a b : BitVec 32) : crcBit (a ^^^ b) = crcBit a ^^^ crcBit b := by
  unfold crcBit
  rw [BitVec.ushiftRight_xor_distrib, BitVec.getLsbD_xor]
  have h : ∀ x y : BitVec 32, ∀ p q : Bool, x ^^^ y ^^^ (if (p ^^ q) = true then 0xEDB88320#32 else 0#32) = (x ^^^ (if p = true then 0xEDB88320#32 else 0#32)) ^^^ (y ^^^ (if q = true then 0xEDB88320#32 else 0#32)) := fun x y p q => by
    have e : (if (p ^^ q) = true then 0xEDB88320#32 else 0#32) = (if p = true then 0xEDB88320#32 else 0#32) ^^^ (if q = true then 0xEDB88320#32 else 0#32) := by
      cases p <;> cases q <;> decide
    rw [e]
    ac_rfl
  exact h _ _ _ _

theorem crcBits_xor : ∀ (n : Nat) (a b : BitVec 32), crcBits n (a ^^^ b) = crcBits n a ^^^ crcBits n b
  | 0, _, _ => rfl
  | n + 1, a, b => by
    show crcBits n (crcBit (a ^^^ b)) = crcBits n (crcBit a) ^^^ crcBits n (crcBit b)
    rw [crcBit_xor, crcBits_xor n]

/-- What ends in noughts is only shifted. -/
theorem crcBit_even {c : BitVec 32} (h : c.getLsbD 0 = false) : crcBit c = c >>> 1 := by
  unfold crcBit
  rw [h, if_neg Bool.false_ne_true, BitVec.xor_zero]

theorem crcBits_even : ∀ (n : Nat) {c : BitVec 32}, (∀ i, i < n → c.getLsbD i = false) → crcBits n c = c >>> n
  | 0, c, _ => by show c = c >>> 0; rw [BitVec.ushiftRight_zero]
  | n + 1, c, h => by
    show crcBits n (crcBit c) = c >>> (n + 1)
    rw [crcBit_even (h 0 (Nat.succ_pos _)), crcBits_even n fun i hi => ?_]
    · rw [Nat.add_comm n 1, BitVec.shiftRight_add]
    · rw [BitVec.getLsbD_ushiftRight]
      exact h _ (by omega)

theorem crc_low (c : BitVec 32) : c = (c &&& 15#32) ^^^ (c &&& 0xFFFFFFF0#32) := by
  apply BitVec.eq_of_getLsbD_eq
  intro i hi
  rw [BitVec.getLsbD_xor, BitVec.getLsbD_and, BitVec.getLsbD_and]
  have key : ∀ k, k < 32 → ((15#32).getLsbD k ^^ (0xFFFFFFF0#32).getLsbD k) = true := by decide
  have := key i hi
  revert this
  cases c.getLsbD i <;> cases (15#32).getLsbD i <;> cases (0xFFFFFFF0#32).getLsbD i <;> decide

theorem crc_high (c : BitVec 32) : (c &&& 0xFFFFFFF0#32) >>> 4 = c >>> 4 := by
  apply BitVec.eq_of_getLsbD_eq
  intro i hi
  rw [BitVec.getLsbD_ushiftRight, BitVec.getLsbD_ushiftRight, BitVec.getLsbD_and]
  by_cases h : 4 + i < 32
  · have : (0xFFFFFFF0#32).getLsbD (4 + i) = true := by
      have key : ∀ k, k < 28 → (0xFFFFFFF0#32).getLsbD (4 + k) = true := by decide
      exact key i (by omega)
    rw [this, Bool.and_true]
  · rw [BitVec.getLsbD_of_ge c _ (by omega), Bool.false_and]

/-- Four bits at once. -/
theorem crcNib_eq (c : BitVec 32) : crcNib c = crcBits 4 c := by
  have h : crcBits 4 c = crcBits 4 (c &&& 15#32) ^^^ crcBits 4 (c &&& 0xFFFFFFF0#32) := by
    rw [← crcBits_xor, ← crc_low]
  rw [h, crcBits_even 4 (c := c &&& 0xFFFFFFF0#32) fun i hi => ?_, crc_high]
  · show c >>> 4 ^^^ crcBits 4 (c &&& 15#32) = _
    rw [BitVec.xor_comm]
  · rw [BitVec.getLsbD_and]
    have key : ∀ k, k < 4 → (0xFFFFFFF0#32).getLsbD k = false := by decide
    rw [key i hi, Bool.and_false]

theorem crcBits_add : ∀ (m n : Nat) (c : BitVec 32), crcBits (m + n) c = crcBits n (crcBits m c)
  | 0, n, c => by rw [Nat.zero_add]; rfl
  | m + 1, n, c => by
    rw [show m + 1 + n = (m + n) + 1 by omega]
    show crcBits (m + n) (crcBit c) = crcBits n (crcBits m (crcBit c))
    exact crcBits_add m n _

/-- One byte. -/
def crcByte (c : BitVec 32) (x : UInt8) : BitVec 32 := crcBits 8 (c ^^^ x.toBitVec.setWidth 32)

theorem crcByte_nib (c : BitVec 32) (x : UInt8) : crcByte c x = crcNib (crcNib (c ^^^ x.toBitVec.setWidth 32)) := by
  rw [crcNib_eq, crcNib_eq, ← crcBits_add]
  rfl

/-- All bytes. -/
def crcFold (l : List UInt8) (c : BitVec 32) : BitVec 32 := l.foldl crcByte c

def crcSum (l : List UInt8) : BitVec 32 := ~~~ crcFold l (BitVec.allOnes 32)

end
end Go.Proofs.YtiabopbigplklaaDoor

namespace Go.Proofs.YtiabopbigplklaaDoor
open Go.Sx Go.RowKit
noncomputable section

/-- A number of 32 bits. -/
def u32v (c : BitVec 32) : Int := (c.toNat : Int)

theorem u32_wrap {n : Nat} (h : n < 4294967296) : IntKind.u32.wrap (n : Int) = (n : Int) := by
  have h : IntKind.u32.wrap (n : Int) = (n : Int) % 4294967296 := rfl
  rw [h]; omega

theorem ofInt_u32 (c : BitVec 32) : BitVec.ofInt IntKind.u32.bits (u32v c) = c := by
  show BitVec.ofInt 32 ((c.toNat : Nat) : Int) = c
  rw [BitVec.ofInt_natCast, BitVec.ofNat_toNat, BitVec.setWidth_eq]

theorem xor_u32 (a b : BitVec 32) : bitsOf .xor .u32 (u32v a) (u32v b) = u32v (a ^^^ b) := by
  show IntKind.u32.wrap (((BitVec.ofInt IntKind.u32.bits (u32v a) ^^^ BitVec.ofInt IntKind.u32.bits (u32v b)).toNat : Nat) : Int) = _
  rw [ofInt_u32, ofInt_u32, u32_wrap (BitVec.isLt _)]
  rfl

theorem and_u32 (a b : BitVec 32) : bitsOf .and .u32 (u32v a) (u32v b) = u32v (a &&& b) := by
  show IntKind.u32.wrap (((BitVec.ofInt IntKind.u32.bits (u32v a) &&& BitVec.ofInt IntKind.u32.bits (u32v b)).toNat : Nat) : Int) = _
  rw [ofInt_u32, ofInt_u32, u32_wrap (BitVec.isLt _)]
  rfl

theorem pow_nn (k : Nat) : (0 : Int) ≤ 2 ^ k := by exact_mod_cast Nat.zero_le (2 ^ k)

theorem shr_u32 (a : BitVec 32) (k : Nat) (hk : k ≤ 32) : (u32v a).fdiv (2 ^ (min (k : Int).toNat IntKind.u32.bits)) = u32v (a >>> k) := by
  have e : min (k : Int).toNat IntKind.u32.bits = k := by
    show min k 32 = k
    omega
  unfold u32v
  rw [e, Int.fdiv_eq_ediv_of_nonneg _ (pow_nn k), BitVec.toNat_ushiftRight, Nat.shiftRight_eq_div_pow]
  norm_cast

theorem byte_u32 (x : UInt8) : IntKind.u32.wrap ((x.toNat : Nat) : Int) = u32v (x.toBitVec.setWidth 32) := by
  have hx : x.toNat < 256 := x.toNat_lt
  rw [u32_wrap (by omega)]
  unfold u32v
  rw [BitVec.toNat_setWidth]
  show ((x.toNat : Nat) : Int) = ((x.toNat % 4294967296 : Nat) : Int)
  rw [Nat.mod_eq_of_lt (by omega)]

/-- Four bits at once, as the program reckons its table. -/
def tabI (c : Int) : Int := bitsOf .xor .u32 (c.fdiv (2 ^ (min (1 : Int).toNat IntKind.u32.bits))) (IntKind.u32.wrap (3988292384 * bitsOf .and .u32 c 1))

theorem tab_eq (i : Nat) (h : i < 16) : tabI (tabI (tabI (tabI (IntKind.u32.wrap (i : Int))))) = u32v (crcTab (BitVec.ofNat 32 i)) := by
  have key : ∀ i : Fin 16, tabI (tabI (tabI (tabI (IntKind.u32.wrap ((i.val : Nat) : Int))))) = u32v (crcTab (BitVec.ofNat 32 i.val)) := by decide +kernel
  exact key ⟨i, h⟩

/-- The table's place. -/
theorem low_lt (c : BitVec 32) : (c &&& 15#32).toNat < 16 := by
  rw [BitVec.toNat_and]
  exact Nat.lt_of_le_of_lt Nat.and_le_right (by decide)

theorem nib_u32 (c : BitVec 32) : bitsOf .xor .u32 ((u32v c).fdiv (2 ^ (min (4 : Int).toNat IntKind.u32.bits))) (u32v (crcTab (BitVec.ofNat 32 (c &&& 15#32).toNat))) = u32v (crcNib c) := by
  rw [show (4 : Int) = ((4 : Nat) : Int) from rfl, shr_u32 c 4 (by decide), xor_u32, BitVec.ofNat_toNat, BitVec.setWidth_eq]
  rfl

theorem not_u32 (c : BitVec 32) : bitsOf .xor .u32 (u32v c) 4294967295 = u32v (~~~ c) := by
  have e : (4294967295 : Int) = u32v (BitVec.allOnes 32) := by decide +kernel
  rw [e, xor_u32, BitVec.xor_allOnes]

/-! ### Bit by bit, as the document does -/

theorem odd_u32 (c : BitVec 32) : decide ((u32v c).tmod 2 = 1) = c.getLsbD 0 := by
  have h : c.getLsbD 0 = decide (c.toNat % 2 = 1) := by
    rw [BitVec.getLsbD, Nat.testBit_zero]
  rw [h]
  refine decide_eq_decide.2 ?_
  unfold u32v
  rw [Int.tmod_eq_emod_of_nonneg (by omega)]
  omega

theorem half_u32 (c : BitVec 32) : IntKind.u32.wrap ((u32v c).tdiv 2) = u32v (c >>> 1) := by
  unfold u32v
  rw [Int.tdiv_eq_ediv_of_nonneg (by omega), BitVec.toNat_ushiftRight, Nat.shiftRight_eq_div_pow]
  have h : IntKind.u32.wrap ((c.toNat : Int) / 2) = ((c.toNat : Int) / 2) % 4294967296 := rfl
  rw [h]
  have := c.isLt
  omega

theorem bit_u32 (c : BitVec 32) : (if c.getLsbD 0 = true then bitsOf .xor .u32 (u32v (c >>> 1)) 3988292384 else u32v (c >>> 1)) = u32v (crcBit c) := by
  unfold crcBit
  split
  · rw [show (3988292384 : Int) = u32v 0xEDB88320#32 by decide +kernel, xor_u32]
  · rw [BitVec.xor_zero]

theorem minus_u32 (c : BitVec 32) : IntKind.u32.wrap (4294967295 - u32v c) = u32v (~~~ c) := by
  unfold u32v
  rw [BitVec.toNat_not]
  have h : IntKind.u32.wrap (4294967295 - (c.toNat : Int)) = (4294967295 - (c.toNat : Int)) % 4294967296 := rfl
  rw [h]
  have := c.isLt
  omega

/-! ### A number's four bytes -/

def fourL (n : Nat) : List UInt8 := [UInt8.ofNat (n % 256), UInt8.ofNat (n / 256 % 256), UInt8.ofNat (n / 65536 % 256), UInt8.ofNat (n / 16777216 % 256)]

theorem four_at (n k : Nat) (hk : k ≤ 32) : Value.int .u8 (IntKind.u8.wrap ((n : Int).fdiv (2 ^ (min (k : Int).toNat IntKind.u32.bits)))) = bv (UInt8.ofNat (n / 2 ^ k % 256)) := by
  have e : min (k : Int).toNat IntKind.u32.bits = k := by
    show min k 32 = k
    omega
  rw [e, Int.fdiv_eq_ediv_of_nonneg _ (pow_nn k), bv_ofNat (Nat.mod_lt _ (by decide))]
  have h2 : ((n : Int) / 2 ^ k) = ((n / 2 ^ k : Nat) : Int) := by norm_cast
  rw [h2, u8_wrap]

end
end Go.Proofs.YtiabopbigplklaaDoor

namespace Go.Sx
noncomputable section

/-- A row that is made by appending: none yet, or one in a block that A1 does not know. -/
def GrowR (A1 A : Arena) (es : Nat) (e : TypeId) (n : Nat) (v : Value) (cs : List Value) : Prop :=
  cs.length = n * es ∧ ((n = 0 ∧ v = .slice none 0 0) ∨
    ∃ g nc c, v = .slice (some ⟨g, 0, none⟩) n nc ∧ n ≤ nc ∧ 0 < nc ∧ A1.blk g = none ∧ A.blk g = some (.cells c e (0, 0)) ∧ c.size = nc * es ∧ c.toList.take (n * es) = cs)

theorem GrowR.nil (A1 A : Arena) (es : Nat) (e : TypeId) : GrowR A1 A es e 0 (.slice none 0 0) [] := ⟨by simp, .inl ⟨rfl, rfl⟩⟩

theorem GrowR.keep {A1 A A' : Arena} {es : Nat} {e : TypeId} {n : Nat} {v : Value} {cs : List Value} (h : GrowR A1 A es e n v cs) (hk : ∀ k, A1.blk k = none → A'.blk k = A.blk k) : GrowR A1 A' es e n v cs := by
  obtain ⟨h1, h2 | ⟨g, nc, c, h3, h4, h4', h5, h6, h7, h8⟩⟩ := h
  · exact ⟨h1, .inl h2⟩
  · exact ⟨h1, .inr ⟨g, nc, c, h3, h4, h4', h5, by rw [hk g h5]; exact h6, h7, h8⟩⟩

theorem GrowR.sub {A1 A A' : Arena} {es : Nat} {e : TypeId} {n : Nat} {v : Value} {cs : List Value} (h : GrowR A1 A es e n v cs) (hk : A.Sub A') : GrowR A1 A' es e n v cs := by
  obtain ⟨h1, h2 | ⟨g, nc, c, h3, h4, h4', h5, h6, h7, h8⟩⟩ := h
  · exact ⟨h1, .inl h2⟩
  · exact ⟨h1, .inr ⟨g, nc, c, h3, h4, h4', h5, hk g _ h6, h7, h8⟩⟩

/-- What an append to it asks. -/
structure GrowP (A : Arena) (base : Option (Nat × Nat)) (n c es bytes : Nat) (cs : List Value) : Prop where
  rd : baseRd A base (n * es) = some cs
  cap : c < n + 1 → Builtin.nextslicecap (n + 1) c * bytes ≤ 281474976710656
  none_ : base = none → n = 0 ∧ c = 0
  room : ∀ (m : Nat), m = es → ∀ g o, base = some (g, o) → n + 1 ≤ c → A.Room g (o + n * es) m

theorem GrowR.form {A1 A : Arena} {es : Nat} {e : TypeId} {n : Nat} {v : Value} {cs : List Value} (h : GrowR A1 A es e n v cs) :
    ∃ base c, v = .slice (addrA base) n c ∧ (base = none ∨ ∃ g, base = some (g, 0)) ∧ (∀ bytes, bytes ≤ 65536 → n ≤ 1000000000 → GrowP A base n c es bytes cs) ∧
    ∀ ys v' A', ys.length = es → (∀ k, A.blk k = none → A1.blk k = none) → Appended A base n c es e cs ys 1 v' A' → GrowR A1 A' es e (n + 1) v' (cs ++ ys) ∧ ∀ k o, A1.blk k = some o → A'.blk k = A.blk k := by
  obtain ⟨hl, ⟨rfl, rfl⟩ | ⟨g, nc, c, rfl, hn, hpos, hg, hb, hsz, ht⟩⟩ := h
  · have hcs : cs = [] := List.length_eq_zero_iff.1 (by rw [hl]; simp)
    subst hcs
    refine ⟨none, 0, rfl, .inl rfl, fun bytes hby hn => ⟨by simp [baseRd], fun h => ?_, fun _ => ⟨rfl, rfl⟩, fun _ _ _ _ h => (by cases h)⟩, fun ys v' A' hy hd ha => ?_⟩
    · have := nextcap_le h
      calc _ ≤ (2 * (0 + 1) + 768) * 65536 := Nat.mul_le_mul this hby
        _ ≤ _ := by omega
    · rcases ha with ⟨h0, _⟩ | ⟨_, g, nc, c, zs, rfl, hnc, hc, hz, hN⟩
      · omega
      · refine ⟨⟨by simp [hy], .inr ⟨g, nc, c, rfl, hnc, by omega, hd g hN.none_, hN.at_, ?_, ?_⟩⟩, fun k o hk => hN.other k fun e => (by subst e; rw [hd _ hN.none_] at hk; cases hk)⟩
        · rw [← Array.length_toList, hc]
          simp only [List.nil_append, List.length_append, hy, hz, Nat.zero_add]
          have : nc = (nc - 1) + 1 := by omega
          rw [show nc * es = ((nc - 1) + 1) * es by rw [← this], Nat.succ_mul]; omega
        · rw [hc]; simp [hy]
  · have hle : n * es ≤ nc * es := Nat.mul_le_mul_right _ hn
    refine ⟨some (g, 0), nc, rfl, .inr ⟨g, rfl⟩, fun bytes hby hnb => ⟨?_, fun h => ?_, fun h => (by cases h), fun m hm g' o' h hlt => ?_⟩, fun ys v' A' hy hd ha => ?_⟩
    · show (if n * es = 0 then some [] else A.rd g 0 (n * es)) = some cs
      by_cases h0 : n * es = 0
      · rw [if_pos h0]
        rw [h0] at hl; rw [List.length_eq_zero_iff.1 hl]
      · rw [if_neg h0, rd_mk hb (by omega)]; simp [ht]
    · have := nextcap_le h
      calc _ ≤ (2 * (n + 1) + 768) * 65536 := Nat.mul_le_mul this hby
        _ ≤ _ := by omega
    · injection h with h; injection h with h1 h2; subst h1; subst h2; subst hm
      refine ⟨c, e, (0, 0), hb, ?_, .inl rfl⟩
      have := Nat.mul_le_mul_right m hlt
      rw [Nat.succ_mul] at this; omega
    · rcases ha with ⟨h0, rfl, h3⟩ | ⟨h0, g', nc', c', zs, rfl, hnc, hc, hz, hN⟩
      · obtain ⟨c', k1, k2, k3⟩ : ∃ c', A'.blk g = some (.cells c' e (0, 0)) ∧ (∀ k, k ≠ g → A'.blk k = A.blk k) ∧ c'.toList = c.toList.take (n * es) ++ ys ++ c.toList.drop (n * es + ys.length) := by
          rcases h3 with ⟨rfl, rfl⟩ | ⟨g', o', h, hP⟩
          · exact ⟨c, hb, fun _ _ => rfl, by simp⟩
          · injection h with h; injection h with h1 h2; subst h1; subst h2
            obtain ⟨c0, t0, fz0, c', k1, k2, k3⟩ := hP.at_
            rw [hb] at k1
            injection k1 with k1; injection k1 with k1 k1' k1''
            subst k1; subst k1'; subst k1''
            exact ⟨c', k2, hP.other, by rw [k3]; simp⟩
        have hlen : n * es + es ≤ nc * es := by rw [← Nat.succ_mul]; exact Nat.mul_le_mul_right _ h0
        refine ⟨⟨by simp [hl, hy, Nat.succ_mul], .inr ⟨g, nc, c', rfl, h0, hpos, hg, k1, ?_, ?_⟩⟩, fun k o hk => k2 k fun e => (by subst e; rw [hg] at hk; cases hk)⟩
        · rw [← Array.length_toList, k3]
          simp only [List.length_append, List.length_take, List.length_drop, Array.length_toList, hsz, hy]
          omega
        · rw [k3, ht]
          rw [List.take_append_of_le_length (by simp [hl, hy, Nat.succ_mul])]
          rw [List.take_of_length_le (by simp [hl, hy, Nat.succ_mul])]
      · refine ⟨⟨by simp [hl, hy, Nat.succ_mul], .inr ⟨g', nc', c', rfl, hnc, by omega, hd g' hN.none_, hN.at_, ?_, ?_⟩⟩, fun k o hk => hN.other k fun e => (by subst e; rw [hd _ hN.none_] at hk; cases hk)⟩
        · rw [← Array.length_toList, hc]
          simp only [List.length_append, hl, hy, hz]
          obtain ⟨d, rfl⟩ : ∃ d, nc' = (n + 1) + d := ⟨nc' - (n + 1), by omega⟩
          rw [Nat.add_sub_cancel_left, Nat.add_mul, Nat.add_mul]; omega
        · rw [hc]
          rw [List.take_append_of_le_length (by simp [hl, hy, Nat.succ_mul])]
          rw [List.take_of_length_le (by simp [hl, hy, Nat.succ_mul])]

end
end Go.Sx

namespace Go.Sx
noncomputable section

/-- What an append of m elements to it asks. -/
structure GrowM (A : Arena) (base : Option (Nat × Nat)) (n m c es bytes : Nat) (cs : List Value) : Prop where
  rd : baseRd A base (n * es) = some cs
  cap : c < n + m → Builtin.nextslicecap (n + m) c * bytes ≤ 281474976710656
  none_ : base = none → n = 0 ∧ c = 0
  room : ∀ (k : Nat), k = m * es → ∀ g o, base = some (g, o) → n + m ≤ c → A.Room g (o + n * es) k

theorem GrowR.formN {A1 A : Arena} {es : Nat} {e : TypeId} {n : Nat} {v : Value} {cs : List Value} (h : GrowR A1 A es e n v cs) :
    ∃ base c, v = .slice (addrA base) n c ∧ (base = none ∨ ∃ g, base = some (g, 0)) ∧ (∀ m bytes, bytes ≤ 65536 → n + m ≤ 1000000000 → GrowM A base n m c es bytes cs) ∧
    ∀ m ys v' A', ys.length = m * es → (∀ k, A.blk k = none → A1.blk k = none) → Appended A base n c es e cs ys m v' A' → GrowR A1 A' es e (n + m) v' (cs ++ ys) ∧ ∀ k o, A1.blk k = some o → A'.blk k = A.blk k := by
  obtain ⟨hl, ⟨rfl, rfl⟩ | ⟨g, nc, c, rfl, hn, hpos, hg, hb, hsz, ht⟩⟩ := h
  · have hcs : cs = [] := List.length_eq_zero_iff.1 (by rw [hl]; simp)
    subst hcs
    refine ⟨none, 0, rfl, .inl rfl, fun m bytes hby hn => ⟨by simp [baseRd], fun h => ?_, fun _ => ⟨rfl, rfl⟩, fun _ _ _ _ h => (by cases h)⟩, fun m ys v' A' hy hd ha => ?_⟩
    · have := nextcap_le h
      calc _ ≤ (2 * (0 + m) + 768) * 65536 := Nat.mul_le_mul this hby
        _ ≤ _ := by omega
    · rcases ha with ⟨h0, rfl, h3⟩ | ⟨hlt, g, nc, c, zs, rfl, hnc, hc, hz, hN⟩
      · have hm : m = 0 := by omega
        subst hm
        have hys : ys = [] := List.length_eq_zero_iff.1 (by rw [hy]; simp)
        subst hys
        rcases h3 with ⟨_, rfl⟩ | ⟨g, o, h, _⟩
        · exact ⟨GrowR.nil _ _ _ _, fun _ _ _ => rfl⟩
        · cases h
      · refine ⟨⟨by simp [hy], .inr ⟨g, nc, c, rfl, hnc, by omega, hd g hN.none_, hN.at_, ?_, ?_⟩⟩, fun k o hk => hN.other k fun e => (by subst e; rw [hd _ hN.none_] at hk; cases hk)⟩
        · rw [← Array.length_toList, hc]
          simp only [List.nil_append, List.length_append, hy, hz, Nat.zero_add]
          rw [← Nat.add_mul]; congr 1; omega
        · rw [hc, Nat.zero_add, List.nil_append, List.take_append_of_le_length (by omega), List.take_of_length_le (by omega)]
  · have hle : n * es ≤ nc * es := Nat.mul_le_mul_right _ hn
    refine ⟨some (g, 0), nc, rfl, .inr ⟨g, rfl⟩, fun m bytes hby hnb => ⟨?_, fun h => ?_, fun h => (by cases h), fun k hk g' o' h hlt => ?_⟩, fun m ys v' A' hy hd ha => ?_⟩
    · show (if n * es = 0 then some [] else A.rd g 0 (n * es)) = some cs
      by_cases h0 : n * es = 0
      · rw [if_pos h0]
        rw [h0] at hl; rw [List.length_eq_zero_iff.1 hl]
      · rw [if_neg h0, rd_mk hb (by omega)]; simp [ht]
    · have := nextcap_le h
      calc _ ≤ (2 * (n + m) + 768) * 65536 := Nat.mul_le_mul this hby
        _ ≤ _ := by omega
    · injection h with h; injection h with h1 h2; subst h1; subst h2; subst hk
      refine ⟨c, e, (0, 0), hb, ?_, .inl rfl⟩
      have := Nat.mul_le_mul_right es hlt
      rw [Nat.add_mul] at this; omega
    · rcases ha with ⟨h0, rfl, h3⟩ | ⟨h0, g', nc', c', zs, rfl, hnc, hc, hz, hN⟩
      · obtain ⟨c', k1, k2, k3⟩ : ∃ c', A'.blk g = some (.cells c' e (0, 0)) ∧ (∀ k, k ≠ g → A'.blk k = A.blk k) ∧ c'.toList = c.toList.take (n * es) ++ ys ++ c.toList.drop (n * es + ys.length) := by
          rcases h3 with ⟨rfl, rfl⟩ | ⟨g', o', h, hP⟩
          · exact ⟨c, hb, fun _ _ => rfl, by simp⟩
          · injection h with h; injection h with h1 h2; subst h1; subst h2
            obtain ⟨c0, t0, fz0, c', k1, k2, k3⟩ := hP.at_
            rw [hb] at k1
            injection k1 with k1; injection k1 with k1 k1' k1''
            subst k1; subst k1'; subst k1''
            exact ⟨c', k2, hP.other, by rw [k3]; simp⟩
        have hlen : n * es + m * es ≤ nc * es := by rw [← Nat.add_mul]; exact Nat.mul_le_mul_right _ h0
        have hcl : (cs ++ ys).length = (n + m) * es := by rw [List.length_append, hl, hy, Nat.add_mul]
        refine ⟨⟨hcl, .inr ⟨g, nc, c', rfl, h0, hpos, hg, k1, ?_, ?_⟩⟩, fun k o hk => k2 k fun e => (by subst e; rw [hg] at hk; cases hk)⟩
        · rw [← Array.length_toList, k3]
          simp only [List.length_append, List.length_take, List.length_drop, Array.length_toList, hsz, hy]
          omega
        · rw [k3, ht, List.take_append_of_le_length (by omega), List.take_of_length_le (by omega)]
      · have hcl : (cs ++ ys).length = (n + m) * es := by rw [List.length_append, hl, hy, Nat.add_mul]
        refine ⟨⟨hcl, .inr ⟨g', nc', c', rfl, hnc, by omega, hd g' hN.none_, hN.at_, ?_, ?_⟩⟩, fun k o hk => hN.other k fun e => (by subst e; rw [hd _ hN.none_] at hk; cases hk)⟩
        · rw [← Array.length_toList, hc]
          simp only [List.length_append, hl, hy, hz]
          rw [← Nat.add_mul, ← Nat.add_mul]; congr 1; omega
        · rw [hc, List.take_append_of_le_length (by omega), List.take_of_length_le (by omega)]

theorem addrA_inj {b b' : Option (Nat × Nat)} (h : addrA b = addrA b') : b = b' := by
  cases b with
  | none => cases b' with
    | none => rfl
    | some y => cases h
  | some x => cases b' with
    | none => cases h
    | some y =>
      obtain ⟨g, o⟩ := x
      obtain ⟨g', o'⟩ := y
      injection h with h
      injection h with h1 h2
      rw [h1, h2]

/-- The same, where the slice is spelled out. -/
theorem GrowR.formB {A1 A : Arena} {es : Nat} {e : TypeId} {n c : Nat} {base : Option (Nat × Nat)} {cs : List Value} (h : GrowR A1 A es e n (.slice (addrA base) n c) cs) :
    (∀ m bytes, bytes ≤ 65536 → n + m ≤ 1000000000 → GrowM A base n m c es bytes cs) ∧
    ∀ m ys v' A', ys.length = m * es → (∀ k, A.blk k = none → A1.blk k = none) → Appended A base n c es e cs ys m v' A' → GrowR A1 A' es e (n + m) v' (cs ++ ys) ∧ ∀ k o, A1.blk k = some o → A'.blk k = A.blk k := by
  obtain ⟨b', c', hv, _, h1, h2⟩ := h.formN
  injection hv with hv1 hv2 hv3
  have e := addrA_inj hv1
  subst e; subst hv3
  exact ⟨h1, h2⟩

theorem GrowR.cap_le {A1 A : Arena} {es : Nat} {e : TypeId} {n m c : Nat} {ao : Option Addr} {cs : List Value} (h : GrowR A1 A es e n (.slice ao m c) cs) : n ≤ c := by
  obtain ⟨_, ⟨rfl, h⟩ | ⟨g, nc, _, h, hn, _⟩⟩ := h
  · omega
  · injection h with h1 h2 h3
    omega

/-- What lies at the front of a row. -/
theorem src_take {A : Arena} {g o n q : Nat} {α : Type} {f : α → Value} {l : List α} (h : A.rd g 0 (n * 1) = some (l.map f)) (hq : q ≤ n) (ho : o = 0) : (if q = 0 then some [] else A.rd g o (q * 1)) = some ((l.take q).map f) := by
  subst ho
  by_cases h0 : q = 0
  · rw [if_pos h0, h0, List.take_zero]; rfl
  · rw [if_neg h0]
    have := rd_at h (i := 0) (m := q * 1) (by omega)
    rw [Nat.add_zero, List.drop_zero, Nat.mul_one, ← List.map_take] at this
    rw [Nat.mul_one]
    exact this

/-- What lies behind. -/
theorem src_drop {A : Arena} {g o n q : Nat} {α : Type} {f : α → Value} {l : List α} (h : A.rd g 0 (n * 1) = some (l.map f)) (hn : n = l.length) (ho : q < n → o = q) : (if n - q = 0 then some [] else A.rd g o ((n - q) * 1)) = some ((l.drop q).map f) := by
  by_cases h0 : n - q = 0
  · rw [if_pos h0, List.drop_eq_nil_of_le (by omega)]; rfl
  · rw [if_neg h0, ho (by omega)]
    have := rd_at h (i := q) (m := (n - q) * 1) (by omega)
    rw [Nat.zero_add] at this
    rw [this, ← List.map_drop, List.take_of_length_le (by rw [List.length_map, List.length_drop]; omega)]

/-- A row made by append, as a slice. -/
theorem GrowR.sl {A1 A : Arena} {es : Nat} {e : TypeId} {n : Nat} {v : Value} {cs : List Value} (h : GrowR A1 A es e n v cs) : Sl A es n v cs := by
  obtain ⟨h1, ⟨rfl, rfl⟩ | ⟨g, nc, c, rfl, h4, h4', h5, h6, h7, h8⟩⟩ := h
  · have hc : cs = [] := List.length_eq_zero_iff.1 (by rw [h1]; simp)
    subst hc
    exact Sl.nil _ _
  · have hle : n * es ≤ nc * es := Nat.mul_le_mul_right _ h4
    refine Sl.row h4 ?_
    rw [rd_mk h6 (by omega), List.drop_zero, h8]

end
end Go.Sx

namespace Go.Proofs.YtiabopbigplklaaDoor
open Go.Sx Go.RowKit
noncomputable section
open Classical

/-- A row in a block of its own, with room. -/
structure LRow (A : Arena) (g es : Nat) (e : TypeId) (n c : Nat) (cs : List Value) : Prop where
  at_ : ∃ cc, A.blk g = some (.cells cc e (0, 0)) ∧ cc.size = c * es ∧ cc.toList.take (n * es) = cs
  le : n ≤ c
  len : cs.length = n * es

theorem LRow.sub {A A' : Arena} {g es : Nat} {e : TypeId} {n c : Nat} {cs : List Value} (h : LRow A g es e n c cs) (hs : A.Sub A') : LRow A' g es e n c cs := by
  obtain ⟨⟨cc, h1, h2, h3⟩, h4, h5⟩ := h
  exact ⟨⟨cc, hs _ _ h1, h2, h3⟩, h4, h5⟩

theorem LRow.keep {A A' : Arena} {g es : Nat} {e : TypeId} {n c : Nat} {cs : List Value} (h : LRow A g es e n c cs) (hs : A'.blk g = A.blk g) : LRow A' g es e n c cs := by
  obtain ⟨⟨cc, h1, h2, h3⟩, h4, h5⟩ := h
  exact ⟨⟨cc, by rw [hs]; exact h1, h2, h3⟩, h4, h5⟩

theorem LRow.rd {A : Arena} {g es : Nat} {e : TypeId} {n c : Nat} {cs : List Value} (h : LRow A g es e n c cs) : A.rd g 0 (n * es) = some cs := by
  obtain ⟨⟨cc, h1, h2, h3⟩, h4, h5⟩ := h
  have := Nat.mul_le_mul_right es h4
  rw [rd_mk h1 (by omega), List.drop_zero, h3]

theorem LRow.base {A : Arena} {g es : Nat} {e : TypeId} {n c : Nat} {cs : List Value} (h : LRow A g es e n c cs) : baseRd A (some (g, 0)) (n * es) = some cs := by
  show (if n * es = 0 then some [] else A.rd g 0 (n * es)) = some cs
  by_cases h0 : n * es = 0
  · rw [if_pos h0]
    have := h.len
    rw [h0] at this
    rw [List.length_eq_zero_iff.1 this]
  · rw [if_neg h0, h.rd]

theorem LRow.room {A : Arena} {g es : Nat} {e : TypeId} {n c : Nat} {cs : List Value} (h : LRow A g es e n c cs) {o k : Nat} (hk : o + k ≤ c * es) : A.Room g o k := by
  obtain ⟨⟨cc, h1, h2, h3⟩, h4, h5⟩ := h
  exact ⟨cc, e, (0, 0), h1, by omega, .inl rfl⟩

/-- Something is put behind it, in its room. -/
theorem LRow.add {A A2 : Arena} {g es : Nat} {e : TypeId} {n c m : Nat} {cs ys : List Value} {v : Value} (h : LRow A g es e n c cs) (hm : n + m ≤ c) (hy : ys.length = m * es) (ha : Appended A (some (g, 0)) n c es e cs ys m v A2) :
    v = .slice (some ⟨g, 0, none⟩) (n + m) c ∧ LRow A2 g es e (n + m) c (cs ++ ys) ∧ ∀ k, k ≠ g → A2.blk k = A.blk k := by
  obtain ⟨⟨cc, h1, h2, h3⟩, h4, h5⟩ := h
  rcases ha with ⟨_, rfl, h6⟩ | ⟨h6, _⟩
  · refine ⟨rfl, ?_⟩
    have hlen : (cs ++ ys).length = (n + m) * es := by rw [List.length_append, h5, hy, Nat.add_mul]
    rcases h6 with ⟨rfl, rfl⟩ | ⟨g', o', e1, hP⟩
    · refine ⟨⟨⟨cc, h1, h2, ?_⟩, hm, hlen⟩, fun _ _ => rfl⟩
      have : m * es = 0 := by rw [← hy]; rfl
      rw [Nat.add_mul, this, Nat.add_zero, h3, List.append_nil]
    · injection e1 with e1
      injection e1 with e1 e2
      subst e1; subst e2
      obtain ⟨c0, t0, fz0, c', k1, k2, k3⟩ := hP.at_
      rw [h1] at k1
      injection k1 with k1
      injection k1 with k1 k1' k1''
      subst k1; subst k1'; subst k1''
      have hle := Nat.mul_le_mul_right es hm
      rw [Nat.add_mul] at hle
      refine ⟨⟨⟨c', k2, ?_, ?_⟩, hm, hlen⟩, hP.other⟩
      · rw [← Array.length_toList, k3]
        simp only [List.length_append, List.length_take, List.length_drop, Array.length_toList, h2, hy]
        omega
      · rw [k3, Nat.zero_add, h3, List.take_append_of_le_length (by omega), List.take_of_length_le (by omega)]
  · omega

/-- A cell row of it is stored over. -/
theorem LRow.over {A A2 : Arena} {g es : Nat} {e : TypeId} {c : Nat} {cs ys : List Value} {n o : Nat} (h : LRow A g es e n c cs) (hP : A.Put A2 g o ys) (hle : o + ys.length ≤ c * es) : (∃ cc, A2.blk g = some (.cells cc e (0, 0)) ∧ cc.size = c * es) ∧ ∀ k, k ≠ g → A2.blk k = A.blk k := by
  obtain ⟨⟨cc, h1, h2, h3⟩, h4, h5⟩ := h
  obtain ⟨c0, t0, fz0, c', k1, k2, k3⟩ := hP.at_
  rw [h1] at k1
  injection k1 with k1
  injection k1 with k1 k1' k1''
  subst k1; subst k1'; subst k1''
  refine ⟨⟨c', k2, ?_⟩, hP.other⟩
  rw [← Array.length_toList, k3]
  simp only [List.length_append, List.length_take, List.length_drop, Array.length_toList, h2]
  omega

end
end Go.Proofs.YtiabopbigplklaaDoor

namespace Go.Proofs.YtiabopbigplklaaDoor
open Go.Sx Go.RowKit
noncomputable section
open Classical

/-- A list that was handed out: its slice, length, room and block. -/
structure LsD where
  v : Value
  n : Nat
  c : Nat
  g : Option Nat

/-- It lies in A and holds cs. -/
def LsR (A : Arena) (es : Nat) (e : TypeId) (L : LsD) (cs : List Value) : Prop :=
  (L.g = none ∧ L.n = 0 ∧ L.c = 0 ∧ cs = [] ∧ ∃ base, L.v = .slice (addrA base) 0 0) ∨
  ∃ g, L.g = some g ∧ L.v = .slice (some ⟨g, 0, none⟩) L.n L.c ∧ 0 < L.c ∧ LRow A g es e L.n L.c cs

theorem LsR.len {A : Arena} {es : Nat} {e : TypeId} {L : LsD} {cs : List Value} (h : LsR A es e L cs) : cs.length = L.n * es := by
  rcases h with ⟨_, h2, _, rfl, _⟩ | ⟨g, _, _, _, h⟩
  · rw [h2]; simp
  · exact h.len

theorem LsR.keep {A A' : Arena} {es : Nat} {e : TypeId} {L : LsD} {cs : List Value} (h : LsR A es e L cs) (hk : ∀ g o, L.g = some g → A.blk g = some o → A'.blk g = some o) : LsR A' es e L cs := by
  rcases h with h | ⟨g, h1, h2, h3, h4⟩
  · exact .inl h
  · refine .inr ⟨g, h1, h2, h3, h4.keep ?_⟩
    obtain ⟨cc, h5, _⟩ := h4.at_
    rw [h5, hk g _ h1 h5]

theorem LsR.live {A : Arena} {es : Nat} {e : TypeId} {L : LsD} {cs : List Value} (h : LsR A es e L cs) {g : Nat} (hg : L.g = some g) : ∃ o, A.blk g = some o := by
  rcases h with ⟨h1, _⟩ | ⟨g', h1, _, _, h4⟩
  · rw [h1] at hg; cases hg
  · rw [h1] at hg
    injection hg with hg
    subst hg
    obtain ⟨cc, h5, _⟩ := h4.at_
    exact ⟨_, h5⟩

/-- The first q elements as they are marked. -/
def mks (m : Nat → List Value) (q : Nat) : List Value := (List.range q).flatMap m

theorem mks_zero (m : Nat → List Value) : mks m 0 = [] := rfl

theorem mks_succ (m : Nat → List Value) (q : Nat) : mks m (q + 1) = mks m q ++ m q := by
  unfold mks
  rw [List.range_succ, List.flatMap_append]
  simp

theorem mks_len {m : Nat → List Value} {es : Nat} (hm : ∀ i, (m i).length = es) : ∀ q, (mks m q).length = q * es
  | 0 => by simp [mks]
  | q + 1 => by rw [mks_succ, List.length_append, mks_len hm q, hm, Nat.succ_mul]

theorem mks_take {m : Nat → List Value} {es : Nat} (hm : ∀ i, (m i).length = es) {q : Nat} : ∀ {p : Nat}, q ≤ p → (mks m p).take (q * es) = mks m q
  | 0, h => by
    obtain rfl : q = 0 := by omega
    simp [mks]
  | p + 1, h => by
    by_cases e : q = p + 1
    · subst e
      rw [List.take_of_length_le (by rw [mks_len hm]; omega)]
    · have hqp : q * es ≤ p * es := Nat.mul_le_mul_right _ (by omega)
      rw [mks_succ, List.take_append_of_le_length (by rw [mks_len hm]; exact hqp), mks_take hm (by omega)]

theorem mks_at {m : Nat → List Value} {es : Nat} (hm : ∀ i, (m i).length = es) {i q : Nat} (h : i < q) : ((mks m q).drop (i * es)).take es = m i := by
  have h1 : (mks m (i + 1)).drop (i * es) = m i := by
    rw [mks_succ, List.drop_append_of_le_length (by rw [mks_len hm]; omega), List.drop_of_length_le (by rw [mks_len hm]; omega), List.nil_append]
  rw [← mks_take hm (show i + 1 ≤ q from h)] at h1
  rw [← h1, Nat.succ_mul, List.drop_take]
  congr 1
  omega

/-- The first q elements are marked. -/
def LsM (A : Arena) (es : Nat) (e : TypeId) (L : LsD) (m : Nat → List Value) (q : Nat) : Prop := ∃ cs, LsR A es e L cs ∧ q ≤ L.n ∧ cs.take (q * es) = mks m q

theorem LsM.keep {A A' : Arena} {es : Nat} {e : TypeId} {L : LsD} {m : Nat → List Value} {q : Nat} (h : LsM A es e L m q) (hk : ∀ g o, L.g = some g → A.blk g = some o → A'.blk g = some o) : LsM A' es e L m q := by
  obtain ⟨cs, h1, h2, h3⟩ := h
  exact ⟨cs, h1.keep hk, h2, h3⟩

theorem LsM.le {A : Arena} {es : Nat} {e : TypeId} {L : LsD} {m : Nat → List Value} {p q : Nat} (hm : ∀ i, (m i).length = es) (h : LsM A es e L m p) (hq : q ≤ p) : LsM A es e L m q := by
  obtain ⟨cs, h1, h2, h3⟩ := h
  refine ⟨cs, h1, by omega, ?_⟩
  have hle : q * es ≤ p * es := Nat.mul_le_mul_right _ hq
  rw [← mks_take hm hq, ← h3, List.take_take, Nat.min_eq_left hle]

theorem LsM.live {A : Arena} {es : Nat} {e : TypeId} {L : LsD} {m : Nat → List Value} {q : Nat} (h : LsM A es e L m q) {g : Nat} (hg : L.g = some g) : ∃ o, A.blk g = some o := by
  obtain ⟨cs, h1, _⟩ := h
  exact h1.live hg

/-- One of them is read. -/
theorem LsM.read {A : Arena} {es : Nat} {e : TypeId} {L : LsD} {m : Nat → List Value} {q i : Nat} (hm : ∀ i, (m i).length = es) (h : LsM A es e L m q) (hi : i < q) : ∃ g, L.v = .slice (some ⟨g, 0, none⟩) L.n L.c ∧ A.rd g (0 + i * es) es = some (m i) := by
  obtain ⟨cs, h1, h2, h3⟩ := h
  rcases h1 with ⟨_, h4, _⟩ | ⟨g, _, h4, _, h5⟩
  · omega
  · refine ⟨g, h4, ?_⟩
    have hle : (i + 1) * es ≤ q * es := Nat.mul_le_mul_right _ hi
    have hle2 : (i + 1) * es ≤ L.n * es := Nat.mul_le_mul_right _ (by omega)
    have hs : (i + 1) * es = i * es + es := Nat.succ_mul i es
    rw [rd_at h5.rd (by omega), ← mks_at hm hi, ← h3, List.drop_take, List.take_take, Nat.min_eq_left (by omega)]

/-- Its form, and what a store of the next mark leaves. -/
theorem LsM.put {A : Arena} {es : Nat} {e : TypeId} {L : LsD} {m : Nat → List Value} {q : Nat} (hm : ∀ i, (m i).length = es) (h : LsM A es e L m q) (hq : q < L.n) : ∃ g, L.g = some g ∧ L.v = .slice (some ⟨g, 0, none⟩) L.n L.c ∧ A.Room g (0 + q * es) es ∧
    ∀ A', A.Put A' g (0 + q * es) (m q) → LsM A' es e L m (q + 1) ∧ ∀ k, k ≠ g → A'.blk k = A.blk k := by
  obtain ⟨cs, h1, h2, h3⟩ := h
  rcases h1 with ⟨_, h4, _⟩ | ⟨g, h4, h5, h6, h7⟩
  · omega
  · have hle : (q + 1) * es ≤ L.n * es := Nat.mul_le_mul_right _ hq
    have hs : (q + 1) * es = q * es + es := Nat.succ_mul q es
    have hlc : L.n * es ≤ L.c * es := Nat.mul_le_mul_right _ h7.le
    refine ⟨g, h4, h5, h7.room (by omega), fun A' hP => ⟨?_, hP.other⟩⟩
    obtain ⟨cc, k1, k2, k3⟩ := h7.at_
    obtain ⟨c0, t0, fz0, c', e1, e2, e3⟩ := hP.at_
    rw [k1] at e1
    injection e1 with e1
    injection e1 with e1 e1' e1''
    subst e1; subst e1'; subst e1''
    rw [hm, Nat.zero_add] at e3
    have hcl : cc.toList.length = L.c * es := by rw [Array.length_toList, k2]
    have hml := hm q
    refine ⟨c'.toList.take (L.n * es), .inr ⟨g, h4, h5, h6, ⟨c', e2, ?_, rfl⟩, h7.le, ?_⟩, hq, ?_⟩
    · rw [← Array.length_toList, e3]
      simp only [List.length_append, List.length_take, List.length_drop, hml, hcl]
      omega
    · rw [List.length_take, e3]
      simp only [List.length_append, List.length_take, List.length_drop, hml, hcl]
      omega
    · have h9 : cc.toList.take (q * es) = mks m q := by
        rw [← h3, ← k3, List.take_take, Nat.min_eq_left (by omega)]
      rw [List.take_take, Nat.min_eq_left hle, e3, List.take_append_of_le_length (by simp only [List.length_append, List.length_take, hml, hcl]; omega), h9, ← mks_succ, List.take_of_length_le (by rw [mks_len hm]; omega)]

theorem nextcap_gm {m c : Nat} (h : c < m) : Builtin.nextslicecap m c ≤ 2 * m + 768 := nextcap_le h

/-- What an append to it asks, and what it leaves. -/
theorem LsR.app {A : Arena} {es : Nat} {e : TypeId} {L : LsD} {cs : List Value} (h : LsR A es e L cs) : ∃ base, L.v = .slice (addrA base) L.n L.c ∧ (base = none ∨ ∃ g o, base = some (g, o)) ∧
    (∀ m bytes, bytes ≤ 65536 → L.n + m ≤ 1000000000 → 0 < m → GrowM A base L.n m L.c es bytes cs) ∧
    ∀ m ys v' A', ys.length = m * es → 0 < m → Appended A base L.n L.c es e cs ys m v' A' →
      ∃ L' : LsD, L'.v = v' ∧ L'.n = L.n + m ∧ LsR A' es e L' (cs ++ ys) ∧ (∀ g, L'.g = some g → L.g = some g ∨ A.blk g = none) ∧ (∀ k o, A.blk k = some o → L.g ≠ some k → A'.blk k = some o) ∧ LsR A' es e L cs ∧ ∀ g, L'.g = some g → L.g = some g → L'.c = L.c := by
  have hcap : ∀ {m bytes}, bytes ≤ 65536 → L.n + m ≤ 1000000000 → L.c < L.n + m → Builtin.nextslicecap (L.n + m) L.c * bytes ≤ 281474976710656 := fun {m bytes} hb hn hc => by
    have h1 := nextcap_gm hc
    calc _ ≤ (2 * (L.n + m) + 768) * 65536 := Nat.mul_le_mul h1 hb
      _ ≤ _ := by omega
  rcases h with ⟨h1, h2, h3, rfl, base, h4⟩ | ⟨g, h1, h2, h3, h4⟩
  · rw [h2, h3] at hcap ⊢
    refine ⟨base, h4, ?_, fun m bytes hb hn hm => ⟨?_, hcap hb hn, fun hb0 => ⟨rfl, rfl⟩, fun k hk g o _ hle => by omega⟩, fun m ys v' A' hy hm ha => ?_⟩
    · cases base with
      | none => exact .inl rfl
      | some x => exact .inr ⟨x.1, x.2, rfl⟩
    · cases base with
      | none => simp [baseRd]
      | some x =>
        obtain ⟨g, o⟩ := x
        show (if 0 * es = 0 then some [] else A.rd g o (0 * es)) = some []
        rw [if_pos (Nat.zero_mul _)]
    · rcases ha with ⟨h0, _⟩ | ⟨_, g, nc, c0, zs, hv, hnc, hc, hz, hN⟩
      · omega
      · refine ⟨⟨v', 0 + m, nc, some g⟩, rfl, rfl, .inr ⟨g, rfl, hv, by show 0 < nc; omega, ⟨c0, hN.at_, ?_, ?_⟩, hnc, ?_⟩, fun g' hg' => ?_, fun k o hk _ => ?_, .inl ⟨h1, h2, h3, rfl, base, h4⟩, fun g9 _ h => by rw [h1] at h; cases h⟩
        · rw [← Array.length_toList, hc]
          simp only [List.nil_append, List.length_append, hy, hz]
          have : nc * es = (m + (nc - (0 + m))) * es := by congr 1; omega
          show m * es + (nc - (0 + m)) * es = nc * es
          rw [this, Nat.add_mul]
        · show c0.toList.take ((0 + m) * es) = _
          rw [hc, Nat.zero_add, List.nil_append, List.take_append_of_le_length (by omega), List.take_of_length_le (by omega)]
        · show ([] ++ ys).length = (0 + m) * es
          rw [Nat.zero_add]; simpa using hy
        · have hg' : some g = some g' := hg'
          injection hg' with hg'
          subst hg'
          exact .inr hN.none_
        · rw [hN.other k fun e => (by rw [e, hN.none_] at hk; cases hk)]
          exact hk
  · refine ⟨some (g, 0), h2, .inr ⟨g, 0, rfl⟩, fun m bytes hb hn hm => ⟨h4.base, hcap hb hn, fun h => (by cases h), fun k hk g' o he hle => ?_⟩, fun m ys v' A' hy hm ha => ?_⟩
    · injection he with he
      injection he with he1 he2
      subst he1; subst he2; subst hk
      have := Nat.mul_le_mul_right es hle
      rw [Nat.add_mul] at this
      exact h4.room (by omega)
    · have h4' := h4
      obtain ⟨cc, k1, k2, k3⟩ := h4'.at_
      rcases ha with hin | ⟨h0, g', nc, c0, zs, hv, hnc, hc, hz, hN⟩
      · obtain ⟨hv, hrow, hoth⟩ := h4.add hin.1 hy (.inl hin)
        refine ⟨⟨v', L.n + m, L.c, some g⟩, rfl, rfl, .inr ⟨g, rfl, hv, h3, hrow⟩, fun g' hg' => ?_, fun k o hk hne => ?_, .inr ⟨g, h1, h2, h3, ?_⟩, fun _ _ _ => rfl⟩
        · have hg' : some g = some g' := hg'
          rw [← hg']
          exact .inl h1
        · rw [hoth k fun e => hne (by rw [e]; exact h1)]
          exact hk
        · obtain ⟨⟨c2, j1, j2, j3⟩, j4, j5⟩ := hrow
          refine ⟨⟨c2, j1, j2, ?_⟩, h4.le, h4.len⟩
          have h9 := congrArg (List.take (L.n * es)) j3
          rw [List.take_take, Nat.min_eq_left (Nat.mul_le_mul_right _ (by omega)), List.take_append_of_le_length (by rw [h4.len]; omega), List.take_of_length_le (l := cs) (by rw [h4.len]; omega)] at h9
          exact h9
      · refine ⟨⟨v', L.n + m, nc, some g'⟩, rfl, rfl, .inr ⟨g', rfl, hv, by show 0 < nc; omega, ⟨c0, hN.at_, ?_, ?_⟩, hnc, ?_⟩, fun g9 hg9 => ?_, fun k o hk _ => ?_, .inr ⟨g, h1, h2, h3, h4.keep (hN.other g fun e => ?_)⟩, fun g9 hg9 hgl => ?_⟩
        · rw [← Array.length_toList, hc]
          simp only [List.length_append, hy, hz, h4.len]
          have : nc * es = (L.n + m + (nc - (L.n + m))) * es := by congr 1; omega
          show L.n * es + m * es + (nc - (L.n + m)) * es = nc * es
          rw [this, Nat.add_mul, Nat.add_mul]
        · show c0.toList.take ((L.n + m) * es) = _
          have hl : (cs ++ ys).length = (L.n + m) * es := by rw [List.length_append, h4.len, hy, Nat.add_mul]
          rw [hc, List.take_append_of_le_length (by omega), List.take_of_length_le (by omega)]
        · show (cs ++ ys).length = (L.n + m) * es
          rw [List.length_append, h4.len, hy, Nat.add_mul]
        · have hg9 : some g' = some g9 := hg9
          injection hg9 with hg9
          subst hg9
          exact .inr hN.none_
        · rw [hN.other k fun e => (by rw [e, hN.none_] at hk; cases hk)]
          exact hk
        · have := hN.none_
          rw [← e, k1] at this
          cases this
        · have hg9 : some g' = some g9 := hg9
          have := hN.none_
          rw [h1, ← hg9] at hgl
          injection hgl with hgl
          rw [← hgl, k1] at this
          cases this

end
end Go.Proofs.YtiabopbigplklaaDoor

namespace Go.Proofs.YtiabopbigplklaaDoor
open Go.Sx Go.RowKit Go.Shelf
noncomputable section
open Classical

def gsRen : Go.Shelf.Ren := ⟨fun | 290 => 65 | 324 => 70 | n => n, fun | 0 => 0 | 3 => 3 | 4 => 4 | 5 => 5 | 9 => 9 | 20 => 20 | 37 => 30 | 75 => 90 | 80 => 134 | n => n, fun | 14 => 0 | n => n⟩

set_option maxRecDepth 100000 in
theorem gsLays : LaysM.n290 Tryd.prog gsRen where
  mixed := by kernel_rfl
  f290 := Tryd.func65.trans (congrArg some (by kernel_rfl))
  f324 := Tryd.func70.trans (congrArg some (by kernel_rfl))
  t0 := Tryd.underlying0
  a0 := Tryd.isAgg0
  z0 := Tryd.sizeOf0
  v0 := Tryd.zeroValue0
  t3 := Tryd.underlying3
  a3 := Tryd.isAgg3
  z3 := Tryd.sizeOf3
  v3 := Tryd.zeroValue3
  t4 := Tryd.underlying4
  a4 := Tryd.isAgg4
  z4 := Tryd.sizeOf4
  v4 := Tryd.zeroValue4
  t20 := Tryd.underlying20
  a20 := Tryd.isAgg20
  z20 := Tryd.sizeOf20
  v20 := Tryd.zeroValue20
  t37 := Tryd.underlying30
  a37 := Tryd.isAgg30
  z37 := Tryd.sizeOf30
  v37 := Tryd.zeroValue30
  t75 := Tryd.underlying90
  a75 := Tryd.isAgg90
  z75 := Tryd.sizeOf90
  v75 := Tryd.zeroValue90
  g14 := by kernel_rfl
  t5 := Tryd.underlying5
  a5 := Tryd.isAgg5
  z5 := Tryd.sizeOf5
  v5 := Tryd.zeroValue5
  t9 := Tryd.underlying9
  a9 := Tryd.isAgg9
  z9 := Tryd.sizeOf9
  v9 := Tryd.zeroValue9
  t80 := Tryd.underlying134
  a80 := Tryd.isAgg134
  z80 := Tryd.sizeOf134
  v80 := Tryd.zeroValue134
  i0 := by kernel_rfl
  i3 := by kernel_rfl
  i4 := by kernel_rfl
  i5 := by kernel_rfl
  i9 := by kernel_rfl
  i20 := by kernel_rfl
  i37 := by kernel_rfl
  i75 := by kernel_rfl
  i80 := by kernel_rfl
  m14 := by kernel_rfl

structure GsG where
  L : LsD
  cs : List Value
  n : Nat

def growSliceS : FSpec := ⟨GsG, fun g vs A => vs = [g.L.v, .int .i64 g.n] ∧ LsR A 1 5 g.L g.cs ∧ 1 ≤ g.n ∧ g.L.c ≤ 140737488355328 ∧ g.L.n + g.n ≤ 1000000000 ∧ (∀ v ∈ g.cs, v.oneCell' = true) ∧ (g.L.g = none → g.L.v = .slice none 0 0),
  fun g _ A v A' => A.Sub A' ∧ ∃ L' : LsD, v = L'.v ∧ L'.n = g.L.n ∧ g.L.n + g.n ≤ L'.c ∧ L'.c ≤ 9223372036854775807 ∧ LsR A' 1 5 L' g.cs ∧ ∃ k, L'.g = some k ∧ A.blk k = none⟩

/-- One block more. -/
theorem moves_new {A : Arena} {w w' : World} {cells : Array Value} {t : TypeId} (hA : ∀ k o, A.blk k = some o → w.heap[k]? = some o) (hb : Below w.heap.size w w') (hn : w'.heap[w.heap.size]? = some (.cells cells t (0, 0))) :
    A.blk w.heap.size = none ∧ Moves A (Arena.of (fun k => if k = w.heap.size then some (.cells cells t (0, 0)) else A.blk k)) w w' := by
  have hlt : ∀ k o, A.blk k = some o → k < w.heap.size := fun k o hk => (Array.getElem?_eq_some_iff.1 (hA k o hk)).1
  have h0 : A.blk w.heap.size = none := by
    cases h : A.blk w.heap.size with
    | none => rfl
    | some o => exact absurd (hlt _ _ h) (Nat.lt_irrefl _)
  obtain ⟨b1, b2, b3, _, b5⟩ := hb
  refine ⟨h0, b1, b3, b2, fun k _ hk => b5 k hk, fun k o hk => ?_, fun k o hk => ?_⟩
  · have hk : (if k = w.heap.size then some (Obj.cells cells t (0, 0)) else A.blk k) = some o := hk
    by_cases e : k = w.heap.size
    · rw [if_pos e] at hk
      rw [e, hn, hk]
    · rw [if_neg e] at hk
      exact (b5 k (hlt k o hk)).trans (hA k o hk)
  · have hk : (if k = w.heap.size then some (Obj.cells cells t (0, 0)) else A.blk k) = some o := hk
    by_cases e : k = w.heap.size
    · exact .inr (by omega)
    · rw [if_neg e] at hk
      exact .inl ⟨o, hk⟩

theorem growSlice_ok : FOk Tryd.prog 65 growSliceS := by
  intro ⟨L, cs, n⟩ vs A w hA hp
  obtain ⟨rfl, hL, h1, hc, hn, hone, hnil⟩ : vs = [L.v, .int .i64 n] ∧ LsR A 1 5 L cs ∧ 1 ≤ n ∧ L.c ≤ 140737488355328 ∧ L.n + n ≤ 1000000000 ∧ (∀ v ∈ cs, v.oneCell' = true) ∧ (L.g = none → L.v = .slice none 0 0) := hp
  refine goes_of_calls gsLays.f290 ⟨by kernel_rfl, by kernel_rfl⟩ ?_
  rcases hL with ⟨k1, k2, k3, rfl, base, k4⟩ | ⟨g, k1, k2, k3, ⟨⟨cc, j1, j2, j3⟩, j4, j5⟩⟩
  · rw [hnil k1]
    intro fs
    obtain ⟨e, w', fr, ⟨cap2, cells, q1, q2, q3, q4, q5, q6⟩, q7⟩ := Any.bytes_growSlice_nil gsLays n w h1 (by omega) fs
    obtain ⟨h0, hM⟩ := moves_new hA q6 q2
    refine ⟨e, w', fr, ⟨_, q1, _, ⟨fun k o hk => ?_, ⟨.slice (some ⟨w.heap.size, 0, none⟩) 0 cap2, 0, cap2, some w.heap.size⟩, rfl, k2.symm, by show L.n + n ≤ cap2; omega, q5, .inr ⟨w.heap.size, rfl, rfl, by show 0 < cap2; omega, ⟨⟨cells, if_pos rfl, by show cells.size = cap2 * 1; omega, by simp⟩, Nat.zero_le _, by simp⟩⟩, w.heap.size, rfl, h0⟩, hM⟩, q7⟩
    show (if k = w.heap.size then _ else A.blk k) = some o
    rw [if_neg fun e => (by rw [e, h0] at hk; cases hk)]
    exact hk
  · rw [k2]
    have hcc : cc.size = L.c := by omega
    have hone' : ∀ v ∈ cc.toList.take L.n, v.oneCell' = true := fun v hv => hone v (by rw [← j3, Nat.mul_one]; exact hv)
    intro fs
    obtain ⟨e, w', fr, ⟨cap2, cells, q1, q2, q3, q4, q5, q6, q8⟩, q7⟩ := Any.bytes_growSlice_row gsLays g L.n L.c n cc w (hA _ _ j1) hcc j4 h1 (by omega) (by omega) hone' fs
    obtain ⟨h0, hM⟩ := moves_new hA q8 q2
    refine ⟨e, w', fr, ⟨_, q1, _, ⟨fun k o hk => ?_, ⟨.slice (some ⟨w.heap.size, 0, none⟩) L.n cap2, L.n, cap2, some w.heap.size⟩, rfl, rfl, q5, q6, .inr ⟨w.heap.size, rfl, rfl, by show 0 < cap2; omega, ⟨⟨cells, if_pos rfl, by show cells.size = cap2 * 1; omega, ?_⟩, by show L.n ≤ cap2; omega, j5⟩⟩, w.heap.size, rfl, h0⟩, hM⟩, q7⟩
    · show (if k = w.heap.size then _ else A.blk k) = some o
      rw [if_neg fun e => (by rw [e, h0] at hk; cases hk)]
      exact hk
    · show cells.toList.take (L.n * 1) = cs
      rw [Nat.mul_one, q4, ← j3, Nat.mul_one]

end
end Go.Proofs.YtiabopbigplklaaDoor

namespace Go.Proofs.YtiabopbigplklaaDoor
open Go.Sx Go.RowKit
noncomputable section
open Classical

/-- In block w; what was put lies in the list L. -/
structure BfR (A : Arena) (w : Nat) (L : LsD) (l : List UInt8) : Prop where
  top : ∃ lr, CellsAt A w [L.v, .int .i64 0, .int .i8 lr]
  row : LsR A 1 5 L (l.map bv)
  ne : L.g ≠ some w
  nil : L.g = none → L.v = .slice none 0 0
  cap : L.c ≤ 9223372036854775807

theorem BfR.len {A : Arena} {w : Nat} {L : LsD} {l : List UInt8} (h : BfR A w L l) : L.n = l.length := by
  have := h.row.len
  rw [List.length_map] at this
  omega

def BfTo (A : Arena) (w : Nat) (L : LsD) (l : List UInt8) (A' : Arena) : Prop :=
  ∃ L', BfR A' w L' l ∧ (∀ k o, A.blk k = some o → k ≠ w → L.g ≠ some k → A'.blk k = some o) ∧ ∀ g, L'.g = some g → L.g = some g ∨ A.blk g = none

/-- There is room now; what lies in it is not known. -/
def BfRoom (A : Arena) (w : Nat) (L : LsD) (l : List UInt8) (n : Nat) (A' : Arena) : Prop :=
  ∃ (k c : Nat) (zs : List Value), (∃ lr, CellsAt A' w [.slice (some ⟨k, 0, none⟩) (l.length + n) c, .int .i64 0, .int .i8 lr]) ∧ LRow A' k 1 5 (l.length + n) c (l.map bv ++ zs) ∧ zs.length = n ∧ 0 < c ∧ c ≤ 9223372036854775807 ∧ k ≠ w ∧ (L.g = some k ∨ A.blk k = none) ∧
    ∀ k' o, A.blk k' = some o → k' ≠ w → L.g ≠ some k' → A'.blk k' = some o

theorem bv_one (l : List UInt8) : ∀ v ∈ l.map bv, v.oneCell' = true := fun v hv => by
  obtain ⟨b, _, rfl⟩ := List.mem_map.1 hv
  rfl

theorem bnd_upto {x : Int} {c k : Nat} (hx : x = k) (hk : k ≤ c) : ((decide ((0 : Int) ≤ 0) && decide ((0 : Int) ≤ x)) && (false || decide (x ≤ (c : Int)))) = true := by
  subst hx
  exact Bool.and_eq_true_iff.2 ⟨Bool.and_eq_true_iff.2 ⟨decide_eq_true (by omega), decide_eq_true (by omega)⟩, Bool.or_eq_true_iff.2 (.inr (decide_eq_true (by omega)))⟩

theorem LsR.rowAt {A : Arena} {es : Nat} {e : TypeId} {L : LsD} {cs : List Value} {k : Nat} (h : LsR A es e L cs) (hk : L.g = some k) : L.v = .slice (some ⟨k, 0, none⟩) L.n L.c ∧ 0 < L.c ∧ LRow A k es e L.n L.c cs := by
  rcases h with ⟨h1, _⟩ | ⟨g, h1, h2, h3, h4⟩
  · rw [h1] at hk; cases hk
  · rw [h1] at hk
    injection hk with hk
    subst hk
    exact ⟨h2, h3, h4⟩

/-- A row reaches farther into its room. -/
theorem LRow.wide {A : Arena} {k : Nat} {e : TypeId} {m c n : Nat} {cs : List Value} (h : LRow A k 1 e m c cs) (hn : m + n ≤ c) : ∃ zs : List Value, zs.length = n ∧ LRow A k 1 e (m + n) c (cs ++ zs) := by
  obtain ⟨⟨cc, h1, h2, h3⟩, h4, h5⟩ := h
  have hcl : cc.toList.length = c := by rw [Array.length_toList]; omega
  have hz : ((cc.toList.drop m).take n).length = n := by rw [List.length_take, List.length_drop]; omega
  refine ⟨(cc.toList.drop m).take n, hz, ⟨cc, h1, h2, ?_⟩, hn, by rw [List.length_append, hz]; omega⟩
  rw [Nat.mul_one] at h3 ⊢
  rw [List.take_add, h3]

structure BfG where
  w : Nat
  L : LsD
  l : List UInt8
  n : Nat

/-- grow, where tryGrowByReslice has failed. -/
def bfGrowS : FSpec := ⟨BfG, fun g vs A => vs = [.pointer (some ⟨g.w, 0, none⟩), .int .i64 g.n] ∧ BfR A g.w g.L g.l ∧ 1 ≤ g.n ∧ g.l.length + g.n ≤ 900000000 ∧ g.L.c < g.l.length + g.n, fun g _ A v A' => v = .int .i64 g.l.length ∧ BfRoom A g.w g.L g.l g.n A'⟩

set_option maxRecDepth 100000 in
set_option maxHeartbeats 0 in
theorem bfGrow_ok : FOk Tryd.prog 49 bfGrowS := by
  refine fok_v mixed fun ⟨w, L, l, n⟩ vs A hp => ?_
  obtain ⟨rfl, hW, hn1, hlen, hfull⟩ : vs = [.pointer (some ⟨w, 0, none⟩), .int .i64 n] ∧ BfR A w L l ∧ 1 ≤ n ∧ l.length + n ≤ 900000000 ∧ L.c < l.length + n := hp
  have hC : CTSound Tryd.prog (lookC [specE 65 growSliceS] noC) := lookC_sound (noC_sound _) (fun x hx => by
    simp only [List.mem_singleton] at hx
    subst hx
    exact specE_ok growSlice_ok)
  refine ⟨_, noL, 60, hC, noL_sound _, fun blk os out tape D hD => ?_⟩
  have hL := hW.len
  obtain ⟨lr, htop⟩ := hW.top
  have hrow := hW.row
  rcases hrow with ⟨k1, k2, k3, k4, -⟩ | ⟨g, k1, k2, k3, k5⟩
  · have hv := hW.nil k1
    rw [hv] at htop
    have r1 : A.rd w 0 1 = some [.slice none 0 0] := htop.rd (o := 0) (n := 1) (by show 0 + 1 ≤ 3; omega)
    have r2 : A.rd w 1 1 = some [.int .i64 0] := htop.rd (o := 1) (n := 1) (by show 1 + 1 ≤ 3; omega)
    conv => lhs; whnf
    repeat (first | refine go_rd r1 ?_ | refine go_rd r2 ?_ | refine go_D hD rfl ?_
            conv => lhs; whnf)
    refine split_dec (fun h => absurd h (by show ¬ ((n : Int) ≤ 0); omega)) (fun _ => ?_)
    conv => lhs; whnf
    repeat (first | refine go_rd r1 ?_ | refine go_rd r2 ?_ | refine go_D hD rfl ?_
            conv => lhs; whnf)
    refine split_dec (fun h64 => ?_) (fun h64 => ?_) <;> (conv => lhs; whnf)
    all_goals
      repeat (first | refine go_rd r1 ?_ | refine go_rd r2 ?_ | refine go_D hD rfl ?_
              conv => lhs; whnf)
    · refine (hD _).2 ⟨by omega, h64, by decide, by decide, rfl, fun gb A1 c1 hc1 hN1 => ?_⟩
      have hN1 : A.New A1 gb c1 5 := hN1
      have hroom : A1.Room w 0 1 := (htop.sub fun o ho => hN1.sub w o ho).room (by show 0 + 1 ≤ 3; omega)
      conv => lhs; whnf
      repeat (first | refine go_rd r1 ?_ | refine go_rd r2 ?_ | refine go_D hD rfl ?_
              conv => lhs; whnf)
      refine (hD _).2 ⟨hroom, fun A6 hPut => ?_⟩
      have hPut : A1.Put A6 w 0 [.slice (some ⟨gb, 0, none⟩) n 64] := hPut
      conv => lhs; whnf
      repeat (first | refine go_rd r1 ?_ | refine go_rd r2 ?_ | refine go_D hD rfl ?_
              conv => lhs; whnf)
      have hc1' : c1.toList = List.replicate 64 (.int .u8 0) := by
        rw [hc1]
        show (List.replicate 64 [Value.int .u8 0]).flatten = _
        rw [List.flatten_replicate_singleton]
      have h64' : n ≤ 64 := by
        have h64 : (n : Int) ≤ 64 := h64
        omega
      have hgw : gb ≠ w := fun e => (by
        have hd := htop.dom
        obtain ⟨o, ho⟩ := hd
        rw [← e, hN1.none_] at ho; cases ho)
      have hend : bfGrowS.post ⟨w, L, l, n⟩ [] A (.int .i64 0) A6 := by
        have hl0 : l.length = 0 := by omega
        refine ⟨congrArg (Value.int .i64) (show (0 : Int) = (l.length : Int) by omega), gb, 64, c1.toList.take n, ⟨lr, ?_⟩, ⟨⟨c1, ?_, ?_, ?_⟩, ?_, ?_⟩, ?_, by decide, by decide, hgw, .inr hN1.none_, fun k' o hk hw _ => ?_⟩
        · have h9 : CellsAt A6 w [.slice (some ⟨gb, 0, none⟩) n 64, .int .i64 0, .int .i8 lr] := (htop.sub fun o ho => hN1.sub w o ho).put hPut (by show 0 + 1 ≤ 3; omega)
          show CellsAt A6 w [.slice (some ⟨gb, 0, none⟩) (l.length + n) 64, .int .i64 0, .int .i8 lr]
          rw [hl0, Nat.zero_add]
          exact h9
        · rw [hPut.other gb hgw]
          exact hN1.at_
        · rw [← Array.length_toList, hc1', List.length_replicate]
        · show c1.toList.take ((l.length + n) * 1) = l.map bv ++ c1.toList.take n
          rw [k4, hl0, Nat.zero_add, Nat.mul_one]
          rfl
        · show l.length + n ≤ 64
          omega
        · show (l.map bv ++ c1.toList.take n).length = (l.length + n) * 1
          rw [k4, List.nil_append, List.length_take, hc1', List.length_replicate]
          omega
        · show (c1.toList.take n).length = n
          rw [List.length_take, hc1', List.length_replicate]
          omega
        · rw [hPut.other k' hw]
          exact hN1.sub k' o hk
      exact (hD _).2 hend
    · have e2 : IntKind.i64.wrap (IntKind.i64.wrap ((0 : Int).tdiv 2) - IntKind.i64.wrap ((0 : Int) - 0)) = 0 := by decide +kernel
      refine split_dec (fun h => absurd h (by
        intro h
        have h : (n : Int) ≤ IntKind.i64.wrap (IntKind.i64.wrap ((0 : Int).tdiv 2) - IntKind.i64.wrap ((0 : Int) - 0)) := h
        rw [e2] at h
        omega)) (fun _ => ?_)
      conv => lhs; whnf
      repeat (first | refine go_rd r1 ?_ | refine go_rd r2 ?_ | refine go_D hD rfl ?_
              conv => lhs; whnf)
      have e3 : IntKind.i64.wrap (IntKind.i64.wrap ((9223372036854775807 : Int) - 0) - (n : Int)) = 9223372036854775807 - (n : Int) := by
        rw [i64_in (n := (9223372036854775807 : Int) - 0) (by omega) (by omega), i64_in (by omega) (by omega)]
        omega
      refine split_dec (fun h => absurd h (by
        intro h
        have h : IntKind.i64.wrap (IntKind.i64.wrap ((9223372036854775807 : Int) - 0) - (n : Int)) < 0 := h
        rw [e3] at h
        omega)) (fun _ => ?_)
      conv => lhs; whnf
      repeat (first | refine go_rd r1 ?_ | refine go_rd r2 ?_ | refine go_D hD rfl ?_
              conv => lhs; whnf)
      have e4 : IntKind.i64.wrap ((0 : Int) + (n : Int)) = (n : Int) := by rw [Int.zero_add]; exact i64_in (by omega) (by omega)
      have e6 : IntKind.i64.wrap (IntKind.i64.wrap ((0 : Int) - 0) + (n : Int)) = ((L.n + n : Nat) : Int) := by
        have e7 : IntKind.i64.wrap ((0 : Int) - 0) = 0 := by decide +kernel
        rw [e7, i64_in (by omega) (by omega)]
        omega
      have harg : [Value.slice none 0 0, .int .i64 (IntKind.i64.wrap ((0 : Int) + (n : Int)))] = [L.v, .int .i64 (n : Int)] := by rw [hv, e4]
      refine (hD _).2 ⟨(⟨L, l.map bv, n⟩ : GsG), ⟨harg, hW.row, hn1, by show L.c ≤ 140737488355328; omega, by show L.n + n ≤ 1000000000; omega, bv_one l, hW.nil⟩, fun v A1 hq => ?_⟩
      obtain ⟨s1, ⟨v', n', c', g'⟩, hv', hn', hc', hcm, hR, kb, hkb, hkA⟩ : A.Sub A1 ∧ ∃ L' : LsD, v = L'.v ∧ L'.n = L.n ∧ L.n + n ≤ L'.c ∧ L'.c ≤ 9223372036854775807 ∧ LsR A1 1 5 L' (l.map bv) ∧ ∃ k, L'.g = some k ∧ A.blk k = none := hq
      have hf := hR.rowAt hkb
      obtain ⟨z2, z3, z4⟩ := hf
      have hn' : n' = L.n := hn'
      have z2 : v' = .slice (some ⟨kb, 0, none⟩) n' c' := z2
      have hv' : v = v' := hv'
      subst hn'; subst hv'; subst z2
      have hc' : L.n + n ≤ c' := hc'
      have hkw : kb ≠ w := fun e => (by
        have hd := htop.dom
        obtain ⟨o, ho⟩ := hd
        rw [← e, hkA] at ho; cases ho)
      have ht1 := htop.sub fun o ho => s1 w o ho
      have hroom : A1.Room w 0 1 := ht1.room (by show 0 + 1 ≤ 3; omega)
      conv => lhs; whnf
      repeat (first | refine go_rd r1 ?_ | refine go_rd r2 ?_ | refine go_D hD rfl ?_
              conv => lhs; whnf)
      refine (hD _).2 ⟨hroom, fun A2 hP2 => ?_⟩
      conv => lhs; whnf
      repeat (first | refine go_rd r1 ?_ | refine go_rd r2 ?_ | refine go_D hD rfl ?_
              conv => lhs; whnf)
      have hP2 : A1.Put A2 w 0 [.slice (some ⟨kb, 0, none⟩) L.n c'] := hP2
      have ht2 : CellsAt A2 w [.slice (some ⟨kb, 0, none⟩) L.n c', .int .i64 0, .int .i8 lr] := ht1.put hP2 (by show 0 + 1 ≤ 3; omega)
      refine (hD _).2 ⟨ht2.room (by show 1 + 1 ≤ 3; omega), fun A3 hP3 => ?_⟩
      have hP3 : A2.Put A3 w 1 [.int .i64 0] := hP3
      have ht3 : CellsAt A3 w [.slice (some ⟨kb, 0, none⟩) L.n c', .int .i64 0, .int .i8 lr] := ht2.put hP3 (by show 1 + 1 ≤ 3; omega)
      have r3 : A3.rd w 0 1 = some [.slice (some ⟨kb, 0, none⟩) L.n c'] := ht3.rd (o := 0) (n := 1) (by show 0 + 1 ≤ 3; omega)
      conv => lhs; whnf
      repeat (first | refine go_rd r3 ?_ | refine go_D hD rfl ?_
              conv => lhs; whnf)
      refine go_b (bnd_upto e6 hc') ?_
      conv => lhs; whnf
      repeat (first | refine go_rd r3 ?_ | refine go_D hD rfl ?_
              conv => lhs; whnf)
      refine (hD _).2 ⟨ht3.room (by show 0 + 1 ≤ 3; omega), fun A4 hP4 => ?_⟩
      have hP4 : A3.Put A4 w 0 [.slice (some ⟨kb, 0 + (bif c'.beq (Int.toNat 0) then 0 else Int.toNat 0 * 1), none⟩) ((IntKind.i64.wrap (IntKind.i64.wrap ((0 : Int) - 0) + (n : Int))).toNat - Int.toNat 0) (c' - Int.toNat 0)] := hP4
      have e8 : (bif c'.beq (Int.toNat 0) then 0 else Int.toNat 0 * 1) = 0 := by cases c'.beq (Int.toNat 0) <;> rfl
      rw [e6, e8] at hP4
      have hP4 : A3.Put A4 w 0 [.slice (some ⟨kb, 0, none⟩) (L.n + n) c'] := hP4
      have ht4 : CellsAt A4 w [.slice (some ⟨kb, 0, none⟩) (L.n + n) c', .int .i64 0, .int .i8 lr] := ht3.put hP4 (by show 0 + 1 ≤ 3; omega)
      have hoth : ∀ k, k ≠ w → A4.blk k = A1.blk k := fun k hk => by rw [hP4.other k hk, hP3.other k hk, hP2.other k hk]
      have z4 : LRow A1 kb 1 5 L.n c' (l.map bv) := z4
      have hwide := z4.wide hc'
      obtain ⟨zs, hz, hrow9⟩ := hwide
      rw [hL] at ht4 hrow9
      have hend : bfGrowS.post ⟨w, L, l, n⟩ [] A (.int .i64 (IntKind.i64.wrap ((0 : Int) - 0))) A4 := by
        refine ⟨congrArg (Value.int .i64) (by rw [show IntKind.i64.wrap ((0 : Int) - 0) = 0 by decide +kernel]; show (0 : Int) = (l.length : Int); omega), kb, c', zs, ⟨lr, ht4⟩, hrow9.keep (hoth kb hkw), hz, z3, hcm, hkw, .inr hkA, fun k' o hk hw _ => ?_⟩
        rw [hoth k' hw]
        exact s1 k' o hk
      conv => lhs; whnf
      repeat (first | refine go_D hD rfl ?_
              conv => lhs; whnf)
      exact (hD _).2 hend
  · rw [k2] at htop
    have r1 : A.rd w 0 1 = some [.slice (some ⟨g, 0, none⟩) L.n L.c] := htop.rd (o := 0) (n := 1) (by show 0 + 1 ≤ 3; omega)
    have r2 : A.rd w 1 1 = some [.int .i64 0] := htop.rd (o := 1) (n := 1) (by show 1 + 1 ≤ 3; omega)
    conv => lhs; whnf
    repeat (first | refine go_rd r1 ?_ | refine go_rd r2 ?_ | refine go_D hD rfl ?_
            conv => lhs; whnf)
    have hcp := hW.cap
    have e0 : IntKind.i64.wrap ((L.n : Int) - 0) = (L.n : Int) := i64_in (by omega) (by omega)
    have e1 : IntKind.i64.wrap ((L.c : Int) - (L.n : Int)) = (L.c : Int) - (L.n : Int) := i64_in (by omega) (by omega)
    have e2 : IntKind.i64.wrap (IntKind.i64.wrap ((L.c : Int).tdiv 2) - IntKind.i64.wrap ((L.n : Int) - 0)) = ((L.c / 2 : Nat) : Int) - (L.n : Int) := by
      rw [e0, Int.tdiv_eq_ediv_of_nonneg (by omega), i64_in (n := (L.c : Int) / 2) (by omega) (by omega), i64_in (by omega) (by omega)]
      omega
    have e3 : IntKind.i64.wrap (IntKind.i64.wrap ((9223372036854775807 : Int) - (L.c : Int)) - (n : Int)) = 9223372036854775807 - (L.c : Int) - (n : Int) := by
      rw [i64_in (n := (9223372036854775807 : Int) - (L.c : Int)) (by omega) (by omega), i64_in (by omega) (by omega)]
    have e4 : IntKind.i64.wrap ((0 : Int) + (n : Int)) = (n : Int) := by rw [Int.zero_add]; exact i64_in (by omega) (by omega)
    have harg : [Value.slice (some ⟨g, 0 + (bif L.c.beq (Int.toNat 0) then 0 else Int.toNat 0 * 1), none⟩) ((L.n : Int).toNat - Int.toNat 0) (L.c - Int.toNat 0), .int .i64 (IntKind.i64.wrap ((0 : Int) + (n : Int)))] = [L.v, .int .i64 (n : Int)] := by
      have e5 : (bif L.c.beq (Int.toNat 0) then 0 else Int.toNat 0 * 1) = 0 := by cases L.c.beq (Int.toNat 0) <;> rfl
      rw [e4, k2, e5]
      rfl
    have e6 : IntKind.i64.wrap (IntKind.i64.wrap ((L.n : Int) - 0) + (n : Int)) = ((L.n + n : Nat) : Int) := by
      rw [e0, i64_in (by omega) (by omega)]
      omega
    refine split_dec (fun h0 => ?_) (fun h0 => ?_) <;> (conv => lhs; whnf)
    all_goals
      repeat (first | refine go_rd r1 ?_ | refine go_rd r2 ?_ | refine go_D hD rfl ?_
              conv => lhs; whnf)
      refine split_dec (fun h => absurd h (by rw [e1]; omega)) (fun _ => ?_)
      conv => lhs; whnf
      repeat (first | refine go_rd r1 ?_ | refine go_rd r2 ?_ | refine go_D hD rfl ?_
              conv => lhs; whnf)
      refine split_dec (fun h => absurd h (by rw [e2]; omega)) (fun _ => ?_)
      conv => lhs; whnf
      repeat (first | refine go_rd r1 ?_ | refine go_rd r2 ?_ | refine go_D hD rfl ?_
              conv => lhs; whnf)
    all_goals
      refine split_dec (fun h => absurd h (by rw [e3]; omega)) (fun _ => ?_)
      conv => lhs; whnf
      repeat (first | refine go_rd r1 ?_ | refine go_rd r2 ?_ | refine go_D hD rfl ?_
              conv => lhs; whnf)
    all_goals
      refine (hD _).2 ⟨(⟨L, l.map bv, n⟩ : GsG), ⟨harg, hW.row, hn1, by show L.c ≤ 140737488355328; omega, by show L.n + n ≤ 1000000000; omega, bv_one l, hW.nil⟩, fun v A1 hq => ?_⟩
      obtain ⟨s1, ⟨v', n', c', g'⟩, hv', hn', hc', hcm, hR, kb, hkb, hkA⟩ : A.Sub A1 ∧ ∃ L' : LsD, v = L'.v ∧ L'.n = L.n ∧ L.n + n ≤ L'.c ∧ L'.c ≤ 9223372036854775807 ∧ LsR A1 1 5 L' (l.map bv) ∧ ∃ k, L'.g = some k ∧ A.blk k = none := hq
      have hf := hR.rowAt hkb
      obtain ⟨z2, z3, z4⟩ := hf
      have hn' : n' = L.n := hn'
      have z2 : v' = .slice (some ⟨kb, 0, none⟩) n' c' := z2
      have hv' : v = v' := hv'
      subst hn'; subst hv'; subst z2
      have hc' : L.n + n ≤ c' := hc'
      have hkw : kb ≠ w := fun e => (by
        have hd := htop.dom
        obtain ⟨o, ho⟩ := hd
        rw [← e, hkA] at ho; cases ho)
      have ht1 := htop.sub fun o ho => s1 w o ho
      have hroom : A1.Room w 0 1 := ht1.room (by show 0 + 1 ≤ 3; omega)
      conv => lhs; whnf
      repeat (first | refine go_rd r1 ?_ | refine go_rd r2 ?_ | refine go_D hD rfl ?_
              conv => lhs; whnf)
      refine (hD _).2 ⟨hroom, fun A2 hP2 => ?_⟩
      conv => lhs; whnf
      repeat (first | refine go_rd r1 ?_ | refine go_rd r2 ?_ | refine go_D hD rfl ?_
              conv => lhs; whnf)
      have hP2 : A1.Put A2 w 0 [.slice (some ⟨kb, 0, none⟩) L.n c'] := hP2
      have ht2 : CellsAt A2 w [.slice (some ⟨kb, 0, none⟩) L.n c', .int .i64 0, .int .i8 lr] := ht1.put hP2 (by show 0 + 1 ≤ 3; omega)
      refine (hD _).2 ⟨ht2.room (by show 1 + 1 ≤ 3; omega), fun A3 hP3 => ?_⟩
      have hP3 : A2.Put A3 w 1 [.int .i64 0] := hP3
      have ht3 : CellsAt A3 w [.slice (some ⟨kb, 0, none⟩) L.n c', .int .i64 0, .int .i8 lr] := ht2.put hP3 (by show 1 + 1 ≤ 3; omega)
      have r3 : A3.rd w 0 1 = some [.slice (some ⟨kb, 0, none⟩) L.n c'] := ht3.rd (o := 0) (n := 1) (by show 0 + 1 ≤ 3; omega)
      conv => lhs; whnf
      repeat (first | refine go_rd r3 ?_ | refine go_D hD rfl ?_
              conv => lhs; whnf)
      refine go_b (bnd_upto e6 hc') ?_
      conv => lhs; whnf
      repeat (first | refine go_rd r3 ?_ | refine go_D hD rfl ?_
              conv => lhs; whnf)
      refine (hD _).2 ⟨ht3.room (by show 0 + 1 ≤ 3; omega), fun A4 hP4 => ?_⟩
      have hP4 : A3.Put A4 w 0 [.slice (some ⟨kb, 0 + (bif c'.beq (Int.toNat 0) then 0 else Int.toNat 0 * 1), none⟩) ((IntKind.i64.wrap (IntKind.i64.wrap ((L.n : Int) - 0) + (n : Int))).toNat - Int.toNat 0) (c' - Int.toNat 0)] := hP4
      have e8 : (bif c'.beq (Int.toNat 0) then 0 else Int.toNat 0 * 1) = 0 := by cases c'.beq (Int.toNat 0) <;> rfl
      rw [e6, e8] at hP4
      have hP4 : A3.Put A4 w 0 [.slice (some ⟨kb, 0, none⟩) (L.n + n) c'] := hP4
      have ht4 : CellsAt A4 w [.slice (some ⟨kb, 0, none⟩) (L.n + n) c', .int .i64 0, .int .i8 lr] := ht3.put hP4 (by show 0 + 1 ≤ 3; omega)
      have hoth : ∀ k, k ≠ w → A4.blk k = A1.blk k := fun k hk => by rw [hP4.other k hk, hP3.other k hk, hP2.other k hk]
      have z4 : LRow A1 kb 1 5 L.n c' (l.map bv) := z4
      have hwide := z4.wide hc'
      obtain ⟨zs, hz, hrow9⟩ := hwide
      rw [hL] at ht4 hrow9
      have hend : bfGrowS.post ⟨w, L, l, n⟩ [] A (.int .i64 (IntKind.i64.wrap ((L.n : Int) - 0))) A4 := by
        refine ⟨congrArg (Value.int .i64) (by rw [e0, hL]), kb, c', zs, ⟨lr, ht4⟩, hrow9.keep (hoth kb hkw), hz, z3, hcm, hkw, .inr hkA, fun k' o hk hw _ => ?_⟩
        rw [hoth k' hw]
        exact s1 k' o hk
      conv => lhs; whnf
      repeat (first | refine go_D hD rfl ?_
              conv => lhs; whnf)
      exact (hD _).2 hend

end
end Go.Proofs.YtiabopbigplklaaDoor

namespace Go.Proofs.YtiabopbigplklaaDoor
open Go.Sx Go.RowKit
noncomputable section
open Classical

/-- What lies in the room is written over. -/
theorem LRow.refill {A A' : Arena} {g : Nat} {e : TypeId} {m c n : Nat} {cs zs ys : List Value} (h : LRow A g 1 e (m + n) c (cs ++ zs)) (hc : cs.length = m) (hz : zs.length = n) (hy : ys.length = n) (hP : A.Put A' g m ys) : LRow A' g 1 e (m + n) c (cs ++ ys) := by
  obtain ⟨⟨cc, h1, h2, h3⟩, h4, h5⟩ := h
  obtain ⟨c0, t0, fz0, c', k1, k2, k3⟩ := hP.at_
  rw [h1] at k1
  injection k1 with k1
  injection k1 with k1 k1' k1''
  subst k1; subst k1'; subst k1''
  have hcl : cc.toList.length = c := by rw [Array.length_toList]; omega
  have hm : cc.toList.take m = cs := by
    have h9 := congrArg (List.take m) h3
    rw [List.take_take, Nat.min_eq_left (by omega), List.take_append_of_le_length (by omega), List.take_of_length_le (l := cs) (by omega)] at h9
    exact h9
  refine ⟨⟨c', k2, ?_, ?_⟩, h4, by rw [List.length_append]; omega⟩
  · rw [← Array.length_toList, k3]
    simp only [List.length_append, List.length_take, List.length_drop, hcl, hy]
    omega
  · rw [k3, hm, Nat.mul_one, List.take_append_of_le_length (by rw [List.length_append]; omega), List.take_of_length_le (by rw [List.length_append]; omega)]

/-- The room is filled. -/
theorem bf_fill {A A1 A2 : Arena} {w n k c : Nat} {L : LsD} {l ys : List UInt8} {zs : List Value} {lr : Int} (ht : CellsAt A1 w [.slice (some ⟨k, 0, none⟩) (l.length + n) c, .int .i64 0, .int .i8 lr]) (hr : LRow A1 k 1 5 (l.length + n) c (l.map bv ++ zs)) (hz : zs.length = n) (hc0 : 0 < c) (hcm : c ≤ 9223372036854775807) (hkw : k ≠ w)
    (hg : L.g = some k ∨ A.blk k = none) (hk : ∀ k' o, A.blk k' = some o → k' ≠ w → L.g ≠ some k' → A1.blk k' = some o) (hP : A1.Put A2 k l.length (ys.map bv)) (hy : ys.length = n) : BfTo A w L (l ++ ys) A2 := by
  have hrow := hr.refill (by rw [List.length_map]) hz (by rw [List.length_map]; exact hy) hP
  refine ⟨⟨.slice (some ⟨k, 0, none⟩) (l.length + n) c, l.length + n, c, some k⟩, ⟨⟨lr, ht.sub fun o ho => by rw [hP.other w hkw.symm]; exact ho⟩, .inr ⟨k, rfl, rfl, hc0, ?_⟩, fun e => hkw (Option.some.inj e), fun e => (by cases e), hcm⟩, fun k' o hk' hw hL => ?_, fun g hg' => ?_⟩
  · rw [List.map_append]
    exact hrow
  · rw [hP.other k' fun e => ?_]
    · exact hk k' o hk' hw hL
    · subst e
      rcases hg with h | h
      · exact hL h
      · rw [h] at hk'; cases hk'
  · have hg' : some k = some g := hg'
    injection hg' with hg'
    subst hg'
    exact hg

/-- The cell that tells what was read last. -/
theorem BfR.put2 {A A1 : Arena} {w : Nat} {L : LsD} {l : List UInt8} {x : Int} (h : BfR A w L l) (hP : A.Put A1 w 2 [.int .i8 x]) : BfR A1 w L l := by
  obtain ⟨lr, ht⟩ := h.top
  refine ⟨⟨x, ht.put hP (by show 2 + 1 ≤ 3; omega)⟩, h.row.keep fun g o hg ho => ?_, h.ne, h.nil, h.cap⟩
  rw [hP.other g fun e => h.ne (by rw [← e]; exact hg)]
  exact ho

theorem BfTo.ahead {A A1 A2 : Arena} {w : Nat} {L : LsD} {l : List UInt8} {o : Nat} {vs : List Value} (hP : A.Put A1 w o vs) (h : BfTo A1 w L l A2) : BfTo A w L l A2 := by
  obtain ⟨L', h1, h2, h3⟩ := h
  refine ⟨L', h1, fun k ob hk hw hL => h2 k ob (by rw [hP.other k hw]; exact hk) hw hL, fun g hg => ?_⟩
  rcases h3 g hg with h | h
  · exact .inl h
  · by_cases e : g = w
    · exact absurd (e ▸ hg) h1.ne
    · rw [hP.other g e] at h
      exact .inr h

structure BbG where
  w : Nat
  L : LsD
  l : List UInt8
  b : UInt8

def bfByteS : FSpec := ⟨BbG, fun g vs A => vs = [.pointer (some ⟨g.w, 0, none⟩), .int .u8 g.b.toNat] ∧ BfR A g.w g.L g.l ∧ g.l.length ≤ 890000000, fun g _ A v A' => v = .nilIface ∧ BfTo A g.w g.L (g.l ++ [g.b]) A'⟩

set_option maxRecDepth 100000 in
set_option maxHeartbeats 0 in
theorem bfByte_ok : FOk Tryd.prog 36 bfByteS := by
  refine fok_v mixed fun ⟨w, L, l, b⟩ vs A hp => ?_
  obtain ⟨rfl, hW, hlen⟩ : vs = [.pointer (some ⟨w, 0, none⟩), .int .u8 b.toNat] ∧ BfR A w L l ∧ l.length ≤ 890000000 := hp
  have hC : CTSound Tryd.prog (lookC [specE 49 bfGrowS] noC) := lookC_sound (noC_sound _) (fun x hx => by
    simp only [List.mem_singleton] at hx
    subst hx
    exact specE_ok bfGrow_ok)
  refine ⟨_, noL, 60, hC, noL_sound _, fun blk os out tape D hD => ?_⟩
  have hL := hW.len
  have hcp := hW.cap
  obtain ⟨lr, htop⟩ := hW.top
  have hroom : A.Room w 2 1 := htop.room (by show 2 + 1 ≤ 3; omega)
  conv => lhs; whnf
  repeat (first | refine go_D hD rfl ?_
          conv => lhs; whnf)
  refine (hD _).2 ⟨hroom, fun A1 hP1 => ?_⟩
  have hP1 : A.Put A1 w 2 [.int .i8 0] := hP1
  have hW1 := hW.put2 hP1
  have ht1 : CellsAt A1 w [L.v, .int .i64 0, .int .i8 0] := htop.put hP1 (by show 2 + 1 ≤ 3; omega)
  have hrow := hW.row
  rcases hrow with ⟨k1, k2, k3, k4, -⟩ | ⟨g, k1, k2, k3, k5⟩
  · rw [hW.nil k1] at ht1
    have r1 : A1.rd w 0 1 = some [.slice none 0 0] := ht1.rd (o := 0) (n := 1) (by show 0 + 1 ≤ 3; omega)
    conv => lhs; whnf
    repeat (first | refine go_rd r1 ?_ | refine go_D hD rfl ?_
            conv => lhs; whnf)
    refine (hD _).2 ⟨(⟨w, L, l, 1⟩ : BfG), ⟨rfl, hW1, Nat.le_refl _, by show l.length + 1 ≤ 900000000; omega, by show L.c < l.length + 1; omega⟩, fun v A2 hq => ?_⟩
    obtain ⟨hv, kb, c, zs, ⟨lr2, ht2⟩, hr2, hz, hc0, hcm, hkw, hg, hk2⟩ : v = .int .i64 l.length ∧ BfRoom A1 w L l 1 A2 := hq
    subst hv
    have r2 : A2.rd w 0 1 = some [.slice (some ⟨kb, 0, none⟩) (l.length + 1) c] := ht2.rd (o := 0) (n := 1) (by show 0 + 1 ≤ 3; omega)
    have i0 : (0 : Int) ≤ (l.length : Int) ∧ (l.length : Int) < ((l.length + 1 : Nat) : Int) := by omega
    conv => lhs; whnf
    repeat (first | refine go_in i0 ?_ | refine go_rd r2 ?_ | refine go_D hD rfl ?_
            conv => lhs; whnf)
    refine (hD _).2 ⟨hr2.room (by show 0 + l.length * 1 + 1 ≤ c * 1; have := hr2.le; omega), fun A3 hP3 => ?_⟩
    have hP3 : A2.Put A3 kb (0 + l.length * 1) [.int .u8 b.toNat] := hP3
    rw [Nat.mul_one, Nat.zero_add] at hP3
    have hfin := (bf_fill (ys := [b]) ht2 hr2 hz hc0 hcm hkw hg hk2 hP3 rfl).ahead hP1
    have hend : bfByteS.post ⟨w, L, l, b⟩ [] A .nilIface A3 := ⟨rfl, hfin⟩
    conv => lhs; whnf
    repeat (first | refine go_D hD rfl ?_
            conv => lhs; whnf)
    exact (hD _).2 hend
  · rw [k2] at ht1
    have r1 : A1.rd w 0 1 = some [.slice (some ⟨g, 0, none⟩) L.n L.c] := ht1.rd (o := 0) (n := 1) (by show 0 + 1 ≤ 3; omega)
    conv => lhs; whnf
    repeat (first | refine go_rd r1 ?_ | refine go_D hD rfl ?_
            conv => lhs; whnf)
    have e1 : IntKind.i64.wrap ((L.c : Int) - (L.n : Int)) = (L.c : Int) - (L.n : Int) := i64_in (by omega) (by omega)
    refine split_dec (fun h1 => ?_) (fun h1 => ?_)
    · rw [e1] at h1
      conv => lhs; whnf
      repeat (first | refine go_rd r1 ?_ | refine go_D hD rfl ?_
              conv => lhs; whnf)
      have hle : L.n + 1 ≤ L.c := by omega
      have e6 : IntKind.i64.wrap ((L.n : Int) + 1) = ((L.n + 1 : Nat) : Int) := by
        rw [i64_in (by omega) (by omega)]
        omega
      refine go_b (bnd_upto e6 hle) ?_
      conv => lhs; whnf
      repeat (first | refine go_rd r1 ?_ | refine go_D hD rfl ?_
              conv => lhs; whnf)
      refine (hD _).2 ⟨ht1.room (by show 0 + 1 ≤ 3; omega), fun A2 hP2 => ?_⟩
      have hP2 : A1.Put A2 w 0 [.slice (some ⟨g, 0 + (bif L.c.beq (Int.toNat 0) then 0 else Int.toNat 0 * 1), none⟩) ((IntKind.i64.wrap ((L.n : Int) + 1)).toNat - Int.toNat 0) (L.c - Int.toNat 0)] := hP2
      have e8 : (bif L.c.beq (Int.toNat 0) then 0 else Int.toNat 0 * 1) = 0 := by cases L.c.beq (Int.toNat 0) <;> rfl
      rw [e6, e8] at hP2
      have hP2 : A1.Put A2 w 0 [.slice (some ⟨g, 0, none⟩) (L.n + 1) L.c] := hP2
      have ht2 : CellsAt A2 w [.slice (some ⟨g, 0, none⟩) (L.n + 1) L.c, .int .i64 0, .int .i8 0] := ht1.put hP2 (by show 0 + 1 ≤ 3; omega)
      have hgw : g ≠ w := fun e => hW.ne (by rw [k1, e])
      have hr1 : LRow A2 g 1 5 L.n L.c (l.map bv) := k5.keep (by rw [hP2.other g hgw, hP1.other g hgw])
      have hwide := hr1.wide hle
      obtain ⟨zs, hz, hr2⟩ := hwide
      have r2 : A2.rd w 0 1 = some [.slice (some ⟨g, 0, none⟩) (L.n + 1) L.c] := ht2.rd (o := 0) (n := 1) (by show 0 + 1 ≤ 3; omega)
      have i0 : (0 : Int) ≤ (L.n : Int) ∧ (L.n : Int) < ((L.n + 1 : Nat) : Int) := by omega
      conv => lhs; whnf
      repeat (first | refine go_in i0 ?_ | refine go_rd r2 ?_ | refine go_D hD rfl ?_
              conv => lhs; whnf)
      refine (hD _).2 ⟨hr2.room (by show 0 + L.n * 1 + 1 ≤ L.c * 1; omega), fun A3 hP3 => ?_⟩
      have hP3 : A2.Put A3 g (0 + L.n * 1) [.int .u8 b.toNat] := hP3
      rw [Nat.mul_one, Nat.zero_add, hL] at hP3
      rw [hL] at ht2 hr2
      have hk2 : ∀ k' o, A1.blk k' = some o → k' ≠ w → L.g ≠ some k' → A2.blk k' = some o := fun k' o hk hw _ => by
        rw [hP2.other k' hw]
        exact hk
      have hfin := (bf_fill (ys := [b]) ht2 hr2 hz k3 hcp hgw (.inl k1) hk2 hP3 rfl).ahead hP1
      have hend : bfByteS.post ⟨w, L, l, b⟩ [] A .nilIface A3 := ⟨rfl, hfin⟩
      conv => lhs; whnf
      repeat (first | refine go_D hD rfl ?_
              conv => lhs; whnf)
      exact (hD _).2 hend
    · rw [e1] at h1
      conv => lhs; whnf
      repeat (first | refine go_rd r1 ?_ | refine go_D hD rfl ?_
              conv => lhs; whnf)
      refine (hD _).2 ⟨(⟨w, L, l, 1⟩ : BfG), ⟨rfl, hW1, Nat.le_refl _, by show l.length + 1 ≤ 900000000; omega, by show L.c < l.length + 1; omega⟩, fun v A2 hq => ?_⟩
      obtain ⟨hv, kb, c, zs, ⟨lr2, ht2⟩, hr2, hz, hc0, hcm, hkw, hg, hk2⟩ : v = .int .i64 l.length ∧ BfRoom A1 w L l 1 A2 := hq
      subst hv
      have r2 : A2.rd w 0 1 = some [.slice (some ⟨kb, 0, none⟩) (l.length + 1) c] := ht2.rd (o := 0) (n := 1) (by show 0 + 1 ≤ 3; omega)
      have i0 : (0 : Int) ≤ (l.length : Int) ∧ (l.length : Int) < ((l.length + 1 : Nat) : Int) := by omega
      conv => lhs; whnf
      repeat (first | refine go_in i0 ?_ | refine go_rd r2 ?_ | refine go_D hD rfl ?_
              conv => lhs; whnf)
      refine (hD _).2 ⟨hr2.room (by show 0 + l.length * 1 + 1 ≤ c * 1; have := hr2.le; omega), fun A3 hP3 => ?_⟩
      have hP3 : A2.Put A3 kb (0 + l.length * 1) [.int .u8 b.toNat] := hP3
      rw [Nat.mul_one, Nat.zero_add] at hP3
      have hfin := (bf_fill (ys := [b]) ht2 hr2 hz hc0 hcm hkw hg hk2 hP3 rfl).ahead hP1
      have hend : bfByteS.post ⟨w, L, l, b⟩ [] A .nilIface A3 := ⟨rfl, hfin⟩
      conv => lhs; whnf
      repeat (first | refine go_D hD rfl ?_
              conv => lhs; whnf)
      exact (hD _).2 hend

end
end Go.Proofs.YtiabopbigplklaaDoor

namespace Go.Proofs.YtiabopbigplklaaDoor
open Go.Sx Go.RowKit
noncomputable section
open Classical

theorem bnd_down {x : Int} {c k : Nat} {t : Bool} (hx : x = k) (hk : k ≤ c) : ((decide ((0 : Int) ≤ x) && decide (x ≤ (c : Int))) && (true || t)) = true := by
  subst hx
  exact Bool.and_eq_true_iff.2 ⟨Bool.and_eq_true_iff.2 ⟨decide_eq_true (by omega), decide_eq_true (by omega)⟩, rfl⟩

theorem beq_ne {a b : Nat} (h : a ≠ b) : a.beq b = false := by
  cases e : a.beq b with
  | false => rfl
  | true => exact absurd (Nat.eq_of_beq_eq_true e) h

theorem src_str {h : HS} {s : List UInt8} {n : Nat} (hn : n = s.length) : srcA h 1 n (.v (.string ⟨s.toArray⟩)) = some (s.map bv) := by
  show (if 1 = 1 ∧ n = s.length then some (s.map fun b => Value.int .u8 b.toNat) else none) = some (s.map bv)
  rw [if_pos ⟨rfl, hn⟩]
  rfl

theorem put_nil {A A' : Arena} {g o : Nat} (h : A.Put A' g o []) (k : Nat) : A'.blk k = A.blk k := by
  by_cases e : k = g
  · subst e
    obtain ⟨c, t, fz, c', k1, k2, k3⟩ := h.at_
    have : c' = c := Array.toList_inj.1 (by rw [k3]; simp)
    rw [k2, k1, this]
  · exact h.other k e

structure BsG where
  w : Nat
  L : LsD
  l : List UInt8
  s : List UInt8

def bfStrS : FSpec := ⟨BsG, fun g vs A => vs = [.pointer (some ⟨g.w, 0, none⟩), .string ⟨g.s.toArray⟩] ∧ BfR A g.w g.L g.l ∧ g.l.length + g.s.length ≤ 890000000, fun g _ A v A' => v = .tuple #[.int .i64 g.s.length, .nilIface] ∧ BfTo A g.w g.L (g.l ++ g.s) A'⟩

set_option maxRecDepth 100000 in
set_option maxHeartbeats 0 in
theorem bfStr_ok : FOk Tryd.prog 37 bfStrS := by
  refine fok_v mixed fun ⟨w, L, l, s⟩ vs A hp => ?_
  obtain ⟨rfl, hW, hlen⟩ : vs = [.pointer (some ⟨w, 0, none⟩), .string ⟨s.toArray⟩] ∧ BfR A w L l ∧ l.length + s.length ≤ 890000000 := hp
  have hC : CTSound Tryd.prog (lookC [specE 49 bfGrowS] noC) := lookC_sound (noC_sound _) (fun x hx => by
    simp only [List.mem_singleton] at hx
    subst hx
    exact specE_ok bfGrow_ok)
  refine ⟨_, noL, 60, hC, noL_sound _, fun blk os out tape D hD => ?_⟩
  have hL := hW.len
  have hcp := hW.cap
  obtain ⟨lr, htop⟩ := hW.top
  have hroom : A.Room w 2 1 := htop.room (by show 2 + 1 ≤ 3; omega)
  conv => lhs; whnf
  repeat (first | refine go_D hD rfl ?_
          conv => lhs; whnf)
  refine (hD _).2 ⟨hroom, fun A1 hP1 => ?_⟩
  have hP1 : A.Put A1 w 2 [.int .i8 0] := hP1
  have hW1 := hW.put2 hP1
  have ht1 : CellsAt A1 w [L.v, .int .i64 0, .int .i8 0] := htop.put hP1 (by show 2 + 1 ≤ 3; omega)
  have hrow := hW.row
  by_cases hs0 : s = []
  · subst hs0
    rcases hrow with ⟨k1, k2, k3, k4, -⟩ | ⟨g, k1, k2, k3, k5⟩
    · have hnil := hW.nil k1
      rw [hnil] at ht1
      have r1 : A1.rd w 0 1 = some [.slice none 0 0] := ht1.rd (o := 0) (n := 1) (by show 0 + 1 ≤ 3; omega)
      conv => lhs; whnf
      repeat (first | refine go_rd r1 ?_ | refine go_D hD rfl ?_
              conv => lhs; whnf)
      refine (hD _).2 ⟨ht1.room (by show 0 + 1 ≤ 3; omega), fun A2 hP2 => ?_⟩
      have hP2 : A1.Put A2 w 0 [.slice none 0 0] := hP2
      have ht2 : CellsAt A2 w [.slice none 0 0, .int .i64 0, .int .i8 0] := ht1.put hP2 (by show 0 + 1 ≤ 3; omega)
      have r2 : A2.rd w 0 1 = some [.slice none 0 0] := ht2.rd (o := 0) (n := 1) (by show 0 + 1 ≤ 3; omega)
      have hW2 : BfR A2 w L (l ++ []) := by
        rw [List.append_nil]
        exact ⟨⟨0, by rw [hnil]; exact ht2⟩, hW.row.keep fun g o hg _ => (by rw [k1] at hg; cases hg), hW.ne, hW.nil, hW.cap⟩
      have hfin : BfTo A w L (l ++ []) A2 := ⟨L, hW2, fun k o hk hw _ => by rw [hP2.other k hw, hP1.other k hw]; exact hk, fun g hg => .inl hg⟩
      have hend : bfStrS.post ⟨w, L, l, []⟩ [] A (.tuple #[.int .i64 0, .nilIface]) A2 := ⟨rfl, hfin⟩
      conv => lhs; whnf
      repeat (first | refine go_rd r2 ?_ | refine go_D hD rfl ?_
              conv => lhs; whnf)
      exact (hD _).2 hend
    · rw [k2] at ht1
      have r1 : A1.rd w 0 1 = some [.slice (some ⟨g, 0, none⟩) L.n L.c] := ht1.rd (o := 0) (n := 1) (by show 0 + 1 ≤ 3; omega)
      conv => lhs; whnf
      repeat (first | refine go_rd r1 ?_ | refine go_D hD rfl ?_
              conv => lhs; whnf)
      have e1 : IntKind.i64.wrap ((L.c : Int) - (L.n : Int)) = (L.c : Int) - (L.n : Int) := i64_in (by omega) (by omega)
      have hle : L.n ≤ L.c := k5.le
      refine split_dec (fun h1 => ?_) (fun h1 => absurd h1 (by intro h9; exact h9 (by rw [e1]; show (0 : Int) ≤ _; omega)))
      conv => lhs; whnf
      repeat (first | refine go_rd r1 ?_ | refine go_D hD rfl ?_
              conv => lhs; whnf)
      have e6 : IntKind.i64.wrap ((L.n : Int) + ((0 : Nat) : Int)) = (L.n : Int) := by
        rw [i64_in (by omega) (by omega)]
        omega
      refine go_b (bnd_upto e6 hle) ?_
      conv => lhs; whnf
      repeat (first | refine go_rd r1 ?_ | refine go_D hD rfl ?_
              conv => lhs; whnf)
      refine (hD _).2 ⟨ht1.room (by show 0 + 1 ≤ 3; omega), fun A2 hP2 => ?_⟩
      have hP2 : A1.Put A2 w 0 [.slice (some ⟨g, 0 + (bif L.c.beq (Int.toNat 0) then 0 else Int.toNat 0 * 1), none⟩) ((IntKind.i64.wrap ((L.n : Int) + ((0 : Nat) : Int))).toNat - Int.toNat 0) (L.c - Int.toNat 0)] := hP2
      have e8 : (bif L.c.beq (Int.toNat 0) then 0 else Int.toNat 0 * 1) = 0 := by cases L.c.beq (Int.toNat 0) <;> rfl
      rw [e6, e8] at hP2
      have hP2 : A1.Put A2 w 0 [.slice (some ⟨g, 0, none⟩) L.n L.c] := hP2
      have ht2 : CellsAt A2 w [.slice (some ⟨g, 0, none⟩) L.n L.c, .int .i64 0, .int .i8 0] := ht1.put hP2 (by show 0 + 1 ≤ 3; omega)
      have hgw : g ≠ w := fun e => hW.ne (by rw [k1, e])
      have hr2 : LRow A2 g 1 5 L.n L.c (l.map bv) := k5.keep (by rw [hP2.other g hgw, hP1.other g hgw])
      have r2 : A2.rd w 0 1 = some [.slice (some ⟨g, 0, none⟩) L.n L.c] := ht2.rd (o := 0) (n := 1) (by show 0 + 1 ≤ 3; omega)
      conv => lhs; whnf
      repeat (first | refine go_rd r2 ?_ | refine go_D hD rfl ?_
              conv => lhs; whnf)
      refine go_b (bnd_down (k := L.n) (c := L.n) rfl (Nat.le_refl _)) ?_
      conv => lhs; whnf
      repeat (first | refine go_rd r2 ?_ | refine go_rd r1 ?_ | refine go_D hD rfl ?_
              conv => lhs; whnf)
      have e9 : (bif L.c.beq ((L.n : Int).toNat) then 0 else (L.n : Int).toNat * 1) ≤ L.c := by
        cases L.c.beq ((L.n : Int).toNat)
        · show (L.n : Int).toNat * 1 ≤ L.c
          omega
        · exact Nat.zero_le _
      have e10 : Nat.min 0 ((L.n : Int).toNat - (L.n : Int).toNat) = 0 := Nat.zero_min _
      refine (hD _).2 ⟨[], src_str e10, fun v hv => (by cases hv), hr2.room (by show 0 + (bif L.c.beq ((L.n : Int).toNat) then 0 else (L.n : Int).toNat * 1) + 0 ≤ L.c * 1; omega), fun A3 hP3 => ?_⟩
      have hn3 := put_nil hP3
      have hW3 : BfR A3 w L (l ++ []) := by
        rw [List.append_nil]
        exact ⟨⟨0, by rw [k2]; exact ht2.sub fun o ho => (hn3 w).trans ho⟩, .inr ⟨g, k1, k2, k3, hr2.keep (hn3 g)⟩, hW.ne, hW.nil, hW.cap⟩
      have hfin : BfTo A w L (l ++ []) A3 := ⟨L, hW3, fun k o hk hw _ => by rw [hn3 k]; show A2.blk k = some o; rw [hP2.other k hw, hP1.other k hw]; exact hk, fun g hg => .inl hg⟩
      have hend : bfStrS.post ⟨w, L, l, []⟩ [] A (.tuple #[.int .i64 (Nat.min 0 ((L.n : Int).toNat - (L.n : Int).toNat) : Nat), .nilIface]) A3 := ⟨by rw [e10]; rfl, hfin⟩
      conv => lhs; whnf
      repeat (first | refine go_D hD rfl ?_
              conv => lhs; whnf)
      exact (hD _).2 hend
  have hpos : 0 < s.length := by
    cases s with
    | nil => exact absurd rfl hs0
    | cons x xs => simp
  rcases hrow with ⟨k1, k2, k3, k4, -⟩ | ⟨g, k1, k2, k3, k5⟩
  · rw [hW.nil k1] at ht1
    have r1 : A1.rd w 0 1 = some [.slice none 0 0] := ht1.rd (o := 0) (n := 1) (by show 0 + 1 ≤ 3; omega)
    conv => lhs; whnf
    repeat (first | refine go_rd r1 ?_ | refine go_D hD rfl ?_
            conv => lhs; whnf)
    refine split_dec (fun h => absurd h (by show ¬ ((s.length : Int) ≤ 0); omega)) (fun _ => ?_)
    conv => lhs; whnf
    repeat (first | refine go_rd r1 ?_ | refine go_D hD rfl ?_
            conv => lhs; whnf)
    refine (hD _).2 ⟨(⟨w, L, l, s.length⟩ : BfG), ⟨rfl, hW1, hpos, by show l.length + s.length ≤ 900000000; omega, by show L.c < l.length + s.length; omega⟩, fun v A2 hq => ?_⟩
    obtain ⟨hv, kb, c, zs, ⟨lr2, ht2⟩, hr2, hz, hc0, hcm, hkw, hg, hk2⟩ : v = .int .i64 l.length ∧ BfRoom A1 w L l s.length A2 := hq
    subst hv
    have r2 : A2.rd w 0 1 = some [.slice (some ⟨kb, 0, none⟩) (l.length + s.length) c] := ht2.rd (o := 0) (n := 1) (by show 0 + 1 ≤ 3; omega)
    have hcl := hr2.le
    conv => lhs; whnf
    repeat (first | refine go_rd r2 ?_ | refine go_D hD rfl ?_
            conv => lhs; whnf)
    refine go_b (bnd_down (k := l.length) (c := l.length + s.length) rfl (by omega)) ?_
    conv => lhs; whnf
    repeat (first | refine go_rd r2 ?_ | refine go_rd r1 ?_ | refine go_D hD rfl ?_
            conv => lhs; whnf)
    have e9 : (bif (c).beq ((l.length : Int).toNat) then 0 else (l.length : Int).toNat * 1) = l.length := by
      rw [show (c).beq ((l.length : Int).toNat) = false from beq_ne (by omega)]
      exact Nat.mul_one _
    have e10 : Nat.min s.length ((((l.length + s.length : Nat) : Int)).toNat - (l.length : Int).toNat) = s.length := Nat.min_eq_left (by omega)
    refine (hD _).2 ⟨s.map bv, (src_str e10), bv_one s, hr2.room (by show 0 + (bif (c).beq ((l.length : Int).toNat) then 0 else (l.length : Int).toNat * 1) + (s.map bv).length ≤ c * 1; rw [e9, List.length_map]; omega), fun A3 hP3 => ?_⟩
    have hP3 : A2.Put A3 kb (0 + (bif (c).beq ((l.length : Int).toNat) then 0 else (l.length : Int).toNat * 1)) (s.map bv) := hP3
    rw [e9, Nat.zero_add] at hP3
    have hfin := (bf_fill (ys := s) ht2 hr2 hz hc0 hcm hkw hg hk2 hP3 rfl).ahead hP1
    have hend : bfStrS.post ⟨w, L, l, s⟩ [] A (.tuple #[.int .i64 (Nat.min s.length (((l.length + s.length : Nat) : Int).toNat - (l.length : Int).toNat) : Nat), .nilIface]) A3 := ⟨by rw [e10], hfin⟩
    conv => lhs; whnf
    repeat (first | refine go_D hD rfl ?_
            conv => lhs; whnf)
    exact (hD _).2 hend
  · rw [k2] at ht1
    have r1 : A1.rd w 0 1 = some [.slice (some ⟨g, 0, none⟩) L.n L.c] := ht1.rd (o := 0) (n := 1) (by show 0 + 1 ≤ 3; omega)
    conv => lhs; whnf
    repeat (first | refine go_rd r1 ?_ | refine go_D hD rfl ?_
            conv => lhs; whnf)
    have e1 : IntKind.i64.wrap ((L.c : Int) - (L.n : Int)) = (L.c : Int) - (L.n : Int) := i64_in (by omega) (by omega)
    refine split_dec (fun h1 => ?_) (fun h1 => ?_)
    · rw [e1] at h1
      have h1 : (s.length : Int) ≤ (L.c : Int) - (L.n : Int) := h1
      conv => lhs; whnf
      repeat (first | refine go_rd r1 ?_ | refine go_D hD rfl ?_
              conv => lhs; whnf)
      have hle : L.n + s.length ≤ L.c := by omega
      have e6 : IntKind.i64.wrap ((L.n : Int) + (s.length : Int)) = ((L.n + s.length : Nat) : Int) := by
        rw [i64_in (by omega) (by omega)]
        omega
      refine go_b (bnd_upto e6 hle) ?_
      conv => lhs; whnf
      repeat (first | refine go_rd r1 ?_ | refine go_D hD rfl ?_
              conv => lhs; whnf)
      refine (hD _).2 ⟨ht1.room (by show 0 + 1 ≤ 3; omega), fun A2 hP2 => ?_⟩
      have hP2 : A1.Put A2 w 0 [.slice (some ⟨g, 0 + (bif L.c.beq (Int.toNat 0) then 0 else Int.toNat 0 * 1), none⟩) ((IntKind.i64.wrap ((L.n : Int) + (s.length : Int))).toNat - Int.toNat 0) (L.c - Int.toNat 0)] := hP2
      have e8 : (bif L.c.beq (Int.toNat 0) then 0 else Int.toNat 0 * 1) = 0 := by cases L.c.beq (Int.toNat 0) <;> rfl
      rw [e6, e8] at hP2
      have hP2 : A1.Put A2 w 0 [.slice (some ⟨g, 0, none⟩) (L.n + s.length) L.c] := hP2
      have ht2 : CellsAt A2 w [.slice (some ⟨g, 0, none⟩) (L.n + s.length) L.c, .int .i64 0, .int .i8 0] := ht1.put hP2 (by show 0 + 1 ≤ 3; omega)
      have hgw : g ≠ w := fun e => hW.ne (by rw [k1, e])
      have hr1 : LRow A2 g 1 5 L.n L.c (l.map bv) := k5.keep (by rw [hP2.other g hgw, hP1.other g hgw])
      have hwide := hr1.wide hle
      obtain ⟨zs, hz, hr2⟩ := hwide
      have hk2 : ∀ k' o, A1.blk k' = some o → k' ≠ w → L.g ≠ some k' → A2.blk k' = some o := fun k' o hk hw _ => by
        rw [hP2.other k' hw]
        exact hk
      have r2 : A2.rd w 0 1 = some [.slice (some ⟨g, 0, none⟩) (L.n + s.length) L.c] := ht2.rd (o := 0) (n := 1) (by show 0 + 1 ≤ 3; omega)
      conv => lhs; whnf
      repeat (first | refine go_rd r2 ?_ | refine go_D hD rfl ?_
              conv => lhs; whnf)
      refine go_b (bnd_down (k := L.n) (c := L.n + s.length) rfl (by omega)) ?_
      conv => lhs; whnf
      repeat (first | refine go_rd r2 ?_ | refine go_rd r1 ?_ | refine go_D hD rfl ?_
              conv => lhs; whnf)
      have e9 : (bif (L.c).beq ((L.n : Int).toNat) then 0 else (L.n : Int).toNat * 1) = L.n := by
        rw [show (L.c).beq ((L.n : Int).toNat) = false from beq_ne (by omega)]
        exact Nat.mul_one _
      have e10 : Nat.min s.length ((((L.n + s.length : Nat) : Int)).toNat - (L.n : Int).toNat) = s.length := Nat.min_eq_left (by omega)
      refine (hD _).2 ⟨s.map bv, (src_str e10), bv_one s, hr2.room (by show 0 + (bif (L.c).beq ((L.n : Int).toNat) then 0 else (L.n : Int).toNat * 1) + (s.map bv).length ≤ L.c * 1; rw [e9, List.length_map]; omega), fun A3 hP3 => ?_⟩
      have hP3 : A2.Put A3 g (0 + (bif (L.c).beq ((L.n : Int).toNat) then 0 else (L.n : Int).toNat * 1)) (s.map bv) := hP3
      rw [e9, Nat.zero_add] at hP3
      rw [hL] at hP3
      rw [hL] at ht2 hr2
      have hfin := (bf_fill (ys := s) ht2 hr2 hz k3 hcp hgw (.inl k1) hk2 hP3 rfl).ahead hP1
      have hend : bfStrS.post ⟨w, L, l, s⟩ [] A (.tuple #[.int .i64 (Nat.min s.length (((L.n + s.length : Nat) : Int).toNat - (L.n : Int).toNat) : Nat), .nilIface]) A3 := ⟨by rw [e10], hfin⟩
      conv => lhs; whnf
      repeat (first | refine go_D hD rfl ?_
              conv => lhs; whnf)
      exact (hD _).2 hend
    · rw [e1] at h1
      have h1 : ¬ (s.length : Int) ≤ (L.c : Int) - (L.n : Int) := h1
      conv => lhs; whnf
      repeat (first | refine go_rd r1 ?_ | refine go_D hD rfl ?_
              conv => lhs; whnf)
      refine (hD _).2 ⟨(⟨w, L, l, s.length⟩ : BfG), ⟨rfl, hW1, hpos, by show l.length + s.length ≤ 900000000; omega, by show L.c < l.length + s.length; omega⟩, fun v A2 hq => ?_⟩
      obtain ⟨hv, kb, c, zs, ⟨lr2, ht2⟩, hr2, hz, hc0, hcm, hkw, hg, hk2⟩ : v = .int .i64 l.length ∧ BfRoom A1 w L l s.length A2 := hq
      subst hv
      have r2 : A2.rd w 0 1 = some [.slice (some ⟨kb, 0, none⟩) (l.length + s.length) c] := ht2.rd (o := 0) (n := 1) (by show 0 + 1 ≤ 3; omega)
      have hcl := hr2.le
      conv => lhs; whnf
      repeat (first | refine go_rd r2 ?_ | refine go_D hD rfl ?_
              conv => lhs; whnf)
      refine go_b (bnd_down (k := l.length) (c := l.length + s.length) rfl (by omega)) ?_
      conv => lhs; whnf
      repeat (first | refine go_rd r2 ?_ | refine go_rd r1 ?_ | refine go_D hD rfl ?_
              conv => lhs; whnf)
      have e9 : (bif (c).beq ((l.length : Int).toNat) then 0 else (l.length : Int).toNat * 1) = l.length := by
        rw [show (c).beq ((l.length : Int).toNat) = false from beq_ne (by omega)]
        exact Nat.mul_one _
      have e10 : Nat.min s.length ((((l.length + s.length : Nat) : Int)).toNat - (l.length : Int).toNat) = s.length := Nat.min_eq_left (by omega)
      refine (hD _).2 ⟨s.map bv, (src_str e10), bv_one s, hr2.room (by show 0 + (bif (c).beq ((l.length : Int).toNat) then 0 else (l.length : Int).toNat * 1) + (s.map bv).length ≤ c * 1; rw [e9, List.length_map]; omega), fun A3 hP3 => ?_⟩
      have hP3 : A2.Put A3 kb (0 + (bif (c).beq ((l.length : Int).toNat) then 0 else (l.length : Int).toNat * 1)) (s.map bv) := hP3
      rw [e9, Nat.zero_add] at hP3
      have hfin := (bf_fill (ys := s) ht2 hr2 hz hc0 hcm hkw hg hk2 hP3 rfl).ahead hP1
      have hend : bfStrS.post ⟨w, L, l, s⟩ [] A (.tuple #[.int .i64 (Nat.min s.length (((l.length + s.length : Nat) : Int).toNat - (l.length : Int).toNat) : Nat), .nilIface]) A3 := ⟨by rw [e10], hfin⟩
      conv => lhs; whnf
      repeat (first | refine go_D hD rfl ?_
              conv => lhs; whnf)
      exact (hD _).2 hend

end
end Go.Proofs.YtiabopbigplklaaDoor
