/-
  Contracts: the document's deeds: has a deed what its kind may have alone?
-/
import Derived.Test.YtienbbhelhhfjaaGreatDoorG08
namespace Go.Proofs.YtienbbhelhhfjaaGreatDoor
open Go.Sx Go.RowKit
noncomputable section
open Classical

/-- Are all fields zero that a kind does not name? -/
def BareD (h : DeedH) (np : Nat) : Prop :=
  (h.kind = 1 ∨ h.kind = 2 ∨ h.kind = 3 ∨ h.path.data.toList = []) ∧ (h.kind = 1 ∨ h.kind = 3 ∨ h.data.length = 0) ∧ (h.kind = 1 ∨ h.kind = 5 ∨ h.owner = 0) ∧ (h.kind = 5 ∨ h.kind = 8 ∨ np = 0) ∧
  (h.kind = 3 ∨ h.ver = 0) ∧ (h.kind = 1 ∨ h.kind = 2 ∨ h.cver = 0) ∧ (h.kind = 4 ∨ h.tmo = 0) ∧ (h.kind = 9 ∨ h.err = 0) ∧ (h.kind = 7 ∨ (h.cfg = 0 ∧ h.mem.length = 0))

def bareS : FSpec := ⟨DeedD, fun d vs A => ∃ cs, vs = [deedV cs] ∧ DeedR A d cs, fun d _ A v A' => A' = A ∧ v = .bool (decide (BareD d.h d.parts.length))⟩

set_option maxRecDepth 100000 in
set_option maxHeartbeats 0 in
theorem bare1 (zxid ses turn xid dtime : Int) (path : ByteArray) (data : List UInt8) (owner ver cver tmo err cfg : Int) (mem : List MemD) (parts : List DeedD) (a7 a14 a15 : Option Addr) (k7 k14 k15 : Nat) (A : Arena) :
    Run Tryz.prog noC noL 60 44 [.v (.agg #[.int .i64 zxid, .int .u8 1, .int .i64 ses, .int .i64 turn, .int .i64 xid, .int .i64 dtime, .string path, .slice a7 data.length k7, .int .i64 owner, .int .i64 ver, .int .i64 cver, .int .i64 tmo, .int .i64 err, .int .i64 cfg, .slice a14 mem.length k14, .slice a15 parts.length k15])] A (endP bareS (.mk ⟨zxid, 1, ses, turn, xid, dtime, path, data, owner, ver, cver, tmo, err, cfg, mem⟩ parts) [.agg #[.int .i64 zxid, .int .u8 1, .int .i64 ses, .int .i64 turn, .int .i64 xid, .int .i64 dtime, .string path, .slice a7 data.length k7, .int .i64 owner, .int .i64 ver, .int .i64 cver, .int .i64 tmo, .int .i64 err, .int .i64 cfg, .slice a14 mem.length k14, .slice a15 parts.length k15]] A) := by
  intro blk os out tape D hD
  have hbq : ∀ l m : List UInt8, beqL l m = (l == m) := beqL_eq
  have bad : ¬ BareD ⟨zxid, 1, ses, turn, xid, dtime, path, data, owner, ver, cver, tmo, err, cfg, mem⟩ parts.length → Value.bool false = .bool (decide (BareD ⟨zxid, 1, ses, turn, xid, dtime, path, data, owner, ver, cver, tmo, err, cfg, mem⟩ parts.length)) := fun hb => by rw [decide_eq_false hb]
  have good : ∀ b : Bool, (b = true ↔ BareD ⟨zxid, 1, ses, turn, xid, dtime, path, data, owner, ver, cver, tmo, err, cfg, mem⟩ parts.length) → Value.bool b = .bool (decide (BareD ⟨zxid, 1, ses, turn, xid, dtime, path, data, owner, ver, cver, tmo, err, cfg, mem⟩ parts.length)) := fun b hb => by
    congr 1
    rw [Bool.eq_iff_iff, hb, decide_eq_true_iff]
  conv => lhs; whnf
  repeat
    (refine split_b (fun h => ?_) (fun h => ?_)
     · conv => lhs; whnf
       exact (hD _).2 ⟨rfl, bad fun hB => by
         obtain ⟨b1, b2, b3, b4, b5, b6, b7, b8, b9⟩ := hB
         simp_all⟩
     conv => lhs; whnf
     )
  refine split_dec (fun hc => ?_) (fun hc => ?_) <;> (conv => lhs; whnf)
  · exact (hD _).2 ⟨rfl, good (decide ((mem.length : Int) = 0)) (by
      simp only [BareD]
      simp_all)⟩
  · exact (hD _).2 ⟨rfl, bad fun hB => by
      obtain ⟨b1, b2, b3, b4, b5, b6, b7, b8, b9⟩ := hB
      simp_all⟩

set_option maxRecDepth 100000 in
set_option maxHeartbeats 0 in
theorem bare2 (zxid ses turn xid dtime : Int) (path : ByteArray) (data : List UInt8) (owner ver cver tmo err cfg : Int) (mem : List MemD) (parts : List DeedD) (a7 a14 a15 : Option Addr) (k7 k14 k15 : Nat) (A : Arena) :
    Run Tryz.prog noC noL 60 44 [.v (.agg #[.int .i64 zxid, .int .u8 2, .int .i64 ses, .int .i64 turn, .int .i64 xid, .int .i64 dtime, .string path, .slice a7 data.length k7, .int .i64 owner, .int .i64 ver, .int .i64 cver, .int .i64 tmo, .int .i64 err, .int .i64 cfg, .slice a14 mem.length k14, .slice a15 parts.length k15])] A (endP bareS (.mk ⟨zxid, 2, ses, turn, xid, dtime, path, data, owner, ver, cver, tmo, err, cfg, mem⟩ parts) [.agg #[.int .i64 zxid, .int .u8 2, .int .i64 ses, .int .i64 turn, .int .i64 xid, .int .i64 dtime, .string path, .slice a7 data.length k7, .int .i64 owner, .int .i64 ver, .int .i64 cver, .int .i64 tmo, .int .i64 err, .int .i64 cfg, .slice a14 mem.length k14, .slice a15 parts.length k15]] A) := by
  intro blk os out tape D hD
  have hbq : ∀ l m : List UInt8, beqL l m = (l == m) := beqL_eq
  have bad : ¬ BareD ⟨zxid, 2, ses, turn, xid, dtime, path, data, owner, ver, cver, tmo, err, cfg, mem⟩ parts.length → Value.bool false = .bool (decide (BareD ⟨zxid, 2, ses, turn, xid, dtime, path, data, owner, ver, cver, tmo, err, cfg, mem⟩ parts.length)) := fun hb => by rw [decide_eq_false hb]
  have good : ∀ b : Bool, (b = true ↔ BareD ⟨zxid, 2, ses, turn, xid, dtime, path, data, owner, ver, cver, tmo, err, cfg, mem⟩ parts.length) → Value.bool b = .bool (decide (BareD ⟨zxid, 2, ses, turn, xid, dtime, path, data, owner, ver, cver, tmo, err, cfg, mem⟩ parts.length)) := fun b hb => by
    congr 1
    rw [Bool.eq_iff_iff, hb, decide_eq_true_iff]
  conv => lhs; whnf
  repeat
    (refine split_b (fun h => ?_) (fun h => ?_)
     · conv => lhs; whnf
       exact (hD _).2 ⟨rfl, bad fun hB => by
         obtain ⟨b1, b2, b3, b4, b5, b6, b7, b8, b9⟩ := hB
         simp_all⟩
     conv => lhs; whnf
     )
  refine split_dec (fun hc => ?_) (fun hc => ?_) <;> (conv => lhs; whnf)
  · exact (hD _).2 ⟨rfl, good (decide ((mem.length : Int) = 0)) (by
      simp only [BareD]
      simp_all)⟩
  · exact (hD _).2 ⟨rfl, bad fun hB => by
      obtain ⟨b1, b2, b3, b4, b5, b6, b7, b8, b9⟩ := hB
      simp_all⟩

set_option maxRecDepth 100000 in
set_option maxHeartbeats 0 in
theorem bare3 (zxid ses turn xid dtime : Int) (path : ByteArray) (data : List UInt8) (owner ver cver tmo err cfg : Int) (mem : List MemD) (parts : List DeedD) (a7 a14 a15 : Option Addr) (k7 k14 k15 : Nat) (A : Arena) :
    Run Tryz.prog noC noL 60 44 [.v (.agg #[.int .i64 zxid, .int .u8 3, .int .i64 ses, .int .i64 turn, .int .i64 xid, .int .i64 dtime, .string path, .slice a7 data.length k7, .int .i64 owner, .int .i64 ver, .int .i64 cver, .int .i64 tmo, .int .i64 err, .int .i64 cfg, .slice a14 mem.length k14, .slice a15 parts.length k15])] A (endP bareS (.mk ⟨zxid, 3, ses, turn, xid, dtime, path, data, owner, ver, cver, tmo, err, cfg, mem⟩ parts) [.agg #[.int .i64 zxid, .int .u8 3, .int .i64 ses, .int .i64 turn, .int .i64 xid, .int .i64 dtime, .string path, .slice a7 data.length k7, .int .i64 owner, .int .i64 ver, .int .i64 cver, .int .i64 tmo, .int .i64 err, .int .i64 cfg, .slice a14 mem.length k14, .slice a15 parts.length k15]] A) := by
  intro blk os out tape D hD
  have hbq : ∀ l m : List UInt8, beqL l m = (l == m) := beqL_eq
  have bad : ¬ BareD ⟨zxid, 3, ses, turn, xid, dtime, path, data, owner, ver, cver, tmo, err, cfg, mem⟩ parts.length → Value.bool false = .bool (decide (BareD ⟨zxid, 3, ses, turn, xid, dtime, path, data, owner, ver, cver, tmo, err, cfg, mem⟩ parts.length)) := fun hb => by rw [decide_eq_false hb]
  have good : ∀ b : Bool, (b = true ↔ BareD ⟨zxid, 3, ses, turn, xid, dtime, path, data, owner, ver, cver, tmo, err, cfg, mem⟩ parts.length) → Value.bool b = .bool (decide (BareD ⟨zxid, 3, ses, turn, xid, dtime, path, data, owner, ver, cver, tmo, err, cfg, mem⟩ parts.length)) := fun b hb => by
    congr 1
    rw [Bool.eq_iff_iff, hb, decide_eq_true_iff]
  conv => lhs; whnf
  repeat
    (refine split_b (fun h => ?_) (fun h => ?_)
     · conv => lhs; whnf
       exact (hD _).2 ⟨rfl, bad fun hB => by
         obtain ⟨b1, b2, b3, b4, b5, b6, b7, b8, b9⟩ := hB
         simp_all⟩
     conv => lhs; whnf
     )
  refine split_dec (fun hc => ?_) (fun hc => ?_) <;> (conv => lhs; whnf)
  · exact (hD _).2 ⟨rfl, good (decide ((mem.length : Int) = 0)) (by
      simp only [BareD]
      simp_all)⟩
  · exact (hD _).2 ⟨rfl, bad fun hB => by
      obtain ⟨b1, b2, b3, b4, b5, b6, b7, b8, b9⟩ := hB
      simp_all⟩

set_option maxRecDepth 100000 in
set_option maxHeartbeats 0 in
theorem bare4 (zxid ses turn xid dtime : Int) (path : ByteArray) (data : List UInt8) (owner ver cver tmo err cfg : Int) (mem : List MemD) (parts : List DeedD) (a7 a14 a15 : Option Addr) (k7 k14 k15 : Nat) (A : Arena) :
    Run Tryz.prog noC noL 60 44 [.v (.agg #[.int .i64 zxid, .int .u8 4, .int .i64 ses, .int .i64 turn, .int .i64 xid, .int .i64 dtime, .string path, .slice a7 data.length k7, .int .i64 owner, .int .i64 ver, .int .i64 cver, .int .i64 tmo, .int .i64 err, .int .i64 cfg, .slice a14 mem.length k14, .slice a15 parts.length k15])] A (endP bareS (.mk ⟨zxid, 4, ses, turn, xid, dtime, path, data, owner, ver, cver, tmo, err, cfg, mem⟩ parts) [.agg #[.int .i64 zxid, .int .u8 4, .int .i64 ses, .int .i64 turn, .int .i64 xid, .int .i64 dtime, .string path, .slice a7 data.length k7, .int .i64 owner, .int .i64 ver, .int .i64 cver, .int .i64 tmo, .int .i64 err, .int .i64 cfg, .slice a14 mem.length k14, .slice a15 parts.length k15]] A) := by
  intro blk os out tape D hD
  have hbq : ∀ l m : List UInt8, beqL l m = (l == m) := beqL_eq
  have bad : ¬ BareD ⟨zxid, 4, ses, turn, xid, dtime, path, data, owner, ver, cver, tmo, err, cfg, mem⟩ parts.length → Value.bool false = .bool (decide (BareD ⟨zxid, 4, ses, turn, xid, dtime, path, data, owner, ver, cver, tmo, err, cfg, mem⟩ parts.length)) := fun hb => by rw [decide_eq_false hb]
  have good : ∀ b : Bool, (b = true ↔ BareD ⟨zxid, 4, ses, turn, xid, dtime, path, data, owner, ver, cver, tmo, err, cfg, mem⟩ parts.length) → Value.bool b = .bool (decide (BareD ⟨zxid, 4, ses, turn, xid, dtime, path, data, owner, ver, cver, tmo, err, cfg, mem⟩ parts.length)) := fun b hb => by
    congr 1
    rw [Bool.eq_iff_iff, hb, decide_eq_true_iff]
  conv => lhs; whnf
  repeat
    (refine split_b (fun h => ?_) (fun h => ?_)
     · conv => lhs; whnf
       exact (hD _).2 ⟨rfl, bad fun hB => by
         obtain ⟨b1, b2, b3, b4, b5, b6, b7, b8, b9⟩ := hB
         simp_all⟩
     conv => lhs; whnf
     )
  refine split_dec (fun hc => ?_) (fun hc => ?_) <;> (conv => lhs; whnf)
  · exact (hD _).2 ⟨rfl, good (decide ((mem.length : Int) = 0)) (by
      simp only [BareD]
      simp_all)⟩
  · exact (hD _).2 ⟨rfl, bad fun hB => by
      obtain ⟨b1, b2, b3, b4, b5, b6, b7, b8, b9⟩ := hB
      simp_all⟩

set_option maxRecDepth 100000 in
set_option maxHeartbeats 0 in
theorem bare5 (zxid ses turn xid dtime : Int) (path : ByteArray) (data : List UInt8) (owner ver cver tmo err cfg : Int) (mem : List MemD) (parts : List DeedD) (a7 a14 a15 : Option Addr) (k7 k14 k15 : Nat) (A : Arena) :
    Run Tryz.prog noC noL 60 44 [.v (.agg #[.int .i64 zxid, .int .u8 5, .int .i64 ses, .int .i64 turn, .int .i64 xid, .int .i64 dtime, .string path, .slice a7 data.length k7, .int .i64 owner, .int .i64 ver, .int .i64 cver, .int .i64 tmo, .int .i64 err, .int .i64 cfg, .slice a14 mem.length k14, .slice a15 parts.length k15])] A (endP bareS (.mk ⟨zxid, 5, ses, turn, xid, dtime, path, data, owner, ver, cver, tmo, err, cfg, mem⟩ parts) [.agg #[.int .i64 zxid, .int .u8 5, .int .i64 ses, .int .i64 turn, .int .i64 xid, .int .i64 dtime, .string path, .slice a7 data.length k7, .int .i64 owner, .int .i64 ver, .int .i64 cver, .int .i64 tmo, .int .i64 err, .int .i64 cfg, .slice a14 mem.length k14, .slice a15 parts.length k15]] A) := by
  intro blk os out tape D hD
  have hbq : ∀ l m : List UInt8, beqL l m = (l == m) := beqL_eq
  have bad : ¬ BareD ⟨zxid, 5, ses, turn, xid, dtime, path, data, owner, ver, cver, tmo, err, cfg, mem⟩ parts.length → Value.bool false = .bool (decide (BareD ⟨zxid, 5, ses, turn, xid, dtime, path, data, owner, ver, cver, tmo, err, cfg, mem⟩ parts.length)) := fun hb => by rw [decide_eq_false hb]
  have good : ∀ b : Bool, (b = true ↔ BareD ⟨zxid, 5, ses, turn, xid, dtime, path, data, owner, ver, cver, tmo, err, cfg, mem⟩ parts.length) → Value.bool b = .bool (decide (BareD ⟨zxid, 5, ses, turn, xid, dtime, path, data, owner, ver, cver, tmo, err, cfg, mem⟩ parts.length)) := fun b hb => by
    congr 1
    rw [Bool.eq_iff_iff, hb, decide_eq_true_iff]
  conv => lhs; whnf
  repeat
    (refine split_b (fun h => ?_) (fun h => ?_)
     · conv => lhs; whnf
       exact (hD _).2 ⟨rfl, bad fun hB => by
         obtain ⟨b1, b2, b3, b4, b5, b6, b7, b8, b9⟩ := hB
         simp_all⟩
     conv => lhs; whnf
     )
  refine split_dec (fun hc => ?_) (fun hc => ?_) <;> (conv => lhs; whnf)
  · exact (hD _).2 ⟨rfl, good (decide ((mem.length : Int) = 0)) (by
      simp only [BareD]
      simp_all)⟩
  · exact (hD _).2 ⟨rfl, bad fun hB => by
      obtain ⟨b1, b2, b3, b4, b5, b6, b7, b8, b9⟩ := hB
      simp_all⟩

set_option maxRecDepth 100000 in
set_option maxHeartbeats 0 in
theorem bare6 (zxid ses turn xid dtime : Int) (path : ByteArray) (data : List UInt8) (owner ver cver tmo err cfg : Int) (mem : List MemD) (parts : List DeedD) (a7 a14 a15 : Option Addr) (k7 k14 k15 : Nat) (A : Arena) :
    Run Tryz.prog noC noL 60 44 [.v (.agg #[.int .i64 zxid, .int .u8 6, .int .i64 ses, .int .i64 turn, .int .i64 xid, .int .i64 dtime, .string path, .slice a7 data.length k7, .int .i64 owner, .int .i64 ver, .int .i64 cver, .int .i64 tmo, .int .i64 err, .int .i64 cfg, .slice a14 mem.length k14, .slice a15 parts.length k15])] A (endP bareS (.mk ⟨zxid, 6, ses, turn, xid, dtime, path, data, owner, ver, cver, tmo, err, cfg, mem⟩ parts) [.agg #[.int .i64 zxid, .int .u8 6, .int .i64 ses, .int .i64 turn, .int .i64 xid, .int .i64 dtime, .string path, .slice a7 data.length k7, .int .i64 owner, .int .i64 ver, .int .i64 cver, .int .i64 tmo, .int .i64 err, .int .i64 cfg, .slice a14 mem.length k14, .slice a15 parts.length k15]] A) := by
  intro blk os out tape D hD
  have hbq : ∀ l m : List UInt8, beqL l m = (l == m) := beqL_eq
  have bad : ¬ BareD ⟨zxid, 6, ses, turn, xid, dtime, path, data, owner, ver, cver, tmo, err, cfg, mem⟩ parts.length → Value.bool false = .bool (decide (BareD ⟨zxid, 6, ses, turn, xid, dtime, path, data, owner, ver, cver, tmo, err, cfg, mem⟩ parts.length)) := fun hb => by rw [decide_eq_false hb]
  have good : ∀ b : Bool, (b = true ↔ BareD ⟨zxid, 6, ses, turn, xid, dtime, path, data, owner, ver, cver, tmo, err, cfg, mem⟩ parts.length) → Value.bool b = .bool (decide (BareD ⟨zxid, 6, ses, turn, xid, dtime, path, data, owner, ver, cver, tmo, err, cfg, mem⟩ parts.length)) := fun b hb => by
    congr 1
    rw [Bool.eq_iff_iff, hb, decide_eq_true_iff]
  conv => lhs; whnf
  repeat
    (refine split_b (fun h => ?_) (fun h => ?_)
     · conv => lhs; whnf
       exact (hD _).2 ⟨rfl, bad fun hB => by
         obtain ⟨b1, b2, b3, b4, b5, b6, b7, b8, b9⟩ := hB
         simp_all⟩
     conv => lhs; whnf
     )
  refine split_dec (fun hc => ?_) (fun hc => ?_) <;> (conv => lhs; whnf)
  · exact (hD _).2 ⟨rfl, good (decide ((mem.length : Int) = 0)) (by
      simp only [BareD]
      simp_all)⟩
  · exact (hD _).2 ⟨rfl, bad fun hB => by
      obtain ⟨b1, b2, b3, b4, b5, b6, b7, b8, b9⟩ := hB
      simp_all⟩

set_option maxRecDepth 100000 in
set_option maxHeartbeats 0 in
theorem bare7 (zxid ses turn xid dtime : Int) (path : ByteArray) (data : List UInt8) (owner ver cver tmo err cfg : Int) (mem : List MemD) (parts : List DeedD) (a7 a14 a15 : Option Addr) (k7 k14 k15 : Nat) (A : Arena) :
    Run Tryz.prog noC noL 60 44 [.v (.agg #[.int .i64 zxid, .int .u8 7, .int .i64 ses, .int .i64 turn, .int .i64 xid, .int .i64 dtime, .string path, .slice a7 data.length k7, .int .i64 owner, .int .i64 ver, .int .i64 cver, .int .i64 tmo, .int .i64 err, .int .i64 cfg, .slice a14 mem.length k14, .slice a15 parts.length k15])] A (endP bareS (.mk ⟨zxid, 7, ses, turn, xid, dtime, path, data, owner, ver, cver, tmo, err, cfg, mem⟩ parts) [.agg #[.int .i64 zxid, .int .u8 7, .int .i64 ses, .int .i64 turn, .int .i64 xid, .int .i64 dtime, .string path, .slice a7 data.length k7, .int .i64 owner, .int .i64 ver, .int .i64 cver, .int .i64 tmo, .int .i64 err, .int .i64 cfg, .slice a14 mem.length k14, .slice a15 parts.length k15]] A) := by
  intro blk os out tape D hD
  have hbq : ∀ l m : List UInt8, beqL l m = (l == m) := beqL_eq
  have bad : ¬ BareD ⟨zxid, 7, ses, turn, xid, dtime, path, data, owner, ver, cver, tmo, err, cfg, mem⟩ parts.length → Value.bool false = .bool (decide (BareD ⟨zxid, 7, ses, turn, xid, dtime, path, data, owner, ver, cver, tmo, err, cfg, mem⟩ parts.length)) := fun hb => by rw [decide_eq_false hb]
  have good : ∀ b : Bool, (b = true ↔ BareD ⟨zxid, 7, ses, turn, xid, dtime, path, data, owner, ver, cver, tmo, err, cfg, mem⟩ parts.length) → Value.bool b = .bool (decide (BareD ⟨zxid, 7, ses, turn, xid, dtime, path, data, owner, ver, cver, tmo, err, cfg, mem⟩ parts.length)) := fun b hb => by
    congr 1
    rw [Bool.eq_iff_iff, hb, decide_eq_true_iff]
  conv => lhs; whnf
  repeat
    (refine split_b (fun h => ?_) (fun h => ?_)
     · conv => lhs; whnf
       exact (hD _).2 ⟨rfl, bad fun hB => by
         obtain ⟨b1, b2, b3, b4, b5, b6, b7, b8, b9⟩ := hB
         simp_all⟩
     conv => lhs; whnf
     )
  exact (hD _).2 ⟨rfl, good true (by
    simp only [BareD]
    simp_all)⟩

set_option maxRecDepth 100000 in
set_option maxHeartbeats 0 in
theorem bare8 (zxid ses turn xid dtime : Int) (path : ByteArray) (data : List UInt8) (owner ver cver tmo err cfg : Int) (mem : List MemD) (parts : List DeedD) (a7 a14 a15 : Option Addr) (k7 k14 k15 : Nat) (A : Arena) :
    Run Tryz.prog noC noL 60 44 [.v (.agg #[.int .i64 zxid, .int .u8 8, .int .i64 ses, .int .i64 turn, .int .i64 xid, .int .i64 dtime, .string path, .slice a7 data.length k7, .int .i64 owner, .int .i64 ver, .int .i64 cver, .int .i64 tmo, .int .i64 err, .int .i64 cfg, .slice a14 mem.length k14, .slice a15 parts.length k15])] A (endP bareS (.mk ⟨zxid, 8, ses, turn, xid, dtime, path, data, owner, ver, cver, tmo, err, cfg, mem⟩ parts) [.agg #[.int .i64 zxid, .int .u8 8, .int .i64 ses, .int .i64 turn, .int .i64 xid, .int .i64 dtime, .string path, .slice a7 data.length k7, .int .i64 owner, .int .i64 ver, .int .i64 cver, .int .i64 tmo, .int .i64 err, .int .i64 cfg, .slice a14 mem.length k14, .slice a15 parts.length k15]] A) := by
  intro blk os out tape D hD
  have hbq : ∀ l m : List UInt8, beqL l m = (l == m) := beqL_eq
  have bad : ¬ BareD ⟨zxid, 8, ses, turn, xid, dtime, path, data, owner, ver, cver, tmo, err, cfg, mem⟩ parts.length → Value.bool false = .bool (decide (BareD ⟨zxid, 8, ses, turn, xid, dtime, path, data, owner, ver, cver, tmo, err, cfg, mem⟩ parts.length)) := fun hb => by rw [decide_eq_false hb]
  have good : ∀ b : Bool, (b = true ↔ BareD ⟨zxid, 8, ses, turn, xid, dtime, path, data, owner, ver, cver, tmo, err, cfg, mem⟩ parts.length) → Value.bool b = .bool (decide (BareD ⟨zxid, 8, ses, turn, xid, dtime, path, data, owner, ver, cver, tmo, err, cfg, mem⟩ parts.length)) := fun b hb => by
    congr 1
    rw [Bool.eq_iff_iff, hb, decide_eq_true_iff]
  conv => lhs; whnf
  repeat
    (refine split_b (fun h => ?_) (fun h => ?_)
     · conv => lhs; whnf
       exact (hD _).2 ⟨rfl, bad fun hB => by
         obtain ⟨b1, b2, b3, b4, b5, b6, b7, b8, b9⟩ := hB
         simp_all⟩
     conv => lhs; whnf
     )
  refine split_dec (fun hc => ?_) (fun hc => ?_) <;> (conv => lhs; whnf)
  · exact (hD _).2 ⟨rfl, good (decide ((mem.length : Int) = 0)) (by
      simp only [BareD]
      simp_all)⟩
  · exact (hD _).2 ⟨rfl, bad fun hB => by
      obtain ⟨b1, b2, b3, b4, b5, b6, b7, b8, b9⟩ := hB
      simp_all⟩

set_option maxRecDepth 100000 in
set_option maxHeartbeats 0 in
theorem bare9 (zxid ses turn xid dtime : Int) (path : ByteArray) (data : List UInt8) (owner ver cver tmo err cfg : Int) (mem : List MemD) (parts : List DeedD) (a7 a14 a15 : Option Addr) (k7 k14 k15 : Nat) (A : Arena) :
    Run Tryz.prog noC noL 60 44 [.v (.agg #[.int .i64 zxid, .int .u8 9, .int .i64 ses, .int .i64 turn, .int .i64 xid, .int .i64 dtime, .string path, .slice a7 data.length k7, .int .i64 owner, .int .i64 ver, .int .i64 cver, .int .i64 tmo, .int .i64 err, .int .i64 cfg, .slice a14 mem.length k14, .slice a15 parts.length k15])] A (endP bareS (.mk ⟨zxid, 9, ses, turn, xid, dtime, path, data, owner, ver, cver, tmo, err, cfg, mem⟩ parts) [.agg #[.int .i64 zxid, .int .u8 9, .int .i64 ses, .int .i64 turn, .int .i64 xid, .int .i64 dtime, .string path, .slice a7 data.length k7, .int .i64 owner, .int .i64 ver, .int .i64 cver, .int .i64 tmo, .int .i64 err, .int .i64 cfg, .slice a14 mem.length k14, .slice a15 parts.length k15]] A) := by
  intro blk os out tape D hD
  have hbq : ∀ l m : List UInt8, beqL l m = (l == m) := beqL_eq
  have bad : ¬ BareD ⟨zxid, 9, ses, turn, xid, dtime, path, data, owner, ver, cver, tmo, err, cfg, mem⟩ parts.length → Value.bool false = .bool (decide (BareD ⟨zxid, 9, ses, turn, xid, dtime, path, data, owner, ver, cver, tmo, err, cfg, mem⟩ parts.length)) := fun hb => by rw [decide_eq_false hb]
  have good : ∀ b : Bool, (b = true ↔ BareD ⟨zxid, 9, ses, turn, xid, dtime, path, data, owner, ver, cver, tmo, err, cfg, mem⟩ parts.length) → Value.bool b = .bool (decide (BareD ⟨zxid, 9, ses, turn, xid, dtime, path, data, owner, ver, cver, tmo, err, cfg, mem⟩ parts.length)) := fun b hb => by
    congr 1
    rw [Bool.eq_iff_iff, hb, decide_eq_true_iff]
  conv => lhs; whnf
  repeat
    (refine split_b (fun h => ?_) (fun h => ?_)
     · conv => lhs; whnf
       exact (hD _).2 ⟨rfl, bad fun hB => by
         obtain ⟨b1, b2, b3, b4, b5, b6, b7, b8, b9⟩ := hB
         simp_all⟩
     conv => lhs; whnf
     )
  refine split_dec (fun hc => ?_) (fun hc => ?_) <;> (conv => lhs; whnf)
  · exact (hD _).2 ⟨rfl, good (decide ((mem.length : Int) = 0)) (by
      simp only [BareD]
      simp_all)⟩
  · exact (hD _).2 ⟨rfl, bad fun hB => by
      obtain ⟨b1, b2, b3, b4, b5, b6, b7, b8, b9⟩ := hB
      simp_all⟩

set_option maxRecDepth 100000 in
set_option maxHeartbeats 0 in
theorem bareX (kind zxid ses turn xid dtime : Int) (path : ByteArray) (data : List UInt8) (owner ver cver tmo err cfg : Int) (mem : List MemD) (parts : List DeedD) (a7 a14 a15 : Option Addr) (k7 k14 k15 : Nat) (A : Arena) (n1 : ¬ kind = 1) (n2 : ¬ kind = 2) (n3 : ¬ kind = 3) (n4 : ¬ kind = 4) (n5 : ¬ kind = 5) (n6 : ¬ kind = 6) (n7 : ¬ kind = 7) (n8 : ¬ kind = 8) (n9 : ¬ kind = 9) :
    Run Tryz.prog noC noL 60 44 [.v (.agg #[.int .i64 zxid, .int .u8 kind, .int .i64 ses, .int .i64 turn, .int .i64 xid, .int .i64 dtime, .string path, .slice a7 data.length k7, .int .i64 owner, .int .i64 ver, .int .i64 cver, .int .i64 tmo, .int .i64 err, .int .i64 cfg, .slice a14 mem.length k14, .slice a15 parts.length k15])] A (endP bareS (.mk ⟨zxid, kind, ses, turn, xid, dtime, path, data, owner, ver, cver, tmo, err, cfg, mem⟩ parts) [.agg #[.int .i64 zxid, .int .u8 kind, .int .i64 ses, .int .i64 turn, .int .i64 xid, .int .i64 dtime, .string path, .slice a7 data.length k7, .int .i64 owner, .int .i64 ver, .int .i64 cver, .int .i64 tmo, .int .i64 err, .int .i64 cfg, .slice a14 mem.length k14, .slice a15 parts.length k15]] A) := by
  intro blk os out tape D hD
  have hbq : ∀ l m : List UInt8, beqL l m = (l == m) := beqL_eq
  have bad : ¬ BareD ⟨zxid, kind, ses, turn, xid, dtime, path, data, owner, ver, cver, tmo, err, cfg, mem⟩ parts.length → Value.bool false = .bool (decide (BareD ⟨zxid, kind, ses, turn, xid, dtime, path, data, owner, ver, cver, tmo, err, cfg, mem⟩ parts.length)) := fun hb => by rw [decide_eq_false hb]
  have good : ∀ b : Bool, (b = true ↔ BareD ⟨zxid, kind, ses, turn, xid, dtime, path, data, owner, ver, cver, tmo, err, cfg, mem⟩ parts.length) → Value.bool b = .bool (decide (BareD ⟨zxid, kind, ses, turn, xid, dtime, path, data, owner, ver, cver, tmo, err, cfg, mem⟩ parts.length)) := fun b hb => by
    congr 1
    rw [Bool.eq_iff_iff, hb, decide_eq_true_iff]
  have f1 : (!decide (kind = 1)) = true := by rw [decide_eq_false n1]; rfl
  have f2 : (!decide (kind = 2)) = true := by rw [decide_eq_false n2]; rfl
  have f3 : (!decide (kind = 3)) = true := by rw [decide_eq_false n3]; rfl
  have f4 : (!decide (kind = 4)) = true := by rw [decide_eq_false n4]; rfl
  have f5 : (!decide (kind = 5)) = true := by rw [decide_eq_false n5]; rfl
  have f6 : (!decide (kind = 6)) = true := by rw [decide_eq_false n6]; rfl
  have f7 : (!decide (kind = 7)) = true := by rw [decide_eq_false n7]; rfl
  have f8 : (!decide (kind = 8)) = true := by rw [decide_eq_false n8]; rfl
  have f9 : (!decide (kind = 9)) = true := by rw [decide_eq_false n9]; rfl
  conv => lhs; whnf
  repeat
    (first | refine no_dec n1 ?_ | refine no_dec n2 ?_ | refine no_dec n3 ?_ | refine no_dec n4 ?_ | refine no_dec n5 ?_ | refine no_dec n6 ?_ | refine no_dec n7 ?_ | refine no_dec n8 ?_ | refine no_dec n9 ?_ | refine go_b f1 ?_ | refine go_b f2 ?_ | refine go_b f3 ?_ | refine go_b f4 ?_ | refine go_b f5 ?_ | refine go_b f6 ?_ | refine go_b f7 ?_ | refine go_b f8 ?_ | refine go_b f9 ?_
     conv => lhs; whnf)
  repeat
    (refine split_b (fun h => ?_) (fun h => ?_)
     · conv => lhs; whnf
       exact (hD _).2 ⟨rfl, bad fun hB => by
         obtain ⟨b1, b2, b3, b4, b5, b6, b7, b8, b9⟩ := hB
         simp_all⟩
     conv => lhs; whnf
     repeat
       (first | refine no_dec n1 ?_ | refine no_dec n2 ?_ | refine no_dec n3 ?_ | refine no_dec n4 ?_ | refine no_dec n5 ?_ | refine no_dec n6 ?_ | refine no_dec n7 ?_ | refine no_dec n8 ?_ | refine no_dec n9 ?_ | refine go_b f1 ?_ | refine go_b f2 ?_ | refine go_b f3 ?_ | refine go_b f4 ?_ | refine go_b f5 ?_ | refine go_b f6 ?_ | refine go_b f7 ?_ | refine go_b f8 ?_ | refine go_b f9 ?_
        conv => lhs; whnf)
     )
  refine split_dec (fun hc => ?_) (fun hc => ?_) <;> (conv => lhs; whnf)
  · exact (hD _).2 ⟨rfl, good (decide ((mem.length : Int) = 0)) (by
      simp only [BareD]
      simp_all)⟩
  · exact (hD _).2 ⟨rfl, bad fun hB => by
      obtain ⟨b1, b2, b3, b4, b5, b6, b7, b8, b9⟩ := hB
      simp_all⟩

theorem bare_ok : FOk Tryz.prog 44 bareS := by
  refine fok_v mixed fun d vs A hp => ?_
  obtain ⟨cs, rfl, hR⟩ : ∃ cs, vs = [deedV cs] ∧ DeedR A d cs := hp
  obtain ⟨⟨zxid, kind, ses, turn, xid, dtime, path, data, owner, ver, cver, tmo, err, cfg, mem⟩, parts⟩ := d
  rw [DeedR] at hR
  dsimp only [DeedH.cells] at hR
  obtain ⟨vd, vm, vp, rws, rfl, -, hd1, hM, hSp, hlen2, hRows⟩ := hR
  obtain ⟨a7, k7, rfl⟩ := hd1.1.form
  obtain ⟨a14, k14, rfl⟩ := hM.1.form
  obtain ⟨a15, k15, rfl⟩ := hSp.form
  refine ⟨noC, noL, 60, noC_sound _, noL_sound _, ?_⟩
  by_cases n1 : kind = 1
  · subst n1
    exact bare1 _ _ _ _ _ _ _ _ _ _ _ _ _ _ _ _ _ _ _ _ _ _
  by_cases n2 : kind = 2
  · subst n2
    exact bare2 _ _ _ _ _ _ _ _ _ _ _ _ _ _ _ _ _ _ _ _ _ _
  by_cases n3 : kind = 3
  · subst n3
    exact bare3 _ _ _ _ _ _ _ _ _ _ _ _ _ _ _ _ _ _ _ _ _ _
  by_cases n4 : kind = 4
  · subst n4
    exact bare4 _ _ _ _ _ _ _ _ _ _ _ _ _ _ _ _ _ _ _ _ _ _
  by_cases n5 : kind = 5
  · subst n5
    exact bare5 _ _ _ _ _ _ _ _ _ _ _ _ _ _ _ _ _ _ _ _ _ _
  by_cases n6 : kind = 6
  · subst n6
    exact bare6 _ _ _ _ _ _ _ _ _ _ _ _ _ _ _ _ _ _ _ _ _ _
  by_cases n7 : kind = 7
  · subst n7
    exact bare7 _ _ _ _ _ _ _ _ _ _ _ _ _ _ _ _ _ _ _ _ _ _
  by_cases n8 : kind = 8
  · subst n8
    exact bare8 _ _ _ _ _ _ _ _ _ _ _ _ _ _ _ _ _ _ _ _ _ _
  by_cases n9 : kind = 9
  · subst n9
    exact bare9 _ _ _ _ _ _ _ _ _ _ _ _ _ _ _ _ _ _ _ _ _ _
  exact bareX _ _ _ _ _ _ _ _ _ _ _ _ _ _ _ _ _ _ _ _ _ _ _ n1 n2 n3 n4 n5 n6 n7 n8 n9

end
end Go.Proofs.YtienbbhelhhfjaaGreatDoor
