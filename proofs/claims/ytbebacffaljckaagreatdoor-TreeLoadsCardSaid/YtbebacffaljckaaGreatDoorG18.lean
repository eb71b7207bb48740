/-
  Contracts: the document's deeds: has a deed what its kind may have alone?
  Contracts: the document's deeds: a create, a delete, a set; parts.
  Contracts: the document's ensembles: may a config be?
  Contracts: the document's deeds: is a deed right? It says what the program says.
  Contracts: the document's tree does a deed.
-/
import Derived.Test.YtbebacffaljckaaGreatDoorG07
import Derived.Test.YtbebacffaljckaaGreatDoorG16
import Derived.Test.YtbebacffaljckaaGreatDoorG11
import Derived.Test.YtbebacffaljckaaGreatDoorG17
namespace Go.Proofs.YtbebacffaljckaaGreatDoor
open Go.Sx Go.RowKit
noncomputable section
open Classical

/-- Are all fields zero that a kind does not name? -/
def BareD (h : DeedH) (np : Nat) : Prop :=
  (h.kind = 1 ∨ h.kind = 2 ∨ h.kind = 3 ∨ h.path.data.toList = []) ∧ (h.kind = 1 ∨ h.kind = 3 ∨ h.data.length = 0) ∧ (h.kind = 1 ∨ h.kind = 5 ∨ h.owner = 0) ∧ (h.kind = 5 ∨ h.kind = 8 ∨ np = 0) ∧
  (h.kind = 3 ∨ h.ver = 0) ∧ (h.kind = 1 ∨ h.kind = 2 ∨ h.cver = 0) ∧ (h.kind = 4 ∨ h.tmo = 0) ∧ (h.kind = 9 ∨ h.err = 0) ∧ (h.kind = 7 ∨ (h.cfg = 0 ∧ h.mem.length = 0))

def bareS : FSpec := ⟨DeedD, fun d vs A => ∃ cs, vs = [deedV cs] ∧ DeedR A d cs, fun d _ A v A' => A' = A ∧ v = .bool (decide (BareD d.h d.parts.length))⟩

set_option maxRecDepth 100000 in
set_option maxHeartbeats 0 in
theorem bare1 (zxid ses turn xid dtime : Int) (path : ByteArray) (data : List UInt8) (owner ver cver tmo err cfg : Int) (mem : List MemD) (parts : List DeedD) (a7 a14 a15 : Option Addr) (k7 k14 k15 : Nat) (A : Arena) :
    Run Tryz.prog noC noL 60 49 [.v (.agg #[.int .i64 zxid, .int .u8 1, .int .i64 ses, .int .i64 turn, .int .i64 xid, .int .i64 dtime, .string path, .slice a7 data.length k7, .int .i64 owner, .int .i64 ver, .int .i64 cver, .int .i64 tmo, .int .i64 err, .int .i64 cfg, .slice a14 mem.length k14, .slice a15 parts.length k15])] A (endP bareS (.mk ⟨zxid, 1, ses, turn, xid, dtime, path, data, owner, ver, cver, tmo, err, cfg, mem⟩ parts) [.agg #[.int .i64 zxid, .int .u8 1, .int .i64 ses, .int .i64 turn, .int .i64 xid, .int .i64 dtime, .string path, .slice a7 data.length k7, .int .i64 owner, .int .i64 ver, .int .i64 cver, .int .i64 tmo, .int .i64 err, .int .i64 cfg, .slice a14 mem.length k14, .slice a15 parts.length k15]] A) := by
  intro blk os out tape D hD
  have hbq : ∀ l m : List UInt8, beqL l m = (l == m) := beqL_eq
  have bad : ¬ BareD ⟨zxid, 1, ses, turn, xid, dtime, path, data, owner, ver, cver, tmo, err, cfg, mem⟩ parts.length → Value.bool false = .bool (decide (BareD ⟨zxid, 1, ses, turn, xid, dtime, path, data, owner, ver, cver, tmo, err, cfg, mem⟩ parts.length)) := fun hb => by rw [decide_eq_false hb]
  have good : ∀ b : Bool, (b = true ↔ BareD ⟨zxid, 1, ses, turn, xid, dtime, path, data, owner, ver, cver, tmo, err, cfg, mem⟩ parts.length) → Value.bool b = .bool (decide (BareD ⟨zxid, 1, ses, turn, xid, dtime, path, data, owner, ver, cver, tmo, err, cfg, mem⟩ parts.length)) := fun b hb => by
    congr 1
    rw [Bool.eq_iff_iff, hb, decide_eq_true_iff]
  conv => lhs; whnf
  repeat
    (refine split_b (fun h => ?_) (fun h => ?_)
     · conv => lhs; whnf
       exact (hD _).2 ⟨rfl, bad fun hB => by
         obtain ⟨b1, b2, b3, b4, b5, b6, b7, b8, b9⟩ := hB
         simp_all⟩
     conv => lhs; whnf
     )
  refine split_dec (fun hc => ?_) (fun hc => ?_) <;> (conv => lhs; whnf)
  · exact (hD _).2 ⟨rfl, good (decide ((mem.length : Int) = 0)) (by
      simp only [BareD]
      simp_all)⟩
  · exact (hD _).2 ⟨rfl, bad fun hB => by
      obtain ⟨b1, b2, b3, b4, b5, b6, b7, b8, b9⟩ := hB
      simp_all⟩

set_option maxRecDepth 100000 in
set_option maxHeartbeats 0 in
theorem bare2 (zxid ses turn xid dtime : Int) (path : ByteArray) (data : List UInt8) (owner ver cver tmo err cfg : Int) (mem : List MemD) (parts : List DeedD) (a7 a14 a15 : Option Addr) (k7 k14 k15 : Nat) (A : Arena) :
    Run Tryz.prog noC noL 60 49 [.v (.agg #[.int .i64 zxid, .int .u8 2, .int .i64 ses, .int .i64 turn, .int .i64 xid, .int .i64 dtime, .string path, .slice a7 data.length k7, .int .i64 owner, .int .i64 ver, .int .i64 cver, .int .i64 tmo, .int .i64 err, .int .i64 cfg, .slice a14 mem.length k14, .slice a15 parts.length k15])] A (endP bareS (.mk ⟨zxid, 2, ses, turn, xid, dtime, path, data, owner, ver, cver, tmo, err, cfg, mem⟩ parts) [.agg #[.int .i64 zxid, .int .u8 2, .int .i64 ses, .int .i64 turn, .int .i64 xid, .int .i64 dtime, .string path, .slice a7 data.length k7, .int .i64 owner, .int .i64 ver, .int .i64 cver, .int .i64 tmo, .int .i64 err, .int .i64 cfg, .slice a14 mem.length k14, .slice a15 parts.length k15]] A) := by
  intro blk os out tape D hD
  have hbq : ∀ l m : List UInt8, beqL l m = (l == m) := beqL_eq
  have bad : ¬ BareD ⟨zxid, 2, ses, turn, xid, dtime, path, data, owner, ver, cver, tmo, err, cfg, mem⟩ parts.length → Value.bool false = .bool (decide (BareD ⟨zxid, 2, ses, turn, xid, dtime, path, data, owner, ver, cver, tmo, err, cfg, mem⟩ parts.length)) := fun hb => by rw [decide_eq_false hb]
  have good : ∀ b : Bool, (b = true ↔ BareD ⟨zxid, 2, ses, turn, xid, dtime, path, data, owner, ver, cver, tmo, err, cfg, mem⟩ parts.length) → Value.bool b = .bool (decide (BareD ⟨zxid, 2, ses, turn, xid, dtime, path, data, owner, ver, cver, tmo, err, cfg, mem⟩ parts.length)) := fun b hb => by
    congr 1
    rw [Bool.eq_iff_iff, hb, decide_eq_true_iff]
  conv => lhs; whnf
  repeat
    (refine split_b (fun h => ?_) (fun h => ?_)
     · conv => lhs; whnf
       exact (hD _).2 ⟨rfl, bad fun hB => by
         obtain ⟨b1, b2, b3, b4, b5, b6, b7, b8, b9⟩ := hB
         simp_all⟩
     conv => lhs; whnf
     )
  refine split_dec (fun hc => ?_) (fun hc => ?_) <;> (conv => lhs; whnf)
  · exact (hD _).2 ⟨rfl, good (decide ((mem.length : Int) = 0)) (by
      simp only [BareD]
      simp_all)⟩
  · exact (hD _).2 ⟨rfl, bad fun hB => by
      obtain ⟨b1, b2, b3, b4, b5, b6, b7, b8, b9⟩ := hB
      simp_all⟩

set_option maxRecDepth 100000 in
set_option maxHeartbeats 0 in
theorem bare3 (zxid ses turn xid dtime : Int) (path : ByteArray) (data : List UInt8) (owner ver cver tmo err cfg : Int) (mem : List MemD) (parts : List DeedD) (a7 a14 a15 : Option Addr) (k7 k14 k15 : Nat) (A : Arena) :
    Run Tryz.prog noC noL 60 49 [.v (.agg #[.int .i64 zxid, .int .u8 3, .int .i64 ses, .int .i64 turn, .int .i64 xid, .int .i64 dtime, .string path, .slice a7 data.length k7, .int .i64 owner, .int .i64 ver, .int .i64 cver, .int .i64 tmo, .int .i64 err, .int .i64 cfg, .slice a14 mem.length k14, .slice a15 parts.length k15])] A (endP bareS (.mk ⟨zxid, 3, ses, turn, xid, dtime, path, data, owner, ver, cver, tmo, err, cfg, mem⟩ parts) [.agg #[.int .i64 zxid, .int .u8 3, .int .i64 ses, .int .i64 turn, .int .i64 xid, .int .i64 dtime, .string path, .slice a7 data.length k7, .int .i64 owner, .int .i64 ver, .int .i64 cver, .int .i64 tmo, .int .i64 err, .int .i64 cfg, .slice a14 mem.length k14, .slice a15 parts.length k15]] A) := by
  intro blk os out tape D hD
  have hbq : ∀ l m : List UInt8, beqL l m = (l == m) := beqL_eq
  have bad : ¬ BareD ⟨zxid, 3, ses, turn, xid, dtime, path, data, owner, ver, cver, tmo, err, cfg, mem⟩ parts.length → Value.bool false = .bool (decide (BareD ⟨zxid, 3, ses, turn, xid, dtime, path, data, owner, ver, cver, tmo, err, cfg, mem⟩ parts.length)) := fun hb => by rw [decide_eq_false hb]
  have good : ∀ b : Bool, (b = true ↔ BareD ⟨zxid, 3, ses, turn, xid, dtime, path, data, owner, ver, cver, tmo, err, cfg, mem⟩ parts.length) → Value.bool b = .bool (decide (BareD ⟨zxid, 3, ses, turn, xid, dtime, path, data, owner, ver, cver, tmo, err, cfg, mem⟩ parts.length)) := fun b hb => by
    congr 1
    rw [Bool.eq_iff_iff, hb, decide_eq_true_iff]
  conv => lhs; whnf
  repeat
    (refine split_b (fun h => ?_) (fun h => ?_)
     · conv => lhs; whnf
       exact (hD _).2 ⟨rfl, bad fun hB => by
         obtain ⟨b1, b2, b3, b4, b5, b6, b7, b8, b9⟩ := hB
         simp_all⟩
     conv => lhs; whnf
     )
  refine split_dec (fun hc => ?_) (fun hc => ?_) <;> (conv => lhs; whnf)
  · exact (hD _).2 ⟨rfl, good (decide ((mem.length : Int) = 0)) (by
      simp only [BareD]
      simp_all)⟩
  · exact (hD _).2 ⟨rfl, bad fun hB => by
      obtain ⟨b1, b2, b3, b4, b5, b6, b7, b8, b9⟩ := hB
      simp_all⟩

set_option maxRecDepth 100000 in
set_option maxHeartbeats 0 in
theorem bare4 (zxid ses turn xid dtime : Int) (path : ByteArray) (data : List UInt8) (owner ver cver tmo err cfg : Int) (mem : List MemD) (parts : List DeedD) (a7 a14 a15 : Option Addr) (k7 k14 k15 : Nat) (A : Arena) :
    Run Tryz.prog noC noL 60 49 [.v (.agg #[.int .i64 zxid, .int .u8 4, .int .i64 ses, .int .i64 turn, .int .i64 xid, .int .i64 dtime, .string path, .slice a7 data.length k7, .int .i64 owner, .int .i64 ver, .int .i64 cver, .int .i64 tmo, .int .i64 err, .int .i64 cfg, .slice a14 mem.length k14, .slice a15 parts.length k15])] A (endP bareS (.mk ⟨zxid, 4, ses, turn, xid, dtime, path, data, owner, ver, cver, tmo, err, cfg, mem⟩ parts) [.agg #[.int .i64 zxid, .int .u8 4, .int .i64 ses, .int .i64 turn, .int .i64 xid, .int .i64 dtime, .string path, .slice a7 data.length k7, .int .i64 owner, .int .i64 ver, .int .i64 cver, .int .i64 tmo, .int .i64 err, .int .i64 cfg, .slice a14 mem.length k14, .slice a15 parts.length k15]] A) := by
  intro blk os out tape D hD
  have hbq : ∀ l m : List UInt8, beqL l m = (l == m) := beqL_eq
  have bad : ¬ BareD ⟨zxid, 4, ses, turn, xid, dtime, path, data, owner, ver, cver, tmo, err, cfg, mem⟩ parts.length → Value.bool false = .bool (decide (BareD ⟨zxid, 4, ses, turn, xid, dtime, path, data, owner, ver, cver, tmo, err, cfg, mem⟩ parts.length)) := fun hb => by rw [decide_eq_false hb]
  have good : ∀ b : Bool, (b = true ↔ BareD ⟨zxid, 4, ses, turn, xid, dtime, path, data, owner, ver, cver, tmo, err, cfg, mem⟩ parts.length) → Value.bool b = .bool (decide (BareD ⟨zxid, 4, ses, turn, xid, dtime, path, data, owner, ver, cver, tmo, err, cfg, mem⟩ parts.length)) := fun b hb => by
    congr 1
    rw [Bool.eq_iff_iff, hb, decide_eq_true_iff]
  conv => lhs; whnf
  repeat
    (refine split_b (fun h => ?_) (fun h => ?_)
     · conv => lhs; whnf
       exact (hD _).2 ⟨rfl, bad fun hB => by
         obtain ⟨b1, b2, b3, b4, b5, b6, b7, b8, b9⟩ := hB
         simp_all⟩
     conv => lhs; whnf
     )
  refine split_dec (fun hc => ?_) (fun hc => ?_) <;> (conv => lhs; whnf)
  · exact (hD _).2 ⟨rfl, good (decide ((mem.length : Int) = 0)) (by
      simp only [BareD]
      simp_all)⟩
  · exact (hD _).2 ⟨rfl, bad fun hB => by
      obtain ⟨b1, b2, b3, b4, b5, b6, b7, b8, b9⟩ := hB
      simp_all⟩

set_option maxRecDepth 100000 in
set_option maxHeartbeats 0 in
theorem bare5 (zxid ses turn xid dtime : Int) (path : ByteArray) (data : List UInt8) (owner ver cver tmo err cfg : Int) (mem : List MemD) (parts : List DeedD) (a7 a14 a15 : Option Addr) (k7 k14 k15 : Nat) (A : Arena) :
    Run Tryz.prog noC noL 60 49 [.v (.agg #[.int .i64 zxid, .int .u8 5, .int .i64 ses, .int .i64 turn, .int .i64 xid, .int .i64 dtime, .string path, .slice a7 data.length k7, .int .i64 owner, .int .i64 ver, .int .i64 cver, .int .i64 tmo, .int .i64 err, .int .i64 cfg, .slice a14 mem.length k14, .slice a15 parts.length k15])] A (endP bareS (.mk ⟨zxid, 5, ses, turn, xid, dtime, path, data, owner, ver, cver, tmo, err, cfg, mem⟩ parts) [.agg #[.int .i64 zxid, .int .u8 5, .int .i64 ses, .int .i64 turn, .int .i64 xid, .int .i64 dtime, .string path, .slice a7 data.length k7, .int .i64 owner, .int .i64 ver, .int .i64 cver, .int .i64 tmo, .int .i64 err, .int .i64 cfg, .slice a14 mem.length k14, .slice a15 parts.length k15]] A) := by
  intro blk os out tape D hD
  have hbq : ∀ l m : List UInt8, beqL l m = (l == m) := beqL_eq
  have bad : ¬ BareD ⟨zxid, 5, ses, turn, xid, dtime, path, data, owner, ver, cver, tmo, err, cfg, mem⟩ parts.length → Value.bool false = .bool (decide (BareD ⟨zxid, 5, ses, turn, xid, dtime, path, data, owner, ver, cver, tmo, err, cfg, mem⟩ parts.length)) := fun hb => by rw [decide_eq_false hb]
  have good : ∀ b : Bool, (b = true ↔ BareD ⟨zxid, 5, ses, turn, xid, dtime, path, data, owner, ver, cver, tmo, err, cfg, mem⟩ parts.length) → Value.bool b = .bool (decide (BareD ⟨zxid, 5, ses, turn, xid, dtime, path, data, owner, ver, cver, tmo, err, cfg, mem⟩ parts.length)) := fun b hb => by
    congr 1
    rw [Bool.eq_iff_iff, hb, decide_eq_true_iff]
  conv => lhs; whnf
  repeat
    (refine split_b (fun h => ?_) (fun h => ?_)
     · conv => lhs; whnf
       exact (hD _).2 ⟨rfl, bad fun hB => by
         obtain ⟨b1, b2, b3, b4, b5, b6, b7, b8, b9⟩ := hB
         simp_all⟩
     conv => lhs; whnf
     )
  refine split_dec (fun hc => ?_) (fun hc => ?_) <;> (conv => lhs; whnf)
  · exact (hD _).2 ⟨rfl, good (decide ((mem.length : Int) = 0)) (by
      simp only [BareD]
      simp_all)⟩
  · exact (hD _).2 ⟨rfl, bad fun hB => by
      obtain ⟨b1, b2, b3, b4, b5, b6, b7, b8, b9⟩ := hB
      simp_all⟩

set_option maxRecDepth 100000 in
set_option maxHeartbeats 0 in
theorem bare6 (zxid ses turn xid dtime : Int) (path : ByteArray) (data : List UInt8) (owner ver cver tmo err cfg : Int) (mem : List MemD) (parts : List DeedD) (a7 a14 a15 : Option Addr) (k7 k14 k15 : Nat) (A : Arena) :
    Run Tryz.prog noC noL 60 49 [.v (.agg #[.int .i64 zxid, .int .u8 6, .int .i64 ses, .int .i64 turn, .int .i64 xid, .int .i64 dtime, .string path, .slice a7 data.length k7, .int .i64 owner, .int .i64 ver, .int .i64 cver, .int .i64 tmo, .int .i64 err, .int .i64 cfg, .slice a14 mem.length k14, .slice a15 parts.length k15])] A (endP bareS (.mk ⟨zxid, 6, ses, turn, xid, dtime, path, data, owner, ver, cver, tmo, err, cfg, mem⟩ parts) [.agg #[.int .i64 zxid, .int .u8 6, .int .i64 ses, .int .i64 turn, .int .i64 xid, .int .i64 dtime, .string path, .slice a7 data.length k7, .int .i64 owner, .int .i64 ver, .int .i64 cver, .int .i64 tmo, .int .i64 err, .int .i64 cfg, .slice a14 mem.length k14, .slice a15 parts.length k15]] A) := by
  intro blk os out tape D hD
  have hbq : ∀ l m : List UInt8, beqL l m = (l == m) := beqL_eq
  have bad : ¬ BareD ⟨zxid, 6, ses, turn, xid, dtime, path, data, owner, ver, cver, tmo, err, cfg, mem⟩ parts.length → Value.bool false = .bool (decide (BareD ⟨zxid, 6, ses, turn, xid, dtime, path, data, owner, ver, cver, tmo, err, cfg, mem⟩ parts.length)) := fun hb => by rw [decide_eq_false hb]
  have good : ∀ b : Bool, (b = true ↔ BareD ⟨zxid, 6, ses, turn, xid, dtime, path, data, owner, ver, cver, tmo, err, cfg, mem⟩ parts.length) → Value.bool b = .bool (decide (BareD ⟨zxid, 6, ses, turn, xid, dtime, path, data, owner, ver, cver, tmo, err, cfg, mem⟩ parts.length)) := fun b hb => by
    congr 1
    rw [Bool.eq_iff_iff, hb, decide_eq_true_iff]
  conv => lhs; whnf
  repeat
    (refine split_b (fun h => ?_) (fun h => ?_)
     · conv => lhs; whnf
       exact (hD _).2 ⟨rfl, bad fun hB => by
         obtain ⟨b1, b2, b3, b4, b5, b6, b7, b8, b9⟩ := hB
         simp_all⟩
     conv => lhs; whnf
     )
  refine split_dec (fun hc => ?_) (fun hc => ?_) <;> (conv => lhs; whnf)
  · exact (hD _).2 ⟨rfl, good (decide ((mem.length : Int) = 0)) (by
      simp only [BareD]
      simp_all)⟩
  · exact (hD _).2 ⟨rfl, bad fun hB => by
      obtain ⟨b1, b2, b3, b4, b5, b6, b7, b8, b9⟩ := hB
      simp_all⟩

set_option maxRecDepth 100000 in
set_option maxHeartbeats 0 in
theorem bare7 (zxid ses turn xid dtime : Int) (path : ByteArray) (data : List UInt8) (owner ver cver tmo err cfg : Int) (mem : List MemD) (parts : List DeedD) (a7 a14 a15 : Option Addr) (k7 k14 k15 : Nat) (A : Arena) :
    Run Tryz.prog noC noL 60 49 [.v (.agg #[.int .i64 zxid, .int .u8 7, .int .i64 ses, .int .i64 turn, .int .i64 xid, .int .i64 dtime, .string path, .slice a7 data.length k7, .int .i64 owner, .int .i64 ver, .int .i64 cver, .int .i64 tmo, .int .i64 err, .int .i64 cfg, .slice a14 mem.length k14, .slice a15 parts.length k15])] A (endP bareS (.mk ⟨zxid, 7, ses, turn, xid, dtime, path, data, owner, ver, cver, tmo, err, cfg, mem⟩ parts) [.agg #[.int .i64 zxid, .int .u8 7, .int .i64 ses, .int .i64 turn, .int .i64 xid, .int .i64 dtime, .string path, .slice a7 data.length k7, .int .i64 owner, .int .i64 ver, .int .i64 cver, .int .i64 tmo, .int .i64 err, .int .i64 cfg, .slice a14 mem.length k14, .slice a15 parts.length k15]] A) := by
  intro blk os out tape D hD
  have hbq : ∀ l m : List UInt8, beqL l m = (l == m) := beqL_eq
  have bad : ¬ BareD ⟨zxid, 7, ses, turn, xid, dtime, path, data, owner, ver, cver, tmo, err, cfg, mem⟩ parts.length → Value.bool false = .bool (decide (BareD ⟨zxid, 7, ses, turn, xid, dtime, path, data, owner, ver, cver, tmo, err, cfg, mem⟩ parts.length)) := fun hb => by rw [decide_eq_false hb]
  have good : ∀ b : Bool, (b = true ↔ BareD ⟨zxid, 7, ses, turn, xid, dtime, path, data, owner, ver, cver, tmo, err, cfg, mem⟩ parts.length) → Value.bool b = .bool (decide (BareD ⟨zxid, 7, ses, turn, xid, dtime, path, data, owner, ver, cver, tmo, err, cfg, mem⟩ parts.length)) := fun b hb => by
    congr 1
    rw [Bool.eq_iff_iff, hb, decide_eq_true_iff]
  conv => lhs; whnf
  repeat
    (refine split_b (fun h => ?_) (fun h => ?_)
     · conv => lhs; whnf
       exact (hD _).2 ⟨rfl, bad fun hB => by
         obtain ⟨b1, b2, b3, b4, b5, b6, b7, b8, b9⟩ := hB
         simp_all⟩
     conv => lhs; whnf
     )
  exact (hD _).2 ⟨rfl, good true (by
    simp only [BareD]
    simp_all)⟩

set_option maxRecDepth 100000 in
set_option maxHeartbeats 0 in
theorem bare8 (zxid ses turn xid dtime : Int) (path : ByteArray) (data : List UInt8) (owner ver cver tmo err cfg : Int) (mem : List MemD) (parts : List DeedD) (a7 a14 a15 : Option Addr) (k7 k14 k15 : Nat) (A : Arena) :
    Run Tryz.prog noC noL 60 49 [.v (.agg #[.int .i64 zxid, .int .u8 8, .int .i64 ses, .int .i64 turn, .int .i64 xid, .int .i64 dtime, .string path, .slice a7 data.length k7, .int .i64 owner, .int .i64 ver, .int .i64 cver, .int .i64 tmo, .int .i64 err, .int .i64 cfg, .slice a14 mem.length k14, .slice a15 parts.length k15])] A (endP bareS (.mk ⟨zxid, 8, ses, turn, xid, dtime, path, data, owner, ver, cver, tmo, err, cfg, mem⟩ parts) [.agg #[.int .i64 zxid, .int .u8 8, .int .i64 ses, .int .i64 turn, .int .i64 xid, .int .i64 dtime, .string path, .slice a7 data.length k7, .int .i64 owner, .int .i64 ver, .int .i64 cver, .int .i64 tmo, .int .i64 err, .int .i64 cfg, .slice a14 mem.length k14, .slice a15 parts.length k15]] A) := by
  intro blk os out tape D hD
  have hbq : ∀ l m : List UInt8, beqL l m = (l == m) := beqL_eq
  have bad : ¬ BareD ⟨zxid, 8, ses, turn, xid, dtime, path, data, owner, ver, cver, tmo, err, cfg, mem⟩ parts.length → Value.bool false = .bool (decide (BareD ⟨zxid, 8, ses, turn, xid, dtime, path, data, owner, ver, cver, tmo, err, cfg, mem⟩ parts.length)) := fun hb => by rw [decide_eq_false hb]
  have good : ∀ b : Bool, (b = true ↔ BareD ⟨zxid, 8, ses, turn, xid, dtime, path, data, owner, ver, cver, tmo, err, cfg, mem⟩ parts.length) → Value.bool b = .bool (decide (BareD ⟨zxid, 8, ses, turn, xid, dtime, path, data, owner, ver, cver, tmo, err, cfg, mem⟩ parts.length)) := fun b hb => by
    congr 1
    rw [Bool.eq_iff_iff, hb, decide_eq_true_iff]
  conv => lhs; whnf
  repeat
    (refine split_b (fun h => ?_) (fun h => ?_)
     · conv => lhs; whnf
       exact (hD _).2 ⟨rfl, bad fun hB => by
         obtain ⟨b1, b2, b3, b4, b5, b6, b7, b8, b9⟩ := hB
         simp_all⟩
     conv => lhs; whnf
     )
  refine split_dec (fun hc => ?_) (fun hc => ?_) <;> (conv => lhs; whnf)
  · exact (hD _).2 ⟨rfl, good (decide ((mem.length : Int) = 0)) (by
      simp only [BareD]
      simp_all)⟩
  · exact (hD _).2 ⟨rfl, bad fun hB => by
      obtain ⟨b1, b2, b3, b4, b5, b6, b7, b8, b9⟩ := hB
      simp_all⟩

set_option maxRecDepth 100000 in
set_option maxHeartbeats 0 in
theorem bare9 (zxid ses turn xid dtime : Int) (path : ByteArray) (data : List UInt8) (owner ver cver tmo err cfg : Int) (mem : List MemD) (parts : List DeedD) (a7 a14 a15 : Option Addr) (k7 k14 k15 : Nat) (A : Arena) :
    Run Tryz.prog noC noL 60 49 [.v (.agg #[.int .i64 zxid, .int .u8 9, .int .i64 ses, .int .i64 turn, .int .i64 xid, .int .i64 dtime, .string path, .slice a7 data.length k7, .int .i64 owner, .int .i64 ver, .int .i64 cver, .int .i64 tmo, .int .i64 err, .int .i64 cfg, .slice a14 mem.length k14, .slice a15 parts.length k15])] A (endP bareS (.mk ⟨zxid, 9, ses, turn, xid, dtime, path, data, owner, ver, cver, tmo, err, cfg, mem⟩ parts) [.agg #[.int .i64 zxid, .int .u8 9, .int .i64 ses, .int .i64 turn, .int .i64 xid, .int .i64 dtime, .string path, .slice a7 data.length k7, .int .i64 owner, .int .i64 ver, .int .i64 cver, .int .i64 tmo, .int .i64 err, .int .i64 cfg, .slice a14 mem.length k14, .slice a15 parts.length k15]] A) := by
  intro blk os out tape D hD
  have hbq : ∀ l m : List UInt8, beqL l m = (l == m) := beqL_eq
  have bad : ¬ BareD ⟨zxid, 9, ses, turn, xid, dtime, path, data, owner, ver, cver, tmo, err, cfg, mem⟩ parts.length → Value.bool false = .bool (decide (BareD ⟨zxid, 9, ses, turn, xid, dtime, path, data, owner, ver, cver, tmo, err, cfg, mem⟩ parts.length)) := fun hb => by rw [decide_eq_false hb]
  have good : ∀ b : Bool, (b = true ↔ BareD ⟨zxid, 9, ses, turn, xid, dtime, path, data, owner, ver, cver, tmo, err, cfg, mem⟩ parts.length) → Value.bool b = .bool (decide (BareD ⟨zxid, 9, ses, turn, xid, dtime, path, data, owner, ver, cver, tmo, err, cfg, mem⟩ parts.length)) := fun b hb => by
    congr 1
    rw [Bool.eq_iff_iff, hb, decide_eq_true_iff]
  conv => lhs; whnf
  repeat
    (refine split_b (fun h => ?_) (fun h => ?_)
     · conv => lhs; whnf
       exact (hD _).2 ⟨rfl, bad fun hB => by
         obtain ⟨b1, b2, b3, b4, b5, b6, b7, b8, b9⟩ := hB
         simp_all⟩
     conv => lhs; whnf
     )
  refine split_dec (fun hc => ?_) (fun hc => ?_) <;> (conv => lhs; whnf)
  · exact (hD _).2 ⟨rfl, good (decide ((mem.length : Int) = 0)) (by
      simp only [BareD]
      simp_all)⟩
  · exact (hD _).2 ⟨rfl, bad fun hB => by
      obtain ⟨b1, b2, b3, b4, b5, b6, b7, b8, b9⟩ := hB
      simp_all⟩

set_option maxRecDepth 100000 in
set_option maxHeartbeats 0 in
theorem bareX (kind zxid ses turn xid dtime : Int) (path : ByteArray) (data : List UInt8) (owner ver cver tmo err cfg : Int) (mem : List MemD) (parts : List DeedD) (a7 a14 a15 : Option Addr) (k7 k14 k15 : Nat) (A : Arena) (n1 : ¬ kind = 1) (n2 : ¬ kind = 2) (n3 : ¬ kind = 3) (n4 : ¬ kind = 4) (n5 : ¬ kind = 5) (n6 : ¬ kind = 6) (n7 : ¬ kind = 7) (n8 : ¬ kind = 8) (n9 : ¬ kind = 9) :
    Run Tryz.prog noC noL 60 49 [.v (.agg #[.int .i64 zxid, .int .u8 kind, .int .i64 ses, .int .i64 turn, .int .i64 xid, .int .i64 dtime, .string path, .slice a7 data.length k7, .int .i64 owner, .int .i64 ver, .int .i64 cver, .int .i64 tmo, .int .i64 err, .int .i64 cfg, .slice a14 mem.length k14, .slice a15 parts.length k15])] A (endP bareS (.mk ⟨zxid, kind, ses, turn, xid, dtime, path, data, owner, ver, cver, tmo, err, cfg, mem⟩ parts) [.agg #[.int .i64 zxid, .int .u8 kind, .int .i64 ses, .int .i64 turn, .int .i64 xid, .int .i64 dtime, .string path, .slice a7 data.length k7, .int .i64 owner, .int .i64 ver, .int .i64 cver, .int .i64 tmo, .int .i64 err, .int .i64 cfg, .slice a14 mem.length k14, .slice a15 parts.length k15]] A) := by
  intro blk os out tape D hD
  have hbq : ∀ l m : List UInt8, beqL l m = (l == m) := beqL_eq
  have bad : ¬ BareD ⟨zxid, kind, ses, turn, xid, dtime, path, data, owner, ver, cver, tmo, err, cfg, mem⟩ parts.length → Value.bool false = .bool (decide (BareD ⟨zxid, kind, ses, turn, xid, dtime, path, data, owner, ver, cver, tmo, err, cfg, mem⟩ parts.length)) := fun hb => by rw [decide_eq_false hb]
  have good : ∀ b : Bool, (b = true ↔ BareD ⟨zxid, kind, ses, turn, xid, dtime, path, data, owner, ver, cver, tmo, err, cfg, mem⟩ parts.length) → Value.bool b = .bool (decide (BareD ⟨zxid, kind, ses, turn, xid, dtime, path, data, owner, ver, cver, tmo, err, cfg, mem⟩ parts.length)) := fun b hb => by
    congr 1
    rw [Bool.eq_iff_iff, hb, decide_eq_true_iff]
  have f1 : (!decide (kind = 1)) = true := by rw [decide_eq_false n1]; rfl
  have f2 : (!decide (kind = 2)) = true := by rw [decide_eq_false n2]; rfl
  have f3 : (!decide (kind = 3)) = true := by rw [decide_eq_false n3]; rfl
  have f4 : (!decide (kind = 4)) = true := by rw [decide_eq_false n4]; rfl
  have f5 : (!decide (kind = 5)) = true := by rw [decide_eq_false n5]; rfl
  have f6 : (!decide (kind = 6)) = true := by rw [decide_eq_false n6]; rfl
  have f7 : (!decide (kind = 7)) = true := by rw [decide_eq_false n7]; rfl
  have f8 : (!decide (kind = 8)) = true := by rw [decide_eq_false n8]; rfl
  have f9 : (!decide (kind = 9)) = true := by rw [decide_eq_false n9]; rfl
  conv => lhs; whnf
  repeat
    (first | refine no_dec n1 ?_ | refine no_dec n2 ?_ | refine no_dec n3 ?_ | refine no_dec n4 ?_ | refine no_dec n5 ?_ | refine no_dec n6 ?_ | refine no_dec n7 ?_ | refine no_dec n8 ?_ | refine no_dec n9 ?_ | refine go_b f1 ?_ | refine go_b f2 ?_ | refine go_b f3 ?_ | refine go_b f4 ?_ | refine go_b f5 ?_ | refine go_b f6 ?_ | refine go_b f7 ?_ | refine go_b f8 ?_ | refine go_b f9 ?_
     conv => lhs; whnf)
  repeat
    (refine split_b (fun h => ?_) (fun h => ?_)
     · conv => lhs; whnf
       exact (hD _).2 ⟨rfl, bad fun hB => by
         obtain ⟨b1, b2, b3, b4, b5, b6, b7, b8, b9⟩ := hB
         simp_all⟩
     conv => lhs; whnf
     repeat
       (first | refine no_dec n1 ?_ | refine no_dec n2 ?_ | refine no_dec n3 ?_ | refine no_dec n4 ?_ | refine no_dec n5 ?_ | refine no_dec n6 ?_ | refine no_dec n7 ?_ | refine no_dec n8 ?_ | refine no_dec n9 ?_ | refine go_b f1 ?_ | refine go_b f2 ?_ | refine go_b f3 ?_ | refine go_b f4 ?_ | refine go_b f5 ?_ | refine go_b f6 ?_ | refine go_b f7 ?_ | refine go_b f8 ?_ | refine go_b f9 ?_
        conv => lhs; whnf)
     )
  refine split_dec (fun hc => ?_) (fun hc => ?_) <;> (conv => lhs; whnf)
  · exact (hD _).2 ⟨rfl, good (decide ((mem.length : Int) = 0)) (by
      simp only [BareD]
      simp_all)⟩
  · exact (hD _).2 ⟨rfl, bad fun hB => by
      obtain ⟨b1, b2, b3, b4, b5, b6, b7, b8, b9⟩ := hB
      simp_all⟩

theorem bare_ok : FOk Tryz.prog 49 bareS := by
  refine fok_v mixed fun d vs A hp => ?_
  obtain ⟨cs, rfl, hR⟩ : ∃ cs, vs = [deedV cs] ∧ DeedR A d cs := hp
  obtain ⟨⟨zxid, kind, ses, turn, xid, dtime, path, data, owner, ver, cver, tmo, err, cfg, mem⟩, parts⟩ := d
  rw [DeedR] at hR
  dsimp only [DeedH.cells] at hR
  obtain ⟨vd, vm, vp, rws, rfl, -, hd1, hM, hSp, hlen2, hRows⟩ := hR
  obtain ⟨a7, k7, rfl⟩ := hd1.1.form
  obtain ⟨a14, k14, rfl⟩ := hM.1.form
  obtain ⟨a15, k15, rfl⟩ := hSp.form
  refine ⟨noC, noL, 60, noC_sound _, noL_sound _, ?_⟩
  by_cases n1 : kind = 1
  · subst n1
    exact bare1 _ _ _ _ _ _ _ _ _ _ _ _ _ _ _ _ _ _ _ _ _ _
  by_cases n2 : kind = 2
  · subst n2
    exact bare2 _ _ _ _ _ _ _ _ _ _ _ _ _ _ _ _ _ _ _ _ _ _
  by_cases n3 : kind = 3
  · subst n3
    exact bare3 _ _ _ _ _ _ _ _ _ _ _ _ _ _ _ _ _ _ _ _ _ _
  by_cases n4 : kind = 4
  · subst n4
    exact bare4 _ _ _ _ _ _ _ _ _ _ _ _ _ _ _ _ _ _ _ _ _ _
  by_cases n5 : kind = 5
  · subst n5
    exact bare5 _ _ _ _ _ _ _ _ _ _ _ _ _ _ _ _ _ _ _ _ _ _
  by_cases n6 : kind = 6
  · subst n6
    exact bare6 _ _ _ _ _ _ _ _ _ _ _ _ _ _ _ _ _ _ _ _ _ _
  by_cases n7 : kind = 7
  · subst n7
    exact bare7 _ _ _ _ _ _ _ _ _ _ _ _ _ _ _ _ _ _ _ _ _ _
  by_cases n8 : kind = 8
  · subst n8
    exact bare8 _ _ _ _ _ _ _ _ _ _ _ _ _ _ _ _ _ _ _ _ _ _
  by_cases n9 : kind = 9
  · subst n9
    exact bare9 _ _ _ _ _ _ _ _ _ _ _ _ _ _ _ _ _ _ _ _ _ _
  exact bareX _ _ _ _ _ _ _ _ _ _ _ _ _ _ _ _ _ _ _ _ _ _ _ n1 n2 n3 n4 n5 n6 n7 n8 n9

end
end Go.Proofs.YtbebacffaljckaaGreatDoor

namespace Go.Proofs.YtbebacffaljckaaGreatDoor
open Go.Sx Go.RowKit
noncomputable section
open Classical

/-- Is a create, a delete, a set as the table says? -/
def RNodeD (h : DeedH) (np : Nat) : Prop :=
  BareD h np ∧ pathOk h.path.data.toList = true ∧ h.data.length ≤ 1000 ∧ 0 ≤ h.owner ∧ 0 ≤ h.cver ∧ 0 ≤ h.ver ∧ (h.kind = 3 ∨ ((h.kind = 1 ∨ h.kind = 2) ∧ h.path.data.toList ≠ [47]))

def rnodeS : FSpec := ⟨DeedD, fun d vs A => ∃ cs, vs = [deedV cs] ∧ DeedR A d cs, fun d _ A v A' => A.Sub A' ∧ v = .bool (decide (RNodeD d.h d.parts.length))⟩

set_option maxRecDepth 100000 in
set_option maxHeartbeats 0 in
theorem rnode_ok : FOk Tryz.prog 50 rnodeS := by
  refine fok_v mixed fun d vs A hp => ?_
  obtain ⟨cs, rfl, hR⟩ : ∃ cs, vs = [deedV cs] ∧ DeedR A d cs := hp
  have hR0 := hR
  obtain ⟨⟨zxid, kind, ses, turn, xid, dtime, path, data, owner, ver, cver, tmo, err, cfg, mem⟩, parts⟩ := d
  rw [DeedR] at hR
  dsimp only [DeedH.cells] at hR
  obtain ⟨vd, vm, vp, rws, rfl, hpl, hd1, hM, hSp, hlen2, hRows⟩ := hR
  obtain ⟨a7, k7, rfl⟩ := hd1.1.form
  obtain ⟨a14, k14, rfl⟩ := hM.1.form
  obtain ⟨a15, k15, rfl⟩ := hSp.form
  have hC : CTSound Tryz.prog (lookC [specE 49 bareS, specE 59 refCheckS] noC) := lookC_sound (noC_sound _) (fun x hx => by
    simp only [List.mem_cons, List.not_mem_nil, or_false] at hx
    rcases hx with rfl | rfl
    · exact specE_ok bare_ok
    · exact specE_ok refCheck_ok)
  refine ⟨_, noL, 60, hC, noL_sound _, fun blk os out tape D hD => ?_⟩
  obtain ⟨h, hh⟩ : ∃ h : DeedH, h = ⟨zxid, kind, ses, turn, xid, dtime, path, data, owner, ver, cver, tmo, err, cfg, mem⟩ := ⟨_, rfl⟩
  have bad : ∀ A2, A.Sub A2 → ¬ RNodeD ⟨zxid, kind, ses, turn, xid, dtime, path, data, owner, ver, cver, tmo, err, cfg, mem⟩ parts.length → A.Sub A2 ∧ Value.bool false = .bool (decide (RNodeD ⟨zxid, kind, ses, turn, xid, dtime, path, data, owner, ver, cver, tmo, err, cfg, mem⟩ parts.length)) := fun A2 h2 hb => ⟨h2, by rw [decide_eq_false hb]⟩
  have good : ∀ A2 (b : Bool), A.Sub A2 → (b = true ↔ RNodeD ⟨zxid, kind, ses, turn, xid, dtime, path, data, owner, ver, cver, tmo, err, cfg, mem⟩ parts.length) → A.Sub A2 ∧ Value.bool b = .bool (decide (RNodeD ⟨zxid, kind, ses, turn, xid, dtime, path, data, owner, ver, cver, tmo, err, cfg, mem⟩ parts.length)) := fun A2 b h2 hb => ⟨h2, by
    congr 1
    rw [Bool.eq_iff_iff, hb, decide_eq_true_iff]⟩
  conv => lhs; whnf
  refine (hD _).2 ⟨(.mk ⟨zxid, kind, ses, turn, xid, dtime, path, data, owner, ver, cver, tmo, err, cfg, mem⟩ parts : DeedD), ⟨_, rfl, hR0⟩, fun v A9 hq => ?_⟩
  have hq : A9 = A ∧ v = .bool (decide (BareD ⟨zxid, kind, ses, turn, xid, dtime, path, data, owner, ver, cver, tmo, err, cfg, mem⟩ parts.length)) := hq
  have h9 := hq.1.symm
  have hv := hq.2
  subst h9
  by_cases hb : BareD ⟨zxid, kind, ses, turn, xid, dtime, path, data, owner, ver, cver, tmo, err, cfg, mem⟩ parts.length
  rotate_left
  · rw [decide_eq_false hb] at hv
    subst hv
    conv => lhs; whnf
    exact (hD _).2 (bad A (Arena.Sub.refl _) fun hB => hb hB.1)
  rw [decide_eq_true hb] at hv
  subst hv
  conv => lhs; whnf
  refine (hD _).2 ⟨path, ⟨rfl, hpl⟩, fun v A1 hq => ?_⟩
  have hq : A.Sub A1 ∧ v = .bool (pathOk path.data.toList) := hq
  obtain ⟨s1, hv⟩ := hq
  by_cases hpk : pathOk path.data.toList = true
  rotate_left
  · have hpk' : pathOk path.data.toList = false := by simpa using hpk
    rw [hpk'] at hv
    subst hv
    conv => lhs; whnf
    exact (hD _).2 (bad A1 s1 fun hB => hpk hB.2.1)
  rw [hpk] at hv
  subst hv
  conv => lhs; whnf
  refine split_dec (fun h1 => ?_) (fun h1 => ?_) <;> (conv => lhs; whnf)
  · exact (hD _).2 (bad A1 s1 fun hB => by
      have h2 := hB.2.2.1
      dsimp only at h2
      have h1 : (1000 : Int) < (data.length : Int) := h1
      omega)
  refine split_dec (fun h2 => ?_) (fun h2 => ?_) <;> (conv => lhs; whnf)
  · exact (hD _).2 (bad A1 s1 fun hB => by
      have h3 := hB.2.2.2.1
      dsimp only at h3
      omega)
  refine split_dec (fun h3 => ?_) (fun h3 => ?_) <;> (conv => lhs; whnf)
  · exact (hD _).2 (bad A1 s1 fun hB => by
      have h4 := hB.2.2.2.2.1
      dsimp only at h4
      omega)
  refine split_dec (fun h4 => ?_) (fun h4 => ?_) <;> (conv => lhs; whnf)
  · exact (hD _).2 (bad A1 s1 fun hB => by
      have h5 := hB.2.2.2.2.2.1
      dsimp only at h5
      omega)
  have hrest : RNodeD ⟨zxid, kind, ses, turn, xid, dtime, path, data, owner, ver, cver, tmo, err, cfg, mem⟩ parts.length ↔ (kind = 3 ∨ ((kind = 1 ∨ kind = 2) ∧ path.data.toList ≠ [47])) := by
    have h1 : ¬ (1000 : Int) < (data.length : Int) := h1
    refine ⟨fun h => h.2.2.2.2.2.2, fun h => ⟨hb, hpk, by show data.length ≤ 1000; omega, by show 0 ≤ owner; omega, by show 0 ≤ cver; omega, by show 0 ≤ ver; omega, h⟩⟩
  have hfin : (kind = 1 ∨ kind = 2) → A.Sub A1 ∧ Value.bool (!beqL path.data.toList [47]) = .bool (decide (RNodeD ⟨zxid, kind, ses, turn, xid, dtime, path, data, owner, ver, cver, tmo, err, cfg, mem⟩ parts.length)) := fun hk => good A1 _ s1 (by
    rw [hrest, beqL_eq]
    constructor
    · intro h5
      exact .inr ⟨hk, by simpa using h5⟩
    · rintro (h5 | h5)
      · omega
      · simpa using h5.2)
  refine split_dec (fun h5 => ?_) (fun h5 => ?_) <;> (conv => lhs; whnf)
  · exact (hD _).2 (good A1 true s1 (by rw [hrest]; exact ⟨fun _ => .inl h5, fun _ => rfl⟩))
  refine split_dec (fun h6 => ?_) (fun h6 => ?_) <;> (conv => lhs; whnf)
  · exact (hD _).2 (hfin (.inl h6))
  refine split_dec (fun h7 => ?_) (fun h7 => ?_) <;> (conv => lhs; whnf)
  · exact (hD _).2 (hfin (.inr h7))
  · exact (hD _).2 (bad A1 s1 fun hB => by
      rcases hrest.1 hB with h8 | ⟨h8 | h8, _⟩
      · exact h5 h8
      · exact h6 h8
      · exact h7 h8)

/-! ### Parts -/

/-- May a deed be a part? -/
def RPartD (all : Bool) (p : DeedD) : Prop := p.h.zxid = 0 ∧ p.h.ses = 0 ∧ p.h.turn = 0 ∧ p.h.xid = 0 ∧ p.h.time = 0 ∧ RNodeD p.h p.parts.length ∧ (all = true ∨ p.h.kind = 2)
def RPartsD (ds : List DeedD) (least most : Int) (all : Bool) : Prop := least ≤ ds.length ∧ (ds.length : Int) ≤ most ∧ ∀ p ∈ ds, RPartD all p

structure RpG where
  k : Nat
  A : Arena

def rpartsInv (A0 : Arena) (ds : List DeedD) (all : Bool) : LInv := { γ := RpG, G := fun s => s.k ≤ ds.length ∧ A0.Sub s.A ∧ ∀ p ∈ ds.take s.k, RPartD all p, keepS := [0, 3], keepB := [], sl := fun s => [(9, .v (.int .i64 s.k))], bl := fun _ => [], ar := fun s => s.A, mu := fun s => ds.length - s.k }

def rpartsS : FSpec := ⟨List DeedD × Int × Int × Bool, fun g vs A => ∃ v, vs = [v, .int .i64 g.2.1, .int .i64 g.2.2.1, .bool g.2.2.2] ∧ DeedsS A v g.1, fun g _ A v A' => A.Sub A' ∧ v = .bool (decide (RPartsD g.1 g.2.1 g.2.2.1 g.2.2.2))⟩

set_option maxRecDepth 100000 in
set_option maxHeartbeats 0 in
theorem rparts_ok : FOk Tryz.prog 51 rpartsS := by
  refine fok_v mixed fun ⟨ds, least, most, all⟩ vs A hp => ?_
  obtain ⟨v, rfl, ⟨rows, hS, hlen, hR⟩⟩ : ∃ v, vs = [v, .int .i64 least, .int .i64 most, .bool all] ∧ DeedsS A v ds := hp
  obtain ⟨ao, c, rfl, hc, hl, ha1, ha2, ha3⟩ := hS
  have hC : CTSound Tryz.prog (lookC [specE 50 rnodeS] noC) := lookC_sound (noC_sound _) (fun x hx => by
    simp only [List.mem_singleton] at hx
    subst hx; exact specE_ok rnode_ok)
  refine ⟨_, tabO Tryz.prog _ noL 60 [(51, 0)], 60, hC, tabO_sound mixed hC (noL_sound _) _ _, fun blk os out tape D hD => ?_⟩
  have bad : ∀ A2, A.Sub A2 → ¬ RPartsD ds least most all → A.Sub A2 ∧ Value.bool false = .bool (decide (RPartsD ds least most all)) := fun A2 h2 hb => ⟨h2, by rw [decide_eq_false hb]⟩
  conv => lhs; whnf
  refine split_dec (fun h1 => ?_) (fun h1 => ?_) <;> (conv => lhs; whnf)
  · exact (hD _).2 (bad A (Arena.Sub.refl _) fun hB => by
      have h2 := hB.1
      have h1 : (ds.length : Int) < least := h1
      omega)
  refine split_dec (fun h2 => ?_) (fun h2 => ?_) <;> (conv => lhs; whnf)
  · exact (hD _).2 (bad A (Arena.Sub.refl _) fun hB => by
      have h3 := hB.2.1
      have h2 : most < (ds.length : Int) := h2
      omega)
  refine (hD _).2 ⟨rpartsInv A ds all, ⟨(⟨0, A⟩ : RpG), ⟨Nat.zero_le _, Arena.Sub.refl _, fun _ h => (by cases h)⟩, ⟨rfl, trivial⟩, trivial, rfl⟩, fun (s : RpG) hG => ⟨⟨trivial, trivial⟩, trivial, ?_⟩⟩
  obtain ⟨k, Ak⟩ := s
  obtain ⟨hk, hAk, hall⟩ : k ≤ ds.length ∧ A.Sub Ak ∧ ∀ p ∈ ds.take k, RPartD all p := hG
  conv => lhs; whnf
  refine split_dec (fun hlt => ?_) (fun hlt => ?_) <;> (conv => lhs; whnf)
  rotate_left
  · have e : k = ds.length := by
      have hlt : ¬ (k : Int) < (ds.length : Int) := hlt
      omega
    rw [e, List.take_length] at hall
    have h1 : ¬ (ds.length : Int) < least := h1
    have h2 : ¬ most < (ds.length : Int) := h2
    have hend : rpartsS.post (ds, least, most, all) [] A (.bool true) Ak := ⟨hAk, by
      show Value.bool true = .bool (decide (RPartsD ds least most all))
      rw [decide_eq_true ⟨by omega, by omega, hall⟩]⟩
    exact (hD _).2 hend
  have hkl : k < ds.length := by
    have hlt : (k : Int) < (ds.length : Int) := hlt
    omega
  obtain ⟨g0, o, rfl, hra⟩ := Sl.at_ hc ha1 ha2 ha3 (by omega)
  obtain ⟨cs, r1, hR1⟩ := deed_at hra hR k hkl rfl
  obtain ⟨d, hd⟩ : ∃ d, d = ds[k] := ⟨_, rfl⟩
  rw [← hd] at hR1
  have hmem : d ∈ ds := by rw [hd]; exact List.getElem_mem _
  have htk : ds.take (k + 1) = ds.take k ++ [d] := by rw [List.take_succ_eq_append_getElem hkl, ← hd]
  have hbad2 : ∀ A2, A.Sub A2 → ¬ RPartD all d → A.Sub A2 ∧ Value.bool false = .bool (decide (RPartsD ds least most all)) := fun A2 h2 hn => bad A2 h2 fun hB => hn (hB.2.2 d hmem)
  obtain ⟨⟨zxid, kind, ses, turn, xid, dtime, path, data, owner, ver, cver, tmo, err, cfg, mem⟩, parts⟩ := d
  have hR0 := hR1
  rw [DeedR] at hR1
  dsimp only [DeedH.cells] at hR1
  obtain ⟨vd, vm, vp, rws, rfl, -, hd1, hM, hSp, hlen2, hRows⟩ := hR1
  obtain ⟨a7, k7, rfl⟩ := hd1.1.form
  obtain ⟨a14, k14, rfl⟩ := hM.1.form
  obtain ⟨a15, k15, rfl⟩ := hSp.form
  have r2 := rd_sub hAk r1
  have i0 : (0 : Int) ≤ (k : Int) ∧ (k : Int) < (ds.length : Int) := by omega
  repeat (first | refine go_in i0 ?_ | refine go_rd r2 ?_
          conv => lhs; whnf)
  refine split_b (fun h => ?_) (fun h3 => ?_) <;> (conv => lhs; whnf)
  · exact (hD _).2 (hbad2 Ak hAk fun hP => by
      have := hP.1
      simp at h
      exact h this)
  refine split_b (fun h => ?_) (fun h4 => ?_) <;> (conv => lhs; whnf)
  · exact (hD _).2 (hbad2 Ak hAk fun hP => by
      have := hP.2.1
      simp at h
      exact h this)
  refine split_b (fun h => ?_) (fun h5 => ?_) <;> (conv => lhs; whnf)
  · exact (hD _).2 (hbad2 Ak hAk fun hP => by
      have := hP.2.2.1
      simp at h
      exact h this)
  refine split_b (fun h => ?_) (fun h6 => ?_) <;> (conv => lhs; whnf)
  · exact (hD _).2 (hbad2 Ak hAk fun hP => by
      have := hP.2.2.2.1
      simp at h
      exact h this)
  refine split_b (fun h => ?_) (fun h7 => ?_) <;> (conv => lhs; whnf)
  · exact (hD _).2 (hbad2 Ak hAk fun hP => by
      have := hP.2.2.2.2.1
      simp at h
      exact h this)
  simp at h3 h4 h5 h6 h7
  refine (hD _).2 ⟨(.mk ⟨zxid, kind, ses, turn, xid, dtime, path, data, owner, ver, cver, tmo, err, cfg, mem⟩ parts : DeedD), ⟨_, rfl, DeedR.sub hAk _ _ hR0⟩, fun v A1 hq => ?_⟩
  have hq : Ak.Sub A1 ∧ v = .bool (decide (RNodeD ⟨zxid, kind, ses, turn, xid, dtime, path, data, owner, ver, cver, tmo, err, cfg, mem⟩ parts.length)) := hq
  obtain ⟨s1, hv⟩ := hq
  have hA1 := hAk.trans s1
  by_cases hn : RNodeD ⟨zxid, kind, ses, turn, xid, dtime, path, data, owner, ver, cver, tmo, err, cfg, mem⟩ parts.length
  rotate_left
  · rw [decide_eq_false hn] at hv
    subst hv
    conv => lhs; whnf
    exact (hD _).2 (hbad2 A1 hA1 fun hP => hn hP.2.2.2.2.2.1)
  rw [decide_eq_true hn] at hv
  subst hv
  have hgo : (all = true ∨ kind = 2) → (rpartsInv A ds all).G (⟨k + 1, A1⟩ : RpG) := fun ha => ⟨hkl, hA1, fun p hp => by
    rw [htk] at hp
    rcases List.mem_append.1 hp with hp | hp
    · exact hall p hp
    · simp only [List.mem_singleton] at hp
      subst hp
      exact ⟨h3, h4, h5, h6, h7, hn, ha⟩⟩
  conv => lhs; whnf
  cases all
  · conv => lhs; whnf
    refine split_b (fun h => ?_) (fun h8 => ?_) <;> (conv => lhs; whnf)
    · exact (hD _).2 (hbad2 A1 hA1 fun hP => by
        rcases hP.2.2.2.2.2.2 with h9 | h9
        · cases h9
        · simp at h
          exact h h9)
    · simp at h8
      exact (hD _).2 ⟨(⟨k + 1, A1⟩ : RpG), ⟨hgo (.inr h8), ⟨inc_slot (k := k) (by omega), trivial⟩, trivial, rfl⟩, by show ds.length - (k + 1) < ds.length - k; omega, ⟨same1 rfl rfl, same1 rfl rfl, trivial⟩, trivial⟩
  · conv => lhs; whnf
    exact (hD _).2 ⟨(⟨k + 1, A1⟩ : RpG), ⟨hgo (.inl rfl), ⟨inc_slot (k := k) (by omega), trivial⟩, trivial, rfl⟩, by show ds.length - (k + 1) < ds.length - k; omega, ⟨same1 rfl rfl, same1 rfl rfl, trivial⟩, trivial⟩

end
end Go.Proofs.YtbebacffaljckaaGreatDoor

namespace Go.Proofs.YtbebacffaljckaaGreatDoor
open Go.Sx Go.RowKit
noncomputable section
open Classical

def MemOk (m : MemD) : Prop := 1 ≤ m.id ∧ m.id ≤ 7 ∧ ((m.role = 2 ∧ m.weight = 0 ∧ m.group = 0) ∨ (m.role = 1 ∧ 0 ≤ m.weight ∧ m.weight ≤ 1000 ∧ 0 ≤ m.group ∧ m.group < 7))

theorem memOk_iff {last : Int} (h0 : 0 ≤ last) (m : MemD) : memberOk last m = true ↔ MemOk m ∧ last < m.id := by
  rw [memberOk_iff]
  unfold MemOk
  constructor
  · rintro ⟨h1, h2, h3⟩
    exact ⟨⟨by omega, h2, h3⟩, h1⟩
  · rintro ⟨⟨_, h2, h3⟩, h1⟩
    exact ⟨h1, h2, h3⟩

def rmemS : FSpec := ⟨MemD, fun m vs _ => vs = [.agg #[.int .i64 m.id, .int .u8 m.role, .int .i64 m.weight, .int .i64 m.group]], fun m _ A v A' => A' = A ∧ v = .bool (decide (MemOk m))⟩

set_option maxRecDepth 100000 in
set_option maxHeartbeats 0 in
theorem rmem_ok : FOk Tryz.prog 70 rmemS := by
  refine fok_v mixed fun ⟨id, role, weight, group⟩ vs A hp => ?_
  obtain rfl : vs = [.agg #[.int .i64 id, .int .u8 role, .int .i64 weight, .int .i64 group]] := hp
  refine ⟨noC, noL, 60, noC_sound _, noL_sound _, fun blk os out tape D hD => ?_⟩
  have bad : ¬ MemOk ⟨id, role, weight, group⟩ → A = A ∧ Value.bool false = .bool (decide (MemOk ⟨id, role, weight, group⟩)) := fun hb => ⟨rfl, by rw [decide_eq_false hb]⟩
  have good : ∀ b : Bool, (b = true ↔ MemOk ⟨id, role, weight, group⟩) → A = A ∧ Value.bool b = .bool (decide (MemOk ⟨id, role, weight, group⟩)) := fun b hb => ⟨rfl, by
    congr 1
    rw [Bool.eq_iff_iff, hb, decide_eq_true_iff]⟩
  conv => lhs; whnf
  refine split_dec (fun h1 => ?_) (fun h1 => ?_) <;> (conv => lhs; whnf)
  · exact (hD _).2 (bad fun hB => by unfold MemOk at hB; dsimp only at hB; omega)
  refine split_dec (fun h2 => ?_) (fun h2 => ?_) <;> (conv => lhs; whnf)
  · exact (hD _).2 (bad fun hB => by unfold MemOk at hB; dsimp only at hB; omega)
  refine split_dec (fun h3 => ?_) (fun h3 => ?_) <;> (conv => lhs; whnf)
  · refine split_dec (fun h4 => ?_) (fun h4 => ?_) <;> (conv => lhs; whnf)
    · exact (hD _).2 (good (decide (group = 0)) (by unfold MemOk; simp only [decide_eq_true_iff]; omega))
    · exact (hD _).2 (bad fun hB => by unfold MemOk at hB; dsimp only at hB; omega)
  refine split_dec (fun h4 => ?_) (fun h4 => ?_) <;> (conv => lhs; whnf)
  rotate_left
  · exact (hD _).2 (bad fun hB => by unfold MemOk at hB; dsimp only at hB; omega)
  refine split_dec (fun h5 => ?_) (fun h5 => ?_) <;> (conv => lhs; whnf)
  rotate_left
  · exact (hD _).2 (bad fun hB => by unfold MemOk at hB; dsimp only at hB; omega)
  refine split_dec (fun h6 => ?_) (fun h6 => ?_) <;> (conv => lhs; whnf)
  rotate_left
  · exact (hD _).2 (bad fun hB => by unfold MemOk at hB; dsimp only at hB; omega)
  refine split_dec (fun h7 => ?_) (fun h7 => ?_) <;> (conv => lhs; whnf)
  rotate_left
  · exact (hD _).2 (bad fun hB => by unfold MemOk at hB; dsimp only at hB; omega)
  exact (hD _).2 (good (decide (group < 7)) (by unfold MemOk; simp only [decide_eq_true_iff]; omega))

theorem ensGo_snoc : ∀ (xs : List MemD) (l w : Int) (m : MemD), ensGo l w (xs ++ [m]) = match ensGo l w xs with
    | some (l', w') => if memberOk l' m = true then some (m.id, w' + m.weight) else none
    | none => none
  | [], l, w, m => by
    show (if memberOk l m = true then ensGo m.id (w + m.weight) [] else none) = _
    rfl
  | x :: xs, l, w, m => by
    show (if memberOk l x = true then ensGo x.id (w + x.weight) (xs ++ [m]) else none) = match (if memberOk l x = true then ensGo x.id (w + x.weight) xs else none) with
      | some (l', w') => if memberOk l' m = true then some (m.id, w' + m.weight) else none
      | none => none
    by_cases h : memberOk l x = true
    · rw [if_pos h, if_pos h, ensGo_snoc xs]
    · rw [if_neg h, if_neg h]

theorem ensGo_app : ∀ (xs ys : List MemD) (l w : Int), ensGo l w xs = none → ensGo l w (xs ++ ys) = none
  | [], _, _, _, h => by cases h
  | x :: xs, ys, l, w, h => by
    have h : (if memberOk l x = true then ensGo x.id (w + x.weight) xs else none) = none := h
    show (if memberOk l x = true then ensGo x.id (w + x.weight) (xs ++ ys) else none) = none
    by_cases hm : memberOk l x = true
    · rw [if_pos hm] at h ⊢
      exact ensGo_app xs ys _ _ h
    · rw [if_neg hm]

structure EnI (ms : List MemD) (s : Nat × Int) : Prop where
  le : s.1 ≤ ms.length
  go : ∃ last, ensGo 0 0 (ms.take s.1) = some (last, s.2) ∧ (s.1 = 0 → last = 0) ∧ (∀ h : s.1 - 1 < ms.length, 0 < s.1 → last = ms[s.1 - 1].id ∧ 1 ≤ last)
  lo : 0 ≤ s.2
  hi : s.2 ≤ 1000 * s.1

def renInv (A : Arena) (ms : List MemD) : LInv := { γ := Nat × Int, G := EnI ms, keepS := [1], keepB := [0], sl := fun s => [(3, .v (.int .i64 s.2)), (4, .v (.int .i64 s.1))], bl := fun _ => [], ar := fun _ => A, mu := fun s => ms.length - s.1 }

def renS : FSpec := ⟨Int × List MemD, fun g vs A => ∃ vm, vs = [.agg #[.int .i64 g.1, vm]] ∧ MemR A vm g.2, fun g _ A v A' => A' = A ∧ ∃ z, v = .int .i64 z ∧ (z = 0 ↔ ensD g.1 g.2 = 0)⟩

set_option maxRecDepth 100000 in
set_option maxHeartbeats 0 in
theorem ren_ok : FOk Tryz.prog 52 renS := by
  refine fok_v mixed fun ⟨ver, ms⟩ vs A hp => ?_
  obtain ⟨vm, rfl, ⟨ao, c, rfl, hc, hml, ha1, ha2, ha3⟩, hm32⟩ : ∃ vm, vs = [.agg #[.int .i64 ver, vm]] ∧ MemR A vm ms := hp
  have hC : CTSound Tryz.prog (lookC [specE 70 rmemS] noC) := lookC_sound (noC_sound _) (fun x hx => by
    simp only [List.mem_singleton] at hx
    subst hx; exact specE_ok rmem_ok)
  refine ⟨_, tabO Tryz.prog _ noL 60 [(52, 0)], 60, hC, tabO_sound mixed hC (noL_sound _) _ _, fun blk os out tape D hD => ?_⟩
  have hend : ∀ z : Int, (z = 0 ↔ ensD ver ms = 0) → A = A ∧ ∃ z', Value.int .i64 z = .int .i64 z' ∧ (z' = 0 ↔ ensD ver ms = 0) := fun z h => ⟨rfl, z, rfl, h⟩
  conv => lhs; whnf
  refine split_dec (fun h7 => ?_) (fun h7 => ?_) <;> (conv => lhs; whnf)
  · have h7 : (7 : Int) < (ms.length : Int) := h7
    exact (hD _).2 (hend 3 (by
      unfold ensD
      rw [if_pos (by omega)]))
  have h7 : ms.length ≤ 7 := by
    have h7 : ¬ (7 : Int) < (ms.length : Int) := h7
    omega
  have hI0 : EnI ms (0, 0) := ⟨Nat.zero_le _, ⟨0, rfl, fun _ => rfl, fun _ h => absurd h (Nat.lt_irrefl _)⟩, Int.le_refl _, Int.le_refl _⟩
  refine (hD _).2 ⟨renInv A ms, ⟨((0, 0) : Nat × Int), hI0, ⟨rfl, rfl, trivial⟩, trivial, rfl⟩, fun (s : Nat × Int) hG => ⟨⟨trivial, trivial, trivial⟩, trivial, ?_⟩⟩
  obtain ⟨k, w⟩ := s
  obtain ⟨hk, ⟨last, hgo, hl0, hl1⟩, hw0, hw1⟩ : EnI ms (k, w) := hG
  dsimp only at hk hgo hl0 hl1 hw0 hw1
  conv => lhs; whnf
  refine split_dec (fun hlt => ?_) (fun hlt => ?_) <;> (conv => lhs; whnf)
  rotate_left
  · have e : k = ms.length := by
      have hlt : ¬ (k : Int) < (ms.length : Int) := hlt
      omega
    rw [e, List.take_length] at hgo
    have hen : ensD ver ms = 0 ↔ ¬ (w = 0 ∨ ver < 0 ∨ 4611686018427387904 < ver) := by
      unfold ensD
      rw [if_neg (by omega), hgo]
      dsimp only
      by_cases h : w = 0 ∨ ver < 0 ∨ 4611686018427387904 < ver
      · rw [if_pos h]
        simp [h]
      · rw [if_neg h]
        simp [h]
    refine split_dec (fun h1 => ?_) (fun h1 => ?_) <;> (conv => lhs; whnf)
    · exact (hD _).2 (hend 140 (by rw [hen]; omega))
    refine split_dec (fun h2 => ?_) (fun h2 => ?_) <;> (conv => lhs; whnf)
    · exact (hD _).2 (hend 140 (by rw [hen]; omega))
    refine split_dec (fun h3 => ?_) (fun h3 => ?_) <;> (conv => lhs; whnf)
    · exact (hD _).2 (hend 140 (by rw [hen]; omega))
    · exact (hD _).2 (hend 0 (by rw [hen]; omega))
  have hkl : k < ms.length := by
    have hlt : (k : Int) < (ms.length : Int) := hlt
    omega
  obtain ⟨g0, o, rfl, hra⟩ := Sl.at_ hc ha1 ha2 ha3 (by omega)
  have r1 := mem_at hra k hkl rfl
  have r1i : A.rd g0 (o + k * 4) 1 = some [.int .i64 ms[k].id] := rd_at r1 (i := 0) (m := 1) (by omega)
  have r1w : A.rd g0 (o + k * 4 + 2) 1 = some [.int .i64 ms[k].weight] := rd_at r1 (i := 2) (m := 1) (by omega)
  have i0 : (0 : Int) ≤ (k : Int) ∧ (k : Int) < (ms.length : Int) := by omega
  have hlast : 0 ≤ last := by
    rcases Nat.eq_zero_or_pos k with h | h
    · rw [hl0 h]
      exact Int.le_refl _
    · have := (hl1 (by omega) h).2
      omega
  have hsn : ensGo 0 0 (ms.take (k + 1)) = if memberOk last ms[k] = true then some (ms[k].id, w + ms[k].weight) else none := by
    rw [List.take_succ_eq_append_getElem hkl, ensGo_snoc, hgo]
  have hnone : memberOk last ms[k] ≠ true → ensD ver ms = 140 := fun h => by
    rw [if_neg h] at hsn
    have h2 := ensGo_app (ms.take (k + 1)) (ms.drop (k + 1)) 0 0 hsn
    rw [List.take_append_drop] at h2
    unfold ensD
    rw [if_neg (by omega), h2]
  have hmo := memOk_iff hlast ms[k]
  repeat (first | refine go_in i0 ?_ | refine go_rd r1 ?_
          conv => lhs; whnf)
  refine (hD _).2 ⟨ms[k], rfl, fun v A9 hq => ?_⟩
  have hq : A9 = A ∧ v = .bool (decide (MemOk ms[k])) := hq
  have h9 := hq.1.symm
  have hv := hq.2
  subst h9
  by_cases hm : MemOk ms[k]
  rotate_left
  · rw [decide_eq_false hm] at hv
    subst hv
    conv => lhs; whnf
    exact (hD _).2 (hend 140 (by rw [hnone fun h => hm (hmo.1 h).1]))
  rw [decide_eq_true hm] at hv
  subst hv
  have hwt : 0 ≤ ms[k].weight ∧ ms[k].weight ≤ 1000 := by
    rcases hm.2.2 with h | h <;> omega
  have hgood : last < ms[k].id → EnI ms (k + 1, w + ms[k].weight) := fun hlt2 => by
    rw [if_pos (hmo.2 ⟨hm, hlt2⟩)] at hsn
    exact ⟨hkl, ⟨ms[k].id, hsn, fun h => absurd h (Nat.succ_ne_zero k), fun h _ => ⟨rfl, hm.1⟩⟩, by show 0 ≤ w + ms[k].weight; omega, by show w + ms[k].weight ≤ 1000 * ((k + 1 : Nat) : Int); omega⟩
  conv => lhs; whnf
  have hww : IntKind.i64.wrap (w + ms[k].weight) = w + ms[k].weight := by
    rw [Sx.wrap_i64 (by omega) (by omega)]
  refine split_dec (fun h0 => ?_) (fun h0 => ?_) <;> (conv => lhs; whnf)
  · have hk0 : 0 < k := by
      have h0 : (0 : Int) < (k : Int) := h0
      omega
    have hk1 : k - 1 < ms.length := by omega
    have hx : IntKind.i64.wrap ((k : Int) - 1) = ((k - 1 : Nat) : Int) := by
      rw [Sx.wrap_i64 (by omega) (by omega)]; omega
    have hin1 : (0 : Int) ≤ IntKind.i64.wrap ((k : Int) - 1) ∧ IntKind.i64.wrap ((k : Int) - 1) < (ms.length : Int) := by rw [hx]; omega
    have r0 : A.rd g0 (o + (IntKind.i64.wrap ((k : Int) - 1)).toNat * 4) 1 = some [.int .i64 ms[k - 1].id] := by
      rw [hx, Int.toNat_natCast]
      exact rd_at (mem_at hra (k - 1) hk1 rfl) (i := 0) (m := 1) (by omega)
    repeat (first | refine go_in i0 ?_ | refine go_rd r1i ?_ | refine go_in hin1 ?_ | refine go_rd r0 ?_
            conv => lhs; whnf)
    have hle := (hl1 hk1 hk0).1
    refine split_dec (fun h8 => ?_) (fun h8 => ?_) <;> (conv => lhs; whnf)
    · exact (hD _).2 (hend 140 (by rw [hnone fun h => by have := (hmo.1 h).2; omega]))
    have hI := hgood (by omega)
    repeat (first | refine go_in i0 ?_ | refine go_rd r1w ?_
            conv => lhs; whnf)
    exact (hD _).2 ⟨((k + 1, w + ms[k].weight) : Nat × Int), ⟨hI, ⟨congrArg (fun z => some (SV.v (.int .i64 z))) hww, inc_slot (k := k) (by omega), trivial⟩, trivial, rfl⟩, by show ms.length - (k + 1) < ms.length - k; omega, ⟨same1 rfl rfl, trivial⟩, ⟨same1 rfl rfl, trivial⟩⟩
  · have hk0 : k = 0 := by
      have h0 : ¬ (0 : Int) < (k : Int) := h0
      omega
    have hI := hgood (by rw [hl0 hk0]; have := hm.1; omega)
    repeat (first | refine go_in i0 ?_ | refine go_rd r1w ?_
            conv => lhs; whnf)
    exact (hD _).2 ⟨((k + 1, w + ms[k].weight) : Nat × Int), ⟨hI, ⟨congrArg (fun z => some (SV.v (.int .i64 z))) hww, inc_slot (k := k) (by omega), trivial⟩, trivial, rfl⟩, by show ms.length - (k + 1) < ms.length - k; omega, ⟨same1 rfl rfl, trivial⟩, ⟨same1 rfl rfl, trivial⟩⟩

end
end Go.Proofs.YtbebacffaljckaaGreatDoor

namespace Go.Proofs.YtbebacffaljckaaGreatDoor
open Go.Sx Go.RowKit
noncomputable section
open Classical

theorem node_fits (h : DeedH) (np : Nat) : RNodeD h np ↔ FitsD h np ∧ h.kind ≤ 3 := by
  obtain ⟨zxid, kind, ses, turn, xid, dtime, path, data, owner, ver, cver, tmo, err, cfg, mem⟩ := h
  unfold RNodeD FitsD BareD
  dsimp only
  by_cases k1 : kind = 1
  · subst k1
    simp [hasK, hasTab]
    constructor <;> (intro h; simp_all)
  by_cases k2 : kind = 2
  · subst k2
    simp [hasK, hasTab]
    constructor <;> (intro h; simp_all)
  by_cases k3 : kind = 3
  · subst k3
    simp [hasK, hasTab]
    constructor <;> (intro h; simp_all)
  · constructor
    · rintro ⟨_, _, _, _, _, _, h | ⟨h | h, _⟩⟩ <;> omega
    · rintro ⟨⟨⟨_, _⟩, _⟩, h⟩
      omega

/-- The other kinds. -/
theorem rest_fits (h : DeedH) (np : Nat) (k3 : 3 < h.kind) : FitsD h np ↔ h.kind ≤ 9 ∧ BareD h np ∧ (h.kind = 4 → 1 ≤ h.tmo ∧ h.tmo ≤ 1000) ∧ (h.kind = 5 → 1 ≤ h.owner) ∧ (h.kind = 9 → 1 ≤ h.err) := by
  obtain ⟨zxid, kind, ses, turn, xid, dtime, path, data, owner, ver, cver, tmo, err, cfg, mem⟩ := h
  unfold FitsD BareD
  dsimp only at k3 ⊢
  by_cases h9 : kind ≤ 9
  · have : kind = 4 ∨ kind = 5 ∨ kind = 6 ∨ kind = 7 ∨ kind = 8 ∨ kind = 9 := by omega
    rcases this with e | e | e | e | e | e
    all_goals
      subst e
      simp [hasK, hasTab]
      first
        | (constructor <;> (intro h; simp_all; done))
        | (constructor <;> (intro h; simp_all <;> omega))
        | (intros; constructor <;> (intro h; simp_all; done))
        | (intros; simp_all; done)
  · constructor
    · rintro ⟨⟨_, _⟩, _⟩
      omega
    · rintro ⟨_, _⟩
      omega

theorem part_same (p : DeedD) : (RPartD false p ↔ PartD 2 p) ∧ (RPartD true p ↔ PartD 3 p) := by
  unfold RPartD PartD
  rw [node_fits]
  constructor
  · constructor
    · rintro ⟨h1, h2, h3, h4, h5, ⟨h6, h7⟩, h8⟩
      have h8 : p.h.kind = 2 := h8.resolve_left (by simp)
      exact ⟨h1, h2, h3, h4, h5, h6, by omega, fun _ => h8⟩
    · rintro ⟨h1, h2, h3, h4, h5, h6, h7, h8⟩
      exact ⟨h1, h2, h3, h4, h5, ⟨h6, by omega⟩, .inr (h8 rfl)⟩
  · constructor
    · rintro ⟨h1, h2, h3, h4, h5, ⟨h6, h7⟩, h8⟩
      exact ⟨h1, h2, h3, h4, h5, h6, by omega, fun h => by omega⟩
    · rintro ⟨h1, h2, h3, h4, h5, h6, h7, h8⟩
      exact ⟨h1, h2, h3, h4, h5, ⟨h6, by omega⟩, .inl rfl⟩

theorem parts_same (ds : List DeedD) (a b : Int) : (RPartsD ds a b false ↔ PartsD ds a b 2) ∧ (RPartsD ds a b true ↔ PartsD ds a b 3) := by
  unfold RPartsD PartsD
  constructor
  · exact ⟨fun h => ⟨h.1, h.2.1, fun p hp => (part_same p).1.1 (h.2.2 p hp)⟩, fun h => ⟨h.1, h.2.1, fun p hp => (part_same p).1.2 (h.2.2 p hp)⟩⟩
  · exact ⟨fun h => ⟨h.1, h.2.1, fun p hp => (part_same p).2.1 (h.2.2 p hp)⟩, fun h => ⟨h.1, h.2.1, fun p hp => (part_same p).2.2 (h.2.2 p hp)⟩⟩

/-- What all kinds ask. -/
def HeadD (h : DeedH) : Prop := 1 ≤ h.zxid ∧ h.zxid / 4294967296 ≤ 1073741824 ∧ 0 ≤ h.ses ∧ 0 ≤ h.turn ∧ 0 ≤ h.xid ∧ 0 ≤ h.time

theorem right_iff (h : DeedH) (ps : List DeedD) : RightD (.mk h ps) ↔ HeadD h ∧ BareD h ps.length ∧ ((h.kind = 1 ∨ h.kind = 2 ∨ h.kind = 3) ∧ RNodeD h ps.length ∨ h.kind = 4 ∧ 1 ≤ h.tmo ∧ h.tmo ≤ 1000 ∨ h.kind = 5 ∧ 1 ≤ h.owner ∧ RPartsD ps 0 500 false ∨ h.kind = 6 ∨ h.kind = 7 ∧ ensD h.cfg h.mem = 0 ∧ h.cfg = h.zxid ∨ h.kind = 8 ∧ RPartsD ps 1 16 true ∨ h.kind = 9 ∧ 1 ≤ h.err) := by
  rw [(parts_same ps 0 500).1, (parts_same ps 1 16).2]
  unfold RightD HeadD
  dsimp only [DeedD.h, DeedD.parts]
  by_cases k3 : 3 < h.kind
  · rw [rest_fits h ps.length k3]
    constructor
    · rintro ⟨h1, h2, h3, h4, h5, h6, ⟨h7, h8, h9, h10, h11⟩, h12, h13, h14⟩
      refine ⟨⟨h1, h2, h3, h4, h5, h6⟩, h8, ?_⟩
      have : h.kind = 4 ∨ h.kind = 5 ∨ h.kind = 6 ∨ h.kind = 7 ∨ h.kind = 8 ∨ h.kind = 9 := by omega
      rcases this with e | e | e | e | e | e
      · exact .inr (.inl ⟨e, h9 e⟩)
      · exact .inr (.inr (.inl ⟨e, h10 e, h12 e⟩))
      · exact .inr (.inr (.inr (.inl e)))
      · exact .inr (.inr (.inr (.inr (.inl ⟨e, h13 e⟩))))
      · exact .inr (.inr (.inr (.inr (.inr (.inl ⟨e, h14 e⟩)))))
      · exact .inr (.inr (.inr (.inr (.inr (.inr ⟨e, h11 e⟩)))))
    · rintro ⟨⟨h1, h2, h3, h4, h5, h6⟩, h7, h8⟩
      refine ⟨h1, h2, h3, h4, h5, h6, ?_⟩
      rcases h8 with ⟨e, _⟩ | ⟨e, h9⟩ | ⟨e, h9, h10⟩ | e | ⟨e, h9⟩ | ⟨e, h9⟩ | ⟨e, h9⟩
      · omega
      · exact ⟨⟨by omega, h7, fun _ => h9, fun h => by omega, fun h => by omega⟩, fun h => by omega, fun h => by omega, fun h => by omega⟩
      · exact ⟨⟨by omega, h7, fun h => by omega, fun _ => h9, fun h => by omega⟩, fun _ => h10, fun h => by omega, fun h => by omega⟩
      · exact ⟨⟨by omega, h7, fun h => by omega, fun h => by omega, fun h => by omega⟩, fun h => by omega, fun h => by omega, fun h => by omega⟩
      · exact ⟨⟨by omega, h7, fun h => by omega, fun h => by omega, fun h => by omega⟩, fun h => by omega, fun _ => h9, fun h => by omega⟩
      · exact ⟨⟨by omega, h7, fun h => by omega, fun h => by omega, fun h => by omega⟩, fun h => by omega, fun h => by omega, fun _ => h9⟩
      · exact ⟨⟨by omega, h7, fun h => by omega, fun h => by omega, fun _ => h9⟩, fun h => by omega, fun h => by omega, fun h => by omega⟩
  · have hn := node_fits h ps.length
    constructor
    · rintro ⟨h1, h2, h3, h4, h5, h6, h7, _⟩
      have hk : h.kind = 1 ∨ h.kind = 2 ∨ h.kind = 3 := by
        have := h7.1
        omega
      have hr := hn.2 ⟨h7, by omega⟩
      exact ⟨⟨h1, h2, h3, h4, h5, h6⟩, hr.1, .inl ⟨hk, hr⟩⟩
    · rintro ⟨⟨h1, h2, h3, h4, h5, h6⟩, h7, h8⟩
      rcases h8 with ⟨e, h9⟩ | ⟨e, h9⟩ | ⟨e, h9, h10⟩ | e | ⟨e, h9⟩ | ⟨e, h9⟩ | ⟨e, h9⟩
      · exact ⟨h1, h2, h3, h4, h5, h6, (hn.1 h9).1, fun h => by omega, fun h => by omega, fun h => by omega⟩
      all_goals omega

/-! ### Right -/

def rrightS : FSpec := ⟨DeedD, fun d vs A => ∃ cs, vs = [deedV cs] ∧ DeedR A d cs, fun d _ A v A' => A.Sub A' ∧ v = .bool (decide (RightD d))⟩

set_option maxRecDepth 100000 in
set_option maxHeartbeats 0 in
theorem rright_ok : FOk Tryz.prog 24 rrightS := by
  refine fok_v mixed fun d vs A hp => ?_
  obtain ⟨cs, rfl, hR⟩ : ∃ cs, vs = [deedV cs] ∧ DeedR A d cs := hp
  have hC : CTSound Tryz.prog (lookC [specE 49 bareS, specE 50 rnodeS, specE 51 rpartsS, specE 52 renS] noC) := lookC_sound (noC_sound _) (fun x hx => by
    simp only [List.mem_cons, List.not_mem_nil, or_false] at hx
    rcases hx with rfl | rfl | rfl | rfl
    · exact specE_ok bare_ok
    · exact specE_ok rnode_ok
    · exact specE_ok rparts_ok
    · exact specE_ok ren_ok)
  refine ⟨_, noL, 60, hC, noL_sound _, fun blk os out tape D hD => ?_⟩
  have hR0 := hR
  obtain ⟨⟨zxid, kind, ses, turn, xid, time, path, data, owner, ver, cver, tmo, err, cfg, mem⟩, parts⟩ := d
  rw [DeedR] at hR
  dsimp only [DeedH.cells] at hR
  obtain ⟨vd, vm, vp, rows, rfl, -, ⟨⟨a7, k7, rfl, -⟩, -⟩, hM, hS, hlen, hRows⟩ := hR
  obtain ⟨a14, k14, rfl⟩ := hM.1.form
  obtain ⟨a15, k15, rfl⟩ := hS.form
  have hri := right_iff ⟨zxid, kind, ses, turn, xid, time, path, data, owner, ver, cver, tmo, err, cfg, mem⟩ parts
  have bad : ∀ A2, A.Sub A2 → ¬ RightD (.mk ⟨zxid, kind, ses, turn, xid, time, path, data, owner, ver, cver, tmo, err, cfg, mem⟩ parts) → A.Sub A2 ∧ Value.bool false = .bool (decide (RightD (.mk ⟨zxid, kind, ses, turn, xid, time, path, data, owner, ver, cver, tmo, err, cfg, mem⟩ parts))) := fun A2 h2 h => ⟨h2, by rw [decide_eq_false h]⟩
  have fin : ∀ A2 (b : Bool), A.Sub A2 → (b = true ↔ RightD (.mk ⟨zxid, kind, ses, turn, xid, time, path, data, owner, ver, cver, tmo, err, cfg, mem⟩ parts)) → A.Sub A2 ∧ Value.bool b = .bool (decide (RightD (.mk ⟨zxid, kind, ses, turn, xid, time, path, data, owner, ver, cver, tmo, err, cfg, mem⟩ parts))) := fun A2 b h2 h => ⟨h2, by
    congr 1
    rw [Bool.eq_iff_iff, decide_eq_true_eq]
    exact h⟩
  unfold HeadD at hri
  dsimp only at hri
  have hs := Arena.Sub.refl A
  conv => lhs; whnf
  refine split_dec (fun h1 => ?_) (fun h1 => ?_) <;> (conv => lhs; whnf)
  · exact (hD _).2 (bad A hs fun h => by have := hri.1 h; omega)
  have hz : zxid.fdiv (2 ^ min (Int.toNat 32) IntKind.i64.bits) = zxid / 4294967296 := by
    show zxid.fdiv 4294967296 = _
    rw [Int.fdiv_eq_ediv_of_nonneg _ (by decide)]
  refine split_dec (fun h2 => ?_) (fun h2 => ?_) <;> (conv => lhs; whnf)
  rotate_left
  · exact (hD _).2 (bad A hs fun h => by omega)
  refine split_nd (fun h3 => ?_) (fun h3 => ?_) <;> (conv => lhs; whnf)
  rotate_left
  · rw [hz] at h3
    exact (hD _).2 (bad A hs fun h => by have := (hri.1 h).1; omega)
  rw [hz] at h3
  refine split_dec (fun h4 => ?_) (fun h4 => ?_) <;> (conv => lhs; whnf)
  · exact (hD _).2 (bad A hs fun h => by have := (hri.1 h).1; omega)
  refine split_dec (fun h5 => ?_) (fun h5 => ?_) <;> (conv => lhs; whnf)
  · exact (hD _).2 (bad A hs fun h => by have := (hri.1 h).1; omega)
  refine split_dec (fun h6 => ?_) (fun h6 => ?_) <;> (conv => lhs; whnf)
  · exact (hD _).2 (bad A hs fun h => by have := (hri.1 h).1; omega)
  refine split_dec (fun h7 => ?_) (fun h7 => ?_) <;> (conv => lhs; whnf)
  · exact (hD _).2 (bad A hs fun h => by have := (hri.1 h).1; omega)
  refine (hD _).2 ⟨(.mk ⟨zxid, kind, ses, turn, xid, time, path, data, owner, ver, cver, tmo, err, cfg, mem⟩ parts : DeedD), ⟨_, rfl, hR0⟩, fun v A9 hq => ?_⟩
  have hq : A9 = A ∧ v = .bool (decide (BareD ⟨zxid, kind, ses, turn, xid, time, path, data, owner, ver, cver, tmo, err, cfg, mem⟩ parts.length)) := hq
  have h9 := hq.1.symm
  have hv := hq.2
  subst h9
  by_cases hb : BareD ⟨zxid, kind, ses, turn, xid, time, path, data, owner, ver, cver, tmo, err, cfg, mem⟩ parts.length
  rotate_left
  · rw [decide_eq_false hb] at hv
    subst hv
    conv => lhs; whnf
    exact (hD _).2 (bad A hs fun h => hb (hri.1 h).2.1)
  rw [decide_eq_true hb] at hv
  subst hv
  have hrest : RightD (.mk ⟨zxid, kind, ses, turn, xid, time, path, data, owner, ver, cver, tmo, err, cfg, mem⟩ parts : DeedD) ↔ ((kind = 1 ∨ kind = 2 ∨ kind = 3) ∧ RNodeD ⟨zxid, kind, ses, turn, xid, time, path, data, owner, ver, cver, tmo, err, cfg, mem⟩ parts.length ∨ kind = 4 ∧ 1 ≤ tmo ∧ tmo ≤ 1000 ∨ kind = 5 ∧ 1 ≤ owner ∧ RPartsD parts 0 500 false ∨ kind = 6 ∨ kind = 7 ∧ ensD cfg mem = 0 ∧ cfg = zxid ∨ kind = 8 ∧ RPartsD parts 1 16 true ∨ kind = 9 ∧ 1 ≤ err) := hri.trans ⟨fun h => h.2.2, fun h => ⟨by omega, hb, h⟩⟩
  clear hri
  have hnode : (kind = 1 ∨ kind = 2 ∨ kind = 3) → ∀ A1 (b : Bool), A.Sub A1 → b = decide (RNodeD ⟨zxid, kind, ses, turn, xid, time, path, data, owner, ver, cver, tmo, err, cfg, mem⟩ parts.length) → A.Sub A1 ∧ Value.bool b = .bool (decide (RightD (.mk ⟨zxid, kind, ses, turn, xid, time, path, data, owner, ver, cver, tmo, err, cfg, mem⟩ parts : DeedD))) := fun hk A1 b s1 hb1 => fin A1 b s1 (by
    rw [hb1, decide_eq_true_iff, hrest]
    constructor
    · exact fun h => .inl ⟨hk, h⟩
    · rintro (⟨_, h⟩ | h)
      · exact h
      · omega)
  conv => lhs; whnf
  refine split_dec (fun k1 => ?_) (fun k1 => ?_) <;> (conv => lhs; whnf)
  · have e2 : ¬ kind = 2 := by omega
    have e3 : ¬ kind = 3 := by omega
    repeat (first | refine go_dec k1 ?_ | refine no_dec e2 ?_ | refine no_dec e3 ?_
            conv => lhs; whnf)
    refine (hD _).2 ⟨(.mk ⟨zxid, kind, ses, turn, xid, time, path, data, owner, ver, cver, tmo, err, cfg, mem⟩ parts : DeedD), ⟨_, rfl, hR0⟩, fun v A1 hq => ?_⟩
    have hq : A.Sub A1 ∧ v = .bool (decide (RNodeD ⟨zxid, kind, ses, turn, xid, time, path, data, owner, ver, cver, tmo, err, cfg, mem⟩ parts.length)) := hq
    obtain ⟨s1, hv⟩ := hq
    subst hv
    have hend := hnode (by omega) A1 _ s1 rfl
    conv => lhs; whnf
    exact (hD _).2 hend
  refine split_dec (fun k2 => ?_) (fun k2 => ?_) <;> (conv => lhs; whnf)
  · have e1 : ¬ kind = 1 := by omega
    have e3 : ¬ kind = 3 := by omega
    repeat (first | refine go_dec k2 ?_ | refine no_dec e1 ?_ | refine no_dec e3 ?_
            conv => lhs; whnf)
    refine (hD _).2 ⟨(.mk ⟨zxid, kind, ses, turn, xid, time, path, data, owner, ver, cver, tmo, err, cfg, mem⟩ parts : DeedD), ⟨_, rfl, hR0⟩, fun v A1 hq => ?_⟩
    have hq : A.Sub A1 ∧ v = .bool (decide (RNodeD ⟨zxid, kind, ses, turn, xid, time, path, data, owner, ver, cver, tmo, err, cfg, mem⟩ parts.length)) := hq
    obtain ⟨s1, hv⟩ := hq
    subst hv
    have hend := hnode (by omega) A1 _ s1 rfl
    conv => lhs; whnf
    exact (hD _).2 hend
  refine split_dec (fun k3 => ?_) (fun k3 => ?_) <;> (conv => lhs; whnf)
  · have e1 : ¬ kind = 1 := by omega
    have e2 : ¬ kind = 2 := by omega
    repeat (first | refine go_dec k3 ?_ | refine no_dec e1 ?_ | refine no_dec e2 ?_
            conv => lhs; whnf)
    refine (hD _).2 ⟨(.mk ⟨zxid, kind, ses, turn, xid, time, path, data, owner, ver, cver, tmo, err, cfg, mem⟩ parts : DeedD), ⟨_, rfl, hR0⟩, fun v A1 hq => ?_⟩
    have hq : A.Sub A1 ∧ v = .bool (decide (RNodeD ⟨zxid, kind, ses, turn, xid, time, path, data, owner, ver, cver, tmo, err, cfg, mem⟩ parts.length)) := hq
    obtain ⟨s1, hv⟩ := hq
    subst hv
    have hend := hnode (by omega) A1 _ s1 rfl
    conv => lhs; whnf
    exact (hD _).2 hend
  repeat (first | refine no_dec k1 ?_ | refine no_dec k2 ?_ | refine no_dec k3 ?_
          conv => lhs; whnf)
  refine split_dec (fun k4 => ?_) (fun k4 => ?_) <;> (conv => lhs; whnf)
  · refine split_dec (fun t1 => ?_) (fun t1 => ?_) <;> (conv => lhs; whnf)
    · exact (hD _).2 (fin A (decide (tmo ≤ 1000)) hs (by rw [decide_eq_true_iff, hrest]; omega))
    · exact (hD _).2 (bad A hs fun h => by have := hrest.1 h; omega)
  refine split_dec (fun k5 => ?_) (fun k5 => ?_) <;> (conv => lhs; whnf)
  · refine split_dec (fun t1 => ?_) (fun t1 => ?_) <;> (conv => lhs; whnf)
    rotate_left
    · exact (hD _).2 (bad A hs fun h => by have := hrest.1 h; omega)
    refine (hD _).2 ⟨(parts, 0, 500, false), ⟨_, rfl, ⟨rows, hS, hlen, hRows⟩⟩, fun v A1 hq => ?_⟩
    have hq : A.Sub A1 ∧ v = .bool (decide (RPartsD parts 0 500 false)) := hq
    obtain ⟨s1, hv⟩ := hq
    subst hv
    have hend := fin A1 (decide (RPartsD parts 0 500 false)) s1 (by
      rw [decide_eq_true_iff, hrest]
      constructor
      · exact fun h => .inr (.inr (.inl ⟨k5, t1, h⟩))
      · rintro (h | h | ⟨_, _, h⟩ | h | h | h | h)
        · omega
        · omega
        · exact h
        all_goals omega)
    conv => lhs; whnf
    exact (hD _).2 hend
  refine split_dec (fun k6 => ?_) (fun k6 => ?_) <;> (conv => lhs; whnf)
  · exact (hD _).2 (fin A true hs (iff_of_true rfl (hrest.2 (by omega))))
  refine split_dec (fun k7 => ?_) (fun k7 => ?_) <;> (conv => lhs; whnf)
  · refine (hD _).2 ⟨(cfg, mem), ⟨_, rfl, hM⟩, fun v A9 hq => ?_⟩
    have hq : A9 = A ∧ ∃ z, v = .int .i64 z ∧ (z = 0 ↔ ensD cfg mem = 0) := hq
    obtain ⟨h9, z, hv, hz0⟩ := hq
    have h9 := h9.symm
    subst h9
    subst hv
    conv => lhs; whnf
    refine split_dec (fun t1 => ?_) (fun t1 => ?_) <;> (conv => lhs; whnf)
    · have hend := fin A (decide (cfg = zxid)) hs (by rw [decide_eq_true_iff, hrest]; omega)
      exact (hD _).2 hend
    · exact (hD _).2 (bad A hs fun h => by have := hrest.1 h; omega)
  refine split_dec (fun k8 => ?_) (fun k8 => ?_) <;> (conv => lhs; whnf)
  · refine (hD _).2 ⟨(parts, 1, 16, true), ⟨_, rfl, ⟨rows, hS, hlen, hRows⟩⟩, fun v A1 hq => ?_⟩
    have hq : A.Sub A1 ∧ v = .bool (decide (RPartsD parts 1 16 true)) := hq
    obtain ⟨s1, hv⟩ := hq
    subst hv
    have hend := fin A1 (decide (RPartsD parts 1 16 true)) s1 (by
      rw [decide_eq_true_iff, hrest]
      constructor
      · exact fun h => .inr (.inr (.inr (.inr (.inr (.inl ⟨k8, h⟩)))))
      · rintro (h | h | h | h | h | ⟨_, h⟩ | h)
        · omega
        · omega
        · omega
        · omega
        · omega
        · exact h
        · omega)
    conv => lhs; whnf
    exact (hD _).2 hend
  refine split_dec (fun k9 => ?_) (fun k9 => ?_) <;> (conv => lhs; whnf)
  · exact (hD _).2 (fin A (decide (1 ≤ err)) hs (by rw [decide_eq_true_iff, hrest]; omega))
  · exact (hD _).2 (bad A hs fun h => by have := hrest.1 h; omega)

end
end Go.Proofs.YtbebacffaljckaaGreatDoor

namespace Go.Proofs.YtbebacffaljckaaGreatDoor
open Go.Sx Go.RowKit
noncomputable section
open Classical

theorem rmarkL_len (N : List ToldD) (p : ByteArray) (z cv : Int) : (rmarkL N p z cv).length = N.length := by
  have h := congrArg List.length (mod_paths (N := N) (p := parentP p) (f := markX z cv) fun _ => rfl)
  rw [List.length_map, List.length_map] at h
  exact h

theorem rsetL_len (N : List ToldD) (h : DeedH) (z time : Int) : (rsetL N h z time).length = N.length := by
  have h := congrArg List.length (mod_paths (N := N) (p := h.path) (f := setX h z time) fun _ => rfl)
  rw [List.length_map, List.length_map] at h
  exact h

theorem rchange_len (N : List ToldD) (h : DeedH) (z time : Int) : (rchangeL N h z time).length ≤ N.length + 1 := by
  unfold rchangeL
  split
  · rw [rmarkL_len]; exact putL_len _ _
  · split
    · rw [rmarkL_len]
      have := dropL_len N h.path
      omega
    · split
      · rw [rsetL_len]; omega
      · omega

theorem rparts_len (z time : Int) : ∀ (ps : List DeedD) (N : List ToldD), (rpartsL N ps z time).length ≤ N.length + ps.length
  | [], _ => Nat.le_refl _
  | p :: ps, N => by
    have h1 := rparts_len z time ps (rchangeL N p.h z time)
    have h2 := rchange_len N p.h z time
    show (rpartsL (rchangeL N p.h z time) ps z time).length ≤ _
    simp only [List.length_cons]; omega

theorem seatL_len (S : List SitD) (x : SitD) : (seatL S x).length ≤ S.length + 1 := by
  unfold seatL
  have := riseL_len S x.ses
  rw [List.length_append, List.length_cons, List.length_take, List.length_drop]
  omega

theorem rsitL_len (S : List SitD) (d : DeedD) : (rsitL S d).length ≤ S.length + 1 := by
  unfold rsitL
  split
  · exact seatL_len _ _
  · split
    · have := riseL_len S d.h.owner
      omega
    · omega

theorem right_parts {d : DeedD} (hr : RightD d) : d.parts.length ≤ 500 := by
  by_cases h5 : d.h.kind = 5
  · have := (hr.2.2.2.2.2.2.2.1 h5).2.1
    omega
  · by_cases h8 : d.h.kind = 8
    · have := (hr.2.2.2.2.2.2.2.2.2 h8).2.1
      omega
    · have hk9 := hr.2.2.2.2.2.2.1.1
      rw [no_parts hr (by omega)]
      simp

/-- A cell of a sitting is turned in place. -/
theorem RefR.turnS {A A' B : Arena} {O : Nat → Prop} {r : Nat} {l : List (ToldD × Value)} {S : List SitD} {vn vs : Value} {gn gs : Nat} (h : RefR A B O r l S vn vs gn gs) {k i : Nat} (hk : k < S.length) (hi : i < 3) {w : Value} {x' : SitD} (hx : sitC x' = (sitC S[k]).set i w) (hP : A.Put A' gs (0 + k * 3 + i) [w]) :
    RefR A' B O r l (S.set k x') vn vs gn gs ∧ Kept A O A' O := by
  have hpos : 0 < S.length := by omega
  have hgs := h.own.2.2 hpos
  have hoth := hP.other
  have hlen : 0 < (S.set k x').length ↔ 0 < S.length := by rw [List.length_set]
  refine ⟨⟨h.top.sub fun o ho => by rw [hoth r (Ne.symm (h.ne.2.1 hpos))]; exact ho, h.nrow.keep fun hn => hoth gn (h.ne.2.2 hn hpos), RowIn.turn (enc := sitC) (fun _ => rfl) h.srow hk hi hx hP, h.data, fun j o hj => ?_, ⟨h.own.1, h.own.2.1, fun _ => hgs⟩, h.off, fun j hj => ?_, ⟨h.ne.1, fun _ => h.ne.2.1 hpos, fun hn _ => h.ne.2.2 hn hpos⟩⟩, fun j o hj hO => ?_, fun j hj => (hP.dom j).1 hj, fun j hj => .inl hj⟩
  · rw [hoth j fun e => by rw [e, h.off gs hgs] at hj; cases hj]
    exact h.sub j o hj
  · by_cases e : j = gs
    · obtain ⟨c0, t0, fz0, c1, k1, k2, _⟩ := hP.at_
      rw [e]
      exact ⟨_, k2⟩
    · rw [hoth j e]; exact h.live j hj
  · rw [hoth j fun e => hO (e ▸ hgs)]
    exact hj

theorem touch_len {α : Type} (f : α → α) (S : List α) (j : Nat) : ((S.take j).map f ++ S.drop j).length = S.length := by
  rw [List.length_append, List.length_map, List.length_take, List.length_drop]; omega

theorem touch_at {α : Type} (f : α → α) {S : List α} {j : Nat} (hj : j < S.length) : ((S.take j).map f ++ S.drop j)[j]'(by rw [touch_len]; exact hj) = S[j] := by
  rw [List.getElem_append_right (by rw [List.length_map, List.length_take]; omega)]
  simp only [List.length_map, List.length_take, List.getElem_drop]
  congr 1
  omega

theorem touch_set {α : Type} (f : α → α) {S : List α} {j : Nat} (hj : j < S.length) : ((S.take j).map f ++ S.drop j).set j (f S[j]) = (S.take (j + 1)).map f ++ S.drop (j + 1) := by
  have hl : ((S.take j).map f).length = j := by rw [List.length_map, List.length_take]; omega
  rw [List.set_append_right _ _ (by omega), hl, Nat.sub_self, List.drop_eq_getElem_cons hj, List.set_cons_zero, List.take_succ_eq_append_getElem hj, List.map_append, List.append_assoc]
  rfl

structure RaT where
  k : Nat
  A : Arena
  B : Arena
  O : Nat → Prop
  N : List ToldD

def rapInv (A B : Arena) (O : Nat → Prop) (r : Nat) (N0 : List ToldD) (S : List SitD) (parts : List DeedD) (z time : Int) : LInv :=
  { γ := RaT, G := fun g => g.k ≤ parts.length ∧ RefAt g.A g.B g.O r g.N S ∧ Step A B O g.A g.B g.O ∧ g.N = rpartsL N0 (parts.take g.k) z time,
    keepS := [0, 3], keepB := [0], sl := fun g => [(4, .v (.int .i64 g.k))], bl := fun _ => [], ar := fun g => g.A, mu := fun g => parts.length - g.k }

structure RaS where
  k : Nat
  A : Arena

def rtouchInv (A1 B : Arena) (O : Nat → Prop) (r : Nat) (l : List (ToldD × Value)) (S : List SitD) (vn vs : Value) (gn gs : Nat) (f : SitD → SitD) : LInv :=
  { γ := RaS, G := fun g => g.k ≤ S.length ∧ RefR g.A B O r l ((S.take g.k).map f ++ S.drop g.k) vn vs gn gs ∧ Kept A1 O g.A O,
    keepS := [0, 3], keepB := [0], sl := fun g => [(5, .v (.int .i64 g.k))], bl := fun _ => [], ar := fun g => g.A, mu := fun g => S.length - g.k }

def rapplyRS : FSpec := ⟨RG × DeedD × Arena, fun g vs A => ∃ cs, vs = [.pointer (some ⟨g.1.r, 0, none⟩), deedV cs] ∧ RefAt A g.1.B g.1.O g.1.r g.1.N g.1.S ∧ g.1.N.length ≤ 800000 ∧ g.1.S.length ≤ 800000 ∧ DeedR g.2.2 g.2.1 cs ∧ Aside A g.2.2 g.1.O,
  fun g _ A _ A' => RefTo A g.1.B g.1.O g.1.r (rapplyN g.1.N g.2.1) (rapplyS g.1.S g.2.1) A'⟩

set_option maxRecDepth 100000 in
set_option maxHeartbeats 0 in
theorem rapplyR_ok : FOk Tryz.prog 9 rapplyRS := by
  refine fok_v mixed fun ⟨⟨N, S, B, O, r⟩, d, C⟩ vs A hp => ?_
  obtain ⟨cs, rfl, hRef, hN, hSl, hR, hC⟩ : ∃ cs, vs = [.pointer (some ⟨r, 0, none⟩), deedV cs] ∧ RefAt A B O r N S ∧ N.length ≤ 800000 ∧ S.length ≤ 800000 ∧ DeedR C d cs ∧ Aside A C O := hp
  have hCt : CTSound Tryz.prog (lookC [specE 24 rrightS, specE 25 rchangeS, specE 26 rseatS, specE 27 riseS] noC) := lookC_sound (noC_sound _) (fun x hx => by
    simp only [List.mem_cons, List.not_mem_nil, or_false] at hx
    rcases hx with rfl | rfl | rfl | rfl
    · exact specE_ok rright_ok
    · exact specE_ok rchange_ok
    · exact specE_ok rseat_ok
    · exact specE_ok rise_ok)
  obtain ⟨⟨zxid, kind, ses, turn, xid, dtime, path, data, owner, ver, cver, tmo, err, cfg, mem⟩, parts⟩ := d
  obtain ⟨dd, hdd⟩ : ∃ dd : DeedD, dd = (.mk ⟨zxid, kind, ses, turn, xid, dtime, path, data, owner, ver, cver, tmo, err, cfg, mem⟩ parts : DeedD) := ⟨_, rfl⟩
  have hR0 := hR
  rw [DeedR] at hR
  dsimp only [DeedH.cells] at hR
  obtain ⟨vd, vm, vp, rows, rfl, -, hd, hM, hS, hlen, hRows⟩ := hR
  obtain ⟨a7, k7, rfl⟩ := hd.1.form
  obtain ⟨a14, k14, rfl⟩ := hM.1.form
  obtain ⟨a15, k15, rfl⟩ := hS.form
  refine ⟨_, tabO Tryz.prog _ noL 60 [(9, 0), (9, 2)], 60, hCt, tabO_sound mixed hCt (noL_sound _) _ _, fun blk os out tape D hD => ?_⟩
  conv => lhs; whnf
  refine (hD _).2 ⟨_, ⟨_, rfl, DeedR.sub hC.1 _ _ hR0⟩, fun v A1 hq => ?_⟩
  have hq : A.Sub A1 ∧ v = .bool (decide (RightD (.mk ⟨zxid, kind, ses, turn, xid, dtime, path, data, owner, ver, cver, tmo, err, cfg, mem⟩ parts))) := hq
  obtain ⟨s1, hv⟩ := hq
  rw [← hdd] at hv
  by_cases hr : RightD dd
  rotate_left
  · have hv : v = .bool false := by rw [hv, decide_eq_false hr]
    subst hv
    have hend : rapplyRS.post (⟨N, S, B, O, r⟩, .mk ⟨zxid, kind, ses, turn, xid, dtime, path, data, owner, ver, cver, tmo, err, cfg, mem⟩ parts, C) [] A (.tuple #[]) A1 := by
      show RefTo A B O r (rapplyN N _) (rapplyS S _) A1
      rw [← hdd, rapplyN, if_neg hr, rapplyS, if_neg hr]
      exact RefTo.of (hRef.more s1) (Kept.more s1) (Arena.Sub.refl _) fun k o hk => .inl hk
    conv => lhs; whnf
    exact (hD _).2 hend
  have hv : v = .bool true := by rw [hv, decide_eq_true hr]
  subst hv
  have hpl := right_parts hr
  have hSt1 : Step A B O A1 B O := ⟨(Kept.more (O := O) s1).keep, (Kept.more (O := O) s1).dom, (Kept.more (O := O) s1).own, Arena.Sub.refl _, fun _ _ h => .inl h⟩
  have hC1 : Aside A1 C O := hC.step hSt1
  have hN1 : dd.h = ⟨zxid, kind, ses, turn, xid, dtime, path, data, owner, ver, cver, tmo, err, cfg, mem⟩ := by rw [hdd]; rfl
  have hN2 : dd.parts = parts := by rw [hdd]; rfl
  rw [hN2] at hpl
  conv => lhs; whnf
  refine (hD _).2 ⟨(⟨N, S, B, O, r⟩, .mk ⟨zxid, kind, ses, turn, xid, dtime, path, data, owner, ver, cver, tmo, err, cfg, mem⟩ parts, C, zxid, dtime), ⟨_, rfl, hRef.more s1, by show N.length ≤ 900000; omega, hR0, hC1⟩, fun v A2 hq => ?_⟩
  have hq : RefTo A1 B O r (rchangeL N ⟨zxid, kind, ses, turn, xid, dtime, path, data, owner, ver, cver, tmo, err, cfg, mem⟩ zxid dtime) S A2 := hq
  obtain ⟨B2, O2, hR2, hSt2⟩ := hq
  have hcl := rchange_len N ⟨zxid, kind, ses, turn, xid, dtime, path, data, owner, ver, cver, tmo, err, cfg, mem⟩ zxid dtime
  have hSt12 := hSt1.trans hSt2
  conv => lhs; whnf
  obtain ⟨N0, hN0⟩ : ∃ N0, N0 = rchangeL N ⟨zxid, kind, ses, turn, xid, dtime, path, data, owner, ver, cver, tmo, err, cfg, mem⟩ zxid dtime := ⟨_, rfl⟩
  rw [← hN0] at hR2 hcl
  refine (hD _).2 ⟨rapInv A B O r N0 S parts zxid dtime, ⟨(⟨0, A2, B2, O2, N0⟩ : RaT), ⟨Nat.zero_le _, hR2, hSt12, by rw [List.take_zero]; rfl⟩, ⟨rfl, trivial⟩, trivial, rfl⟩, fun (sg : RaT) hG => ⟨⟨trivial, trivial⟩, trivial, ?_⟩⟩
  obtain ⟨k, Ak, Bk, Ok, Nk⟩ := sg
  obtain ⟨hk, hRk, hSk, hNk⟩ : k ≤ parts.length ∧ RefAt Ak Bk Ok r Nk S ∧ Step A B O Ak Bk Ok ∧ Nk = rpartsL N0 (parts.take k) zxid dtime := hG
  have hCk := hC.step hSk
  have hNkl := rparts_len zxid dtime (parts.take k) N0
  rw [← hNk, List.length_take] at hNkl
  conv => lhs; whnf
  refine split_dec (fun hlt => ?_) (fun hlt => ?_)
  · have hlt : (k : Int) < parts.length := hlt
    have hkn : k < parts.length := by omega
    obtain ⟨ao15, c15, he15, hc15, hl15, hb1, hb2, hb3⟩ := hS
    injection he15 with he1 he2 he3
    subst he1 he3
    obtain ⟨pg, po, rfl, hra⟩ := Sl.at_ hc15 hb1 hb2 hb3 (by omega)
    obtain ⟨pcs, hpcs, hpd⟩ := deed_at hra hRows k hkn rfl
    have hnext : rpartsL N0 (parts.take (k + 1)) zxid dtime = rchangeL Nk parts[k].h zxid dtime := by
      rw [List.take_succ_eq_append_getElem hkn, rpartsL, List.foldl_append, hNk]; rfl
    generalize parts[k] = p at hpd hnext
    obtain ⟨pa7, pl7, pk7, pa14, pl14, pk14, pa15, pl15, pk15, rfl⟩ := hpd.form
    have i0 : (0 : Int) ≤ (k : Int) ∧ (k : Int) < (parts.length : Int) := by omega
    have hpr := rd_sub hCk.1 hpcs
    conv => lhs; whnf
    repeat (first | refine go_in i0 ?_ | refine go_rd hpr ?_ | refine go_D hD rfl ?_
            conv => lhs; whnf)
    refine (hD _).2 ⟨(⟨Nk, S, Bk, Ok, r⟩, p, C, zxid, dtime), ⟨_, rfl, hRk, by show Nk.length ≤ 900000; omega, hpd, hCk⟩, fun v A9 hq => ?_⟩
    have hq : RefTo Ak Bk Ok r (rchangeL Nk p.h zxid dtime) S A9 := hq
    obtain ⟨B9, O9, hR9, hS9⟩ := hq
    conv => lhs; whnf
    exact (hD _).2 ⟨(⟨k + 1, A9, B9, O9, _⟩ : RaT), ⟨⟨by show k + 1 ≤ parts.length; omega, hR9, hSk.trans hS9, hnext.symm⟩, ⟨inc_slot (k := k) (by omega), trivial⟩, trivial, rfl⟩, by show parts.length - (k + 1) < parts.length - k; omega, ⟨same1 rfl rfl, same1 rfl rfl, trivial⟩, ⟨same1 rfl rfl, trivial⟩⟩
  have hkn : k = parts.length := by
    have hlt : ¬ (k : Int) < parts.length := hlt
    omega
  have hNe : Nk = rpartsL N0 parts zxid dtime := by rw [hNk, hkn, List.take_length]
  have hsd : rsitL S dd = if kind = 4 then seatL S ⟨zxid, tmo, turn⟩ else if kind = 5 then riseL S owner else S := by
    unfold rsitL
    rw [hN1]
  have hstep : ∀ {X : Arena} {O' : Nat → Prop}, Kept Ak Ok X O' → Step A B O X Bk O' := fun hK => hSk.trans ⟨hK.keep, hK.dom, hK.own, Arena.Sub.refl _, fun _ _ h => .inl h⟩
  clear hNk hNkl
  by_cases h4 : kind = 4
  · have h5 : ¬ kind = 5 := by omega
    rw [if_pos h4] at hsd
    conv => lhs; whnf
    refine go_dec h4 ?_
    conv => lhs; whnf
    refine (hD _).2 ⟨(⟨Nk, S, Bk, Ok, r⟩, ⟨zxid, tmo, turn⟩), ⟨rfl, hRk, by show S.length ≤ 1000000; omega⟩, fun v Am hq => ?_⟩
    have hq : ∃ O', RefAt Am Bk O' r Nk (seatL S ⟨zxid, tmo, turn⟩) ∧ Kept Ak Ok Am O' := hq
    obtain ⟨Om, hRm, hKm⟩ := hq
    obtain ⟨Bm, hBm⟩ : ∃ Bm, Bm = Bk := ⟨_, rfl⟩
    have hSm := hstep hKm
    rw [← hBm] at hSm hRm
    obtain ⟨Sm, hSms⟩ : ∃ Sm, Sm = rsitL S dd := ⟨_, rfl⟩
    rw [← hsd, ← hSms] at hRm
    have hSml : Sm.length ≤ 800001 := by
      have := rsitL_len S dd
      rw [hSms]; omega
    conv => lhs; whnf
    refine no_dec h5 ?_
    conv => lhs; whnf
    obtain ⟨l, vn, vs', gn, gs, hl, h⟩ := hRm
    obtain ⟨_, ao, c, hvs, hc, hz1, hz2, hz3⟩ := h.srow
    subst hvs
    refine (hD _).2 ⟨rtouchInv Am Bm Om r l Sm vn (.slice ao Sm.length c) gn gs (touchX ses turn), ⟨(⟨0, Am⟩ : RaS), ⟨Nat.zero_le _, by rw [List.take_zero, List.drop_zero]; exact h, Kept.refl _ _⟩, ⟨rfl, trivial⟩, trivial, rfl⟩, fun (sg : RaS) hG => ⟨⟨trivial, trivial⟩, trivial, ?_⟩⟩
    obtain ⟨j, Aj⟩ := sg
    obtain ⟨hj, hRj, hKj⟩ : j ≤ Sm.length ∧ RefR Aj Bm Om r l ((Sm.take j).map (touchX ses turn) ++ Sm.drop j) vn (.slice ao Sm.length c) gn gs ∧ Kept Am Om Aj Om := hG
    have htop : Aj.rd r 1 1 = some [.slice ao Sm.length c] := hRj.top.rd (o := 1) (n := 1) (by show 1 + 1 ≤ 2; omega)
    conv => lhs; whnf
    repeat (refine go_rd htop ?_
            conv => lhs; whnf)
    refine split_dec (fun hlt2 => ?_) (fun hlt2 => ?_)
    · have hjl : j < Sm.length := by
        have hlt2 : (j : Int) < (Sm.length : Int) := hlt2
        omega
      have j0 : (0 : Int) ≤ (j : Int) ∧ (j : Int) < (Sm.length : Int) := by omega
      have hLl := touch_len (touchX ses turn) Sm j
      have hLj := touch_at (touchX ses turn) hjl
      have hset := touch_set (touchX ses turn) hjl
      have hnext : touchX ses turn Sm[j] = Sm[j] → RefR Aj Bm Om r l ((Sm.take (j + 1)).map (touchX ses turn) ++ Sm.drop (j + 1)) vn (.slice ao Sm.length c) gn gs := fun e => by
        rw [← hset, e, ← hLj, List.set_getElem_self]; exact hRj
      obtain ⟨⟨q1, q2, q3⟩, hx⟩ : ∃ x, x = Sm[j] := ⟨_, rfl⟩
      obtain ⟨e9, cc, h8, h9, h10⟩ : ao = some ⟨gs, 0, none⟩ ∧ ∃ cc, Aj.blk gs = some (.cells cc 59 (0, 0)) ∧ ((Sm.take j).map (touchX ses turn) ++ Sm.drop j).length * 3 ≤ cc.size ∧ cc.toList.take (((Sm.take j).map (touchX ses turn) ++ Sm.drop j).length * 3) = ((Sm.take j).map (touchX ses turn) ++ Sm.drop j).flatMap sitC := by
        obtain ⟨_, ao9, c9, e9, _, _, _, h6⟩ := hRj.srow
        obtain ⟨h7, hh⟩ := h6 (by omega)
        injection e9 with e9
        exact ⟨e9.trans h7, hh⟩
      subst e9
      have hrow : Aj.rd gs (0 + j * 3) 3 = some [.int .i64 q1, .int .i64 q2, .int .i64 q3] := by
        have h11 : Aj.rd gs 0 (((Sm.take j).map (touchX ses turn) ++ Sm.drop j).length * 3) = some (((Sm.take j).map (touchX ses turn) ++ Sm.drop j).flatMap sitC) := by rw [rd_mk h8 (by omega), List.drop_zero, h10]
        have h12 := row_at (enc := sitC) (fun _ => rfl) h11 j (by omega) rfl
        rw [hLj, ← hx] at h12
        exact h12
      have r1 : Aj.rd gs (0 + j * 3) 1 = some [.int .i64 q1] := rd_at hrow (i := 0) (m := 1) (by omega)
      have r3 : Aj.rd gs (0 + j * 3 + 2) 1 = some [.int .i64 q3] := rd_at hrow (i := 2) (m := 1) (by omega)
      rw [← hx] at hnext hset
      conv => lhs; whnf
      refine split_dec (fun hs1 => ?_) (fun hs1 => ?_)
      rotate_left
      · have hsame : touchX ses turn ⟨q1, q2, q3⟩ = ⟨q1, q2, q3⟩ := by unfold touchX; rw [if_neg fun h => hs1 h.1]
        conv => lhs; whnf
        exact (hD _).2 ⟨(⟨j + 1, Aj⟩ : RaS), ⟨⟨by show j + 1 ≤ Sm.length; omega, hnext hsame, hKj⟩, ⟨inc_slot (k := j) (by omega), trivial⟩, trivial, rfl⟩, by show Sm.length - (j + 1) < Sm.length - j; omega, ⟨same1 rfl rfl, same1 rfl rfl, trivial⟩, ⟨same1 rfl rfl, trivial⟩⟩
      conv => lhs; whnf
      repeat (first | refine go_in j0 ?_ | refine go_rd htop ?_ | refine go_rd r1 ?_
              conv => lhs; whnf)
      refine split_dec (fun hs2 => ?_) (fun hs2 => ?_)
      rotate_left
      · have hsame : touchX ses turn ⟨q1, q2, q3⟩ = ⟨q1, q2, q3⟩ := by unfold touchX; rw [if_neg fun h => hs2 h.2]
        conv => lhs; whnf
        exact (hD _).2 ⟨(⟨j + 1, Aj⟩ : RaS), ⟨⟨by show j + 1 ≤ Sm.length; omega, hnext hsame, hKj⟩, ⟨inc_slot (k := j) (by omega), trivial⟩, trivial, rfl⟩, by show Sm.length - (j + 1) < Sm.length - j; omega, ⟨same1 rfl rfl, same1 rfl rfl, trivial⟩, ⟨same1 rfl rfl, trivial⟩⟩
      have hyes : touchX ses turn ⟨q1, q2, q3⟩ = ⟨q1, q2, max q3 turn⟩ := by unfold touchX; rw [if_pos ⟨hs1, hs2⟩]
      rw [hyes] at hset
      have hroom : Aj.Room gs (0 + j * 3 + 2) 1 := ⟨cc, _, _, h8, by omega, .inl rfl⟩
      conv => lhs; whnf
      repeat (first | refine go_in j0 ?_ | refine go_rd htop ?_ | refine go_rd r3 ?_ | refine go_D hD rfl ?_
              conv => lhs; whnf)
      refine (hD _).2 ⟨hroom, fun A9 hP => ?_⟩
      have hmx : (bif true then bif decide (q3 < turn) then turn else q3 else bif decide (turn < q3) then turn else q3) = max q3 turn := by
        by_cases h9 : q3 < turn
        · simp only [h9, decide_true, cond_true]; omega
        · simp only [h9, decide_false, cond_true, cond_false]; omega
      have hP : Aj.Put A9 gs (0 + j * 3 + 2) [.int .i64 (max q3 turn)] := by rw [← hmx]; exact hP
      obtain ⟨hR9, hK9⟩ := hRj.turnS (k := j) (by omega) (i := 2) (by omega) (w := .int .i64 (max q3 turn)) (x' := ⟨q1, q2, max q3 turn⟩) (by rw [hLj, ← hx]; rfl) hP
      rw [hset] at hR9
      conv => lhs; whnf
      exact (hD _).2 ⟨(⟨j + 1, A9⟩ : RaS), ⟨⟨by show j + 1 ≤ Sm.length; omega, hR9, hKj.trans hK9⟩, ⟨inc_slot (k := j) (by omega), trivial⟩, trivial, rfl⟩, by show Sm.length - (j + 1) < Sm.length - j; omega, ⟨same1 rfl rfl, same1 rfl rfl, trivial⟩, ⟨same1 rfl rfl, trivial⟩⟩
    · have e : j = Sm.length := by
        have hlt2 : ¬ (j : Int) < (Sm.length : Int) := hlt2
        omega
      rw [e, List.take_length, List.drop_length, List.append_nil] at hRj
      have hend : rapplyRS.post (⟨N, S, B, O, r⟩, .mk ⟨zxid, kind, ses, turn, xid, dtime, path, data, owner, ver, cver, tmo, err, cfg, mem⟩ parts, C) [] A (.tuple #[]) Aj := by
        show RefTo A B O r (rapplyN N _) (rapplyS S _) Aj
        rw [← hdd, rapplyN, if_pos hr, rapplyS, if_pos hr, hN1, hN2]
        dsimp only
        rw [← hN0, ← hNe, ← hSms]
        exact ⟨Bm, Om, ⟨l, vn, _, gn, gs, hl, hRj⟩, hSm.trans ⟨hKj.keep, hKj.dom, hKj.own, Arena.Sub.refl _, fun _ _ h => .inl h⟩⟩
      conv => lhs; whnf
      exact (hD _).2 hend
  by_cases h5 : kind = 5
  · rw [if_neg h4, if_pos h5] at hsd
    conv => lhs; whnf
    refine no_dec h4 ?_
    conv => lhs; whnf
    refine go_dec h5 ?_
    conv => lhs; whnf
    refine (hD _).2 ⟨(⟨Nk, S, Bk, Ok, r⟩, owner), ⟨rfl, hRk, by show S.length ≤ 1000000; omega⟩, fun v Am hq => ?_⟩
    have hq : ∃ O', RefAt Am Bk O' r Nk (riseL S owner) ∧ Kept Ak Ok Am O' := hq
    obtain ⟨Om, hRm, hKm⟩ := hq
    obtain ⟨Bm, hBm⟩ : ∃ Bm, Bm = Bk := ⟨_, rfl⟩
    have hSm := hstep hKm
    rw [← hBm] at hSm hRm
    obtain ⟨Sm, hSms⟩ : ∃ Sm, Sm = rsitL S dd := ⟨_, rfl⟩
    rw [← hsd, ← hSms] at hRm
    have hSml : Sm.length ≤ 800001 := by
      have := rsitL_len S dd
      rw [hSms]; omega
    conv => lhs; whnf
    obtain ⟨l, vn, vs', gn, gs, hl, h⟩ := hRm
    obtain ⟨_, ao, c, hvs, hc, hz1, hz2, hz3⟩ := h.srow
    subst hvs
    refine (hD _).2 ⟨rtouchInv Am Bm Om r l Sm vn (.slice ao Sm.length c) gn gs (touchX ses turn), ⟨(⟨0, Am⟩ : RaS), ⟨Nat.zero_le _, by rw [List.take_zero, List.drop_zero]; exact h, Kept.refl _ _⟩, ⟨rfl, trivial⟩, trivial, rfl⟩, fun (sg : RaS) hG => ⟨⟨trivial, trivial⟩, trivial, ?_⟩⟩
    obtain ⟨j, Aj⟩ := sg
    obtain ⟨hj, hRj, hKj⟩ : j ≤ Sm.length ∧ RefR Aj Bm Om r l ((Sm.take j).map (touchX ses turn) ++ Sm.drop j) vn (.slice ao Sm.length c) gn gs ∧ Kept Am Om Aj Om := hG
    have htop : Aj.rd r 1 1 = some [.slice ao Sm.length c] := hRj.top.rd (o := 1) (n := 1) (by show 1 + 1 ≤ 2; omega)
    conv => lhs; whnf
    repeat (refine go_rd htop ?_
            conv => lhs; whnf)
    refine split_dec (fun hlt2 => ?_) (fun hlt2 => ?_)
    · have hjl : j < Sm.length := by
        have hlt2 : (j : Int) < (Sm.length : Int) := hlt2
        omega
      have j0 : (0 : Int) ≤ (j : Int) ∧ (j : Int) < (Sm.length : Int) := by omega
      have hLl := touch_len (touchX ses turn) Sm j
      have hLj := touch_at (touchX ses turn) hjl
      have hset := touch_set (touchX ses turn) hjl
      have hnext : touchX ses turn Sm[j] = Sm[j] → RefR Aj Bm Om r l ((Sm.take (j + 1)).map (touchX ses turn) ++ Sm.drop (j + 1)) vn (.slice ao Sm.length c) gn gs := fun e => by
        rw [← hset, e, ← hLj, List.set_getElem_self]; exact hRj
      obtain ⟨⟨q1, q2, q3⟩, hx⟩ : ∃ x, x = Sm[j] := ⟨_, rfl⟩
      obtain ⟨e9, cc, h8, h9, h10⟩ : ao = some ⟨gs, 0, none⟩ ∧ ∃ cc, Aj.blk gs = some (.cells cc 59 (0, 0)) ∧ ((Sm.take j).map (touchX ses turn) ++ Sm.drop j).length * 3 ≤ cc.size ∧ cc.toList.take (((Sm.take j).map (touchX ses turn) ++ Sm.drop j).length * 3) = ((Sm.take j).map (touchX ses turn) ++ Sm.drop j).flatMap sitC := by
        obtain ⟨_, ao9, c9, e9, _, _, _, h6⟩ := hRj.srow
        obtain ⟨h7, hh⟩ := h6 (by omega)
        injection e9 with e9
        exact ⟨e9.trans h7, hh⟩
      subst e9
      have hrow : Aj.rd gs (0 + j * 3) 3 = some [.int .i64 q1, .int .i64 q2, .int .i64 q3] := by
        have h11 : Aj.rd gs 0 (((Sm.take j).map (touchX ses turn) ++ Sm.drop j).length * 3) = some (((Sm.take j).map (touchX ses turn) ++ Sm.drop j).flatMap sitC) := by rw [rd_mk h8 (by omega), List.drop_zero, h10]
        have h12 := row_at (enc := sitC) (fun _ => rfl) h11 j (by omega) rfl
        rw [hLj, ← hx] at h12
        exact h12
      have r1 : Aj.rd gs (0 + j * 3) 1 = some [.int .i64 q1] := rd_at hrow (i := 0) (m := 1) (by omega)
      have r3 : Aj.rd gs (0 + j * 3 + 2) 1 = some [.int .i64 q3] := rd_at hrow (i := 2) (m := 1) (by omega)
      rw [← hx] at hnext hset
      conv => lhs; whnf
      refine split_dec (fun hs1 => ?_) (fun hs1 => ?_)
      rotate_left
      · have hsame : touchX ses turn ⟨q1, q2, q3⟩ = ⟨q1, q2, q3⟩ := by unfold touchX; rw [if_neg fun h => hs1 h.1]
        conv => lhs; whnf
        exact (hD _).2 ⟨(⟨j + 1, Aj⟩ : RaS), ⟨⟨by show j + 1 ≤ Sm.length; omega, hnext hsame, hKj⟩, ⟨inc_slot (k := j) (by omega), trivial⟩, trivial, rfl⟩, by show Sm.length - (j + 1) < Sm.length - j; omega, ⟨same1 rfl rfl, same1 rfl rfl, trivial⟩, ⟨same1 rfl rfl, trivial⟩⟩
      conv => lhs; whnf
      repeat (first | refine go_in j0 ?_ | refine go_rd htop ?_ | refine go_rd r1 ?_
              conv => lhs; whnf)
      refine split_dec (fun hs2 => ?_) (fun hs2 => ?_)
      rotate_left
      · have hsame : touchX ses turn ⟨q1, q2, q3⟩ = ⟨q1, q2, q3⟩ := by unfold touchX; rw [if_neg fun h => hs2 h.2]
        conv => lhs; whnf
        exact (hD _).2 ⟨(⟨j + 1, Aj⟩ : RaS), ⟨⟨by show j + 1 ≤ Sm.length; omega, hnext hsame, hKj⟩, ⟨inc_slot (k := j) (by omega), trivial⟩, trivial, rfl⟩, by show Sm.length - (j + 1) < Sm.length - j; omega, ⟨same1 rfl rfl, same1 rfl rfl, trivial⟩, ⟨same1 rfl rfl, trivial⟩⟩
      have hyes : touchX ses turn ⟨q1, q2, q3⟩ = ⟨q1, q2, max q3 turn⟩ := by unfold touchX; rw [if_pos ⟨hs1, hs2⟩]
      rw [hyes] at hset
      have hroom : Aj.Room gs (0 + j * 3 + 2) 1 := ⟨cc, _, _, h8, by omega, .inl rfl⟩
      conv => lhs; whnf
      repeat (first | refine go_in j0 ?_ | refine go_rd htop ?_ | refine go_rd r3 ?_ | refine go_D hD rfl ?_
              conv => lhs; whnf)
      refine (hD _).2 ⟨hroom, fun A9 hP => ?_⟩
      have hmx : (bif true then bif decide (q3 < turn) then turn else q3 else bif decide (turn < q3) then turn else q3) = max q3 turn := by
        by_cases h9 : q3 < turn
        · simp only [h9, decide_true, cond_true]; omega
        · simp only [h9, decide_false, cond_true, cond_false]; omega
      have hP : Aj.Put A9 gs (0 + j * 3 + 2) [.int .i64 (max q3 turn)] := by rw [← hmx]; exact hP
      obtain ⟨hR9, hK9⟩ := hRj.turnS (k := j) (by omega) (i := 2) (by omega) (w := .int .i64 (max q3 turn)) (x' := ⟨q1, q2, max q3 turn⟩) (by rw [hLj, ← hx]; rfl) hP
      rw [hset] at hR9
      conv => lhs; whnf
      exact (hD _).2 ⟨(⟨j + 1, A9⟩ : RaS), ⟨⟨by show j + 1 ≤ Sm.length; omega, hR9, hKj.trans hK9⟩, ⟨inc_slot (k := j) (by omega), trivial⟩, trivial, rfl⟩, by show Sm.length - (j + 1) < Sm.length - j; omega, ⟨same1 rfl rfl, same1 rfl rfl, trivial⟩, ⟨same1 rfl rfl, trivial⟩⟩
    · have e : j = Sm.length := by
        have hlt2 : ¬ (j : Int) < (Sm.length : Int) := hlt2
        omega
      rw [e, List.take_length, List.drop_length, List.append_nil] at hRj
      have hend : rapplyRS.post (⟨N, S, B, O, r⟩, .mk ⟨zxid, kind, ses, turn, xid, dtime, path, data, owner, ver, cver, tmo, err, cfg, mem⟩ parts, C) [] A (.tuple #[]) Aj := by
        show RefTo A B O r (rapplyN N _) (rapplyS S _) Aj
        rw [← hdd, rapplyN, if_pos hr, rapplyS, if_pos hr, hN1, hN2]
        dsimp only
        rw [← hN0, ← hNe, ← hSms]
        exact ⟨Bm, Om, ⟨l, vn, _, gn, gs, hl, hRj⟩, hSm.trans ⟨hKj.keep, hKj.dom, hKj.own, Arena.Sub.refl _, fun _ _ h => .inl h⟩⟩
      conv => lhs; whnf
      exact (hD _).2 hend
  · rw [if_neg h4, if_neg h5] at hsd
    obtain ⟨Am, hAm⟩ : ∃ Am, Am = Ak := ⟨_, rfl⟩
    obtain ⟨Bm, hBm⟩ : ∃ Bm, Bm = Bk := ⟨_, rfl⟩
    obtain ⟨Om, hOm⟩ : ∃ Om, Om = Ok := ⟨_, rfl⟩
    subst hAm hBm hOm
    obtain ⟨Sm, hSms⟩ : ∃ Sm, Sm = rsitL S dd := ⟨_, rfl⟩
    have hRm := hRk
    have hSm := hSk
    rw [← hsd, ← hSms] at hRm
    have hSml : Sm.length ≤ 800001 := by
      have := rsitL_len S dd
      rw [hSms]; omega
    conv => lhs; whnf
    refine no_dec h4 ?_
    conv => lhs; whnf
    refine no_dec h5 ?_
    conv => lhs; whnf
    obtain ⟨l, vn, vs', gn, gs, hl, h⟩ := hRm
    obtain ⟨_, ao, c, hvs, hc, hz1, hz2, hz3⟩ := h.srow
    subst hvs
    refine (hD _).2 ⟨rtouchInv Am Bm Om r l Sm vn (.slice ao Sm.length c) gn gs (touchX ses turn), ⟨(⟨0, Am⟩ : RaS), ⟨Nat.zero_le _, by rw [List.take_zero, List.drop_zero]; exact h, Kept.refl _ _⟩, ⟨rfl, trivial⟩, trivial, rfl⟩, fun (sg : RaS) hG => ⟨⟨trivial, trivial⟩, trivial, ?_⟩⟩
    obtain ⟨j, Aj⟩ := sg
    obtain ⟨hj, hRj, hKj⟩ : j ≤ Sm.length ∧ RefR Aj Bm Om r l ((Sm.take j).map (touchX ses turn) ++ Sm.drop j) vn (.slice ao Sm.length c) gn gs ∧ Kept Am Om Aj Om := hG
    have htop : Aj.rd r 1 1 = some [.slice ao Sm.length c] := hRj.top.rd (o := 1) (n := 1) (by show 1 + 1 ≤ 2; omega)
    conv => lhs; whnf
    repeat (refine go_rd htop ?_
            conv => lhs; whnf)
    refine split_dec (fun hlt2 => ?_) (fun hlt2 => ?_)
    · have hjl : j < Sm.length := by
        have hlt2 : (j : Int) < (Sm.length : Int) := hlt2
        omega
      have j0 : (0 : Int) ≤ (j : Int) ∧ (j : Int) < (Sm.length : Int) := by omega
      have hLl := touch_len (touchX ses turn) Sm j
      have hLj := touch_at (touchX ses turn) hjl
      have hset := touch_set (touchX ses turn) hjl
      have hnext : touchX ses turn Sm[j] = Sm[j] → RefR Aj Bm Om r l ((Sm.take (j + 1)).map (touchX ses turn) ++ Sm.drop (j + 1)) vn (.slice ao Sm.length c) gn gs := fun e => by
        rw [← hset, e, ← hLj, List.set_getElem_self]; exact hRj
      obtain ⟨⟨q1, q2, q3⟩, hx⟩ : ∃ x, x = Sm[j] := ⟨_, rfl⟩
      obtain ⟨e9, cc, h8, h9, h10⟩ : ao = some ⟨gs, 0, none⟩ ∧ ∃ cc, Aj.blk gs = some (.cells cc 59 (0, 0)) ∧ ((Sm.take j).map (touchX ses turn) ++ Sm.drop j).length * 3 ≤ cc.size ∧ cc.toList.take (((Sm.take j).map (touchX ses turn) ++ Sm.drop j).length * 3) = ((Sm.take j).map (touchX ses turn) ++ Sm.drop j).flatMap sitC := by
        obtain ⟨_, ao9, c9, e9, _, _, _, h6⟩ := hRj.srow
        obtain ⟨h7, hh⟩ := h6 (by omega)
        injection e9 with e9
        exact ⟨e9.trans h7, hh⟩
      subst e9
      have hrow : Aj.rd gs (0 + j * 3) 3 = some [.int .i64 q1, .int .i64 q2, .int .i64 q3] := by
        have h11 : Aj.rd gs 0 (((Sm.take j).map (touchX ses turn) ++ Sm.drop j).length * 3) = some (((Sm.take j).map (touchX ses turn) ++ Sm.drop j).flatMap sitC) := by rw [rd_mk h8 (by omega), List.drop_zero, h10]
        have h12 := row_at (enc := sitC) (fun _ => rfl) h11 j (by omega) rfl
        rw [hLj, ← hx] at h12
        exact h12
      have r1 : Aj.rd gs (0 + j * 3) 1 = some [.int .i64 q1] := rd_at hrow (i := 0) (m := 1) (by omega)
      have r3 : Aj.rd gs (0 + j * 3 + 2) 1 = some [.int .i64 q3] := rd_at hrow (i := 2) (m := 1) (by omega)
      rw [← hx] at hnext hset
      conv => lhs; whnf
      refine split_dec (fun hs1 => ?_) (fun hs1 => ?_)
      rotate_left
      · have hsame : touchX ses turn ⟨q1, q2, q3⟩ = ⟨q1, q2, q3⟩ := by unfold touchX; rw [if_neg fun h => hs1 h.1]
        conv => lhs; whnf
        exact (hD _).2 ⟨(⟨j + 1, Aj⟩ : RaS), ⟨⟨by show j + 1 ≤ Sm.length; omega, hnext hsame, hKj⟩, ⟨inc_slot (k := j) (by omega), trivial⟩, trivial, rfl⟩, by show Sm.length - (j + 1) < Sm.length - j; omega, ⟨same1 rfl rfl, same1 rfl rfl, trivial⟩, ⟨same1 rfl rfl, trivial⟩⟩
      conv => lhs; whnf
      repeat (first | refine go_in j0 ?_ | refine go_rd htop ?_ | refine go_rd r1 ?_
              conv => lhs; whnf)
      refine split_dec (fun hs2 => ?_) (fun hs2 => ?_)
      rotate_left
      · have hsame : touchX ses turn ⟨q1, q2, q3⟩ = ⟨q1, q2, q3⟩ := by unfold touchX; rw [if_neg fun h => hs2 h.2]
        conv => lhs; whnf
        exact (hD _).2 ⟨(⟨j + 1, Aj⟩ : RaS), ⟨⟨by show j + 1 ≤ Sm.length; omega, hnext hsame, hKj⟩, ⟨inc_slot (k := j) (by omega), trivial⟩, trivial, rfl⟩, by show Sm.length - (j + 1) < Sm.length - j; omega, ⟨same1 rfl rfl, same1 rfl rfl, trivial⟩, ⟨same1 rfl rfl, trivial⟩⟩
      have hyes : touchX ses turn ⟨q1, q2, q3⟩ = ⟨q1, q2, max q3 turn⟩ := by unfold touchX; rw [if_pos ⟨hs1, hs2⟩]
      rw [hyes] at hset
      have hroom : Aj.Room gs (0 + j * 3 + 2) 1 := ⟨cc, _, _, h8, by omega, .inl rfl⟩
      conv => lhs; whnf
      repeat (first | refine go_in j0 ?_ | refine go_rd htop ?_ | refine go_rd r3 ?_ | refine go_D hD rfl ?_
              conv => lhs; whnf)
      refine (hD _).2 ⟨hroom, fun A9 hP => ?_⟩
      have hmx : (bif true then bif decide (q3 < turn) then turn else q3 else bif decide (turn < q3) then turn else q3) = max q3 turn := by
        by_cases h9 : q3 < turn
        · simp only [h9, decide_true, cond_true]; omega
        · simp only [h9, decide_false, cond_true, cond_false]; omega
      have hP : Aj.Put A9 gs (0 + j * 3 + 2) [.int .i64 (max q3 turn)] := by rw [← hmx]; exact hP
      obtain ⟨hR9, hK9⟩ := hRj.turnS (k := j) (by omega) (i := 2) (by omega) (w := .int .i64 (max q3 turn)) (x' := ⟨q1, q2, max q3 turn⟩) (by rw [hLj, ← hx]; rfl) hP
      rw [hset] at hR9
      conv => lhs; whnf
      exact (hD _).2 ⟨(⟨j + 1, A9⟩ : RaS), ⟨⟨by show j + 1 ≤ Sm.length; omega, hR9, hKj.trans hK9⟩, ⟨inc_slot (k := j) (by omega), trivial⟩, trivial, rfl⟩, by show Sm.length - (j + 1) < Sm.length - j; omega, ⟨same1 rfl rfl, same1 rfl rfl, trivial⟩, ⟨same1 rfl rfl, trivial⟩⟩
    · have e : j = Sm.length := by
        have hlt2 : ¬ (j : Int) < (Sm.length : Int) := hlt2
        omega
      rw [e, List.take_length, List.drop_length, List.append_nil] at hRj
      have hend : rapplyRS.post (⟨N, S, B, O, r⟩, .mk ⟨zxid, kind, ses, turn, xid, dtime, path, data, owner, ver, cver, tmo, err, cfg, mem⟩ parts, C) [] A (.tuple #[]) Aj := by
        show RefTo A B O r (rapplyN N _) (rapplyS S _) Aj
        rw [← hdd, rapplyN, if_pos hr, rapplyS, if_pos hr, hN1, hN2]
        dsimp only
        rw [← hN0, ← hNe, ← hSms]
        exact ⟨Bm, Om, ⟨l, vn, _, gn, gs, hl, hRj⟩, hSm.trans ⟨hKj.keep, hKj.dom, hKj.own, Arena.Sub.refl _, fun _ _ h => .inl h⟩⟩
      conv => lhs; whnf
      exact (hD _).2 hend

end
end Go.Proofs.YtbebacffaljckaaGreatDoor
