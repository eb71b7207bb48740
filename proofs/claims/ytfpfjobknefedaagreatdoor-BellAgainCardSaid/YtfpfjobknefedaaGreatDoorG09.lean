/-
  Contracts: has a deed of kind 4, 5, 6 what it may have?
-/
import Derived.Test.YtfpfjobknefedaaGreatDoorG07
namespace Go.Proofs.YtfpfjobknefedaaGreatDoor
open Go.Sx Go.RowKit
noncomputable section
open Classical

set_option linter.unusedSimpArgs false

set_option maxRecDepth 100000 in
set_option maxHeartbeats 0 in
theorem fitsK4 {A : Arena} (hA : HasA A) (zxid ses turn xid time owner ver cver tmo err cfg : Int) (path : ByteArray) (data : List UInt8) (mem : List MemD) (parts : List DeedD) (a7 a14 a15 : Option Addr) (k7 k14 k15 : Nat) :
    Run Tryz.prog C0 noL 60 46 [.v (deedV [.int .i64 zxid, .int .u8 4, .int .i64 ses, .int .i64 turn, .int .i64 xid, .int .i64 time, .string path, .slice a7 data.length k7, .int .i64 owner, .int .i64 ver, .int .i64 cver, .int .i64 tmo, .int .i64 err, .int .i64 cfg, .slice a14 mem.length k14, .slice a15 parts.length k15])] A (endP fitsS (.mk ⟨zxid, 4, ses, turn, xid, time, path, data, owner, ver, cver, tmo, err, cfg, mem⟩ parts) [deedV [.int .i64 zxid, .int .u8 4, .int .i64 ses, .int .i64 turn, .int .i64 xid, .int .i64 time, .string path, .slice a7 data.length k7, .int .i64 owner, .int .i64 ver, .int .i64 cver, .int .i64 tmo, .int .i64 err, .int .i64 cfg, .slice a14 mem.length k14, .slice a15 parts.length k15]] A) := fun blk os out tape D hD => by
  have fin : ∀ {b : Bool}, (b = true ↔ FitsD ⟨zxid, 4, ses, turn, xid, time, path, data, owner, ver, cver, tmo, err, cfg, mem⟩ parts.length) → Value.bool b = .bool (decide (FitsD ⟨zxid, 4, ses, turn, xid, time, path, data, owner, ver, cver, tmo, err, cfg, mem⟩ parts.length)) := fun {b} h => by
    congr 1
    rw [Bool.eq_iff_iff, decide_eq_true_eq]
    exact h
  conv => lhs; whnf
  refine go_rd (hA.at_ 4 (by decide)) ?_
  conv => lhs; whnf
  repeat' (first
    | (refine split_b (fun h => ?_) (fun h => ?_) <;> (simp [beqL_iff, beqL_ff] at h) <;> (conv => lhs; whnf))
    | exact (hD _).2 ⟨rfl, fin (by
        clear fin hA hD
        simp [FitsD, hasK, hasTab, beqL_iff, beqL_ff] <;> first | omega | (intros; omega) | (simp_all; done) | (intros; simp_all; done) | (simp_all; omega))⟩)

set_option maxRecDepth 100000 in
set_option maxHeartbeats 0 in
theorem fitsK5 {A : Arena} (hA : HasA A) (zxid ses turn xid time owner ver cver tmo err cfg : Int) (path : ByteArray) (data : List UInt8) (mem : List MemD) (parts : List DeedD) (a7 a14 a15 : Option Addr) (k7 k14 k15 : Nat) :
    Run Tryz.prog C0 noL 60 46 [.v (deedV [.int .i64 zxid, .int .u8 5, .int .i64 ses, .int .i64 turn, .int .i64 xid, .int .i64 time, .string path, .slice a7 data.length k7, .int .i64 owner, .int .i64 ver, .int .i64 cver, .int .i64 tmo, .int .i64 err, .int .i64 cfg, .slice a14 mem.length k14, .slice a15 parts.length k15])] A (endP fitsS (.mk ⟨zxid, 5, ses, turn, xid, time, path, data, owner, ver, cver, tmo, err, cfg, mem⟩ parts) [deedV [.int .i64 zxid, .int .u8 5, .int .i64 ses, .int .i64 turn, .int .i64 xid, .int .i64 time, .string path, .slice a7 data.length k7, .int .i64 owner, .int .i64 ver, .int .i64 cver, .int .i64 tmo, .int .i64 err, .int .i64 cfg, .slice a14 mem.length k14, .slice a15 parts.length k15]] A) := fun blk os out tape D hD => by
  have fin : ∀ {b : Bool}, (b = true ↔ FitsD ⟨zxid, 5, ses, turn, xid, time, path, data, owner, ver, cver, tmo, err, cfg, mem⟩ parts.length) → Value.bool b = .bool (decide (FitsD ⟨zxid, 5, ses, turn, xid, time, path, data, owner, ver, cver, tmo, err, cfg, mem⟩ parts.length)) := fun {b} h => by
    congr 1
    rw [Bool.eq_iff_iff, decide_eq_true_eq]
    exact h
  conv => lhs; whnf
  refine go_rd (hA.at_ 5 (by decide)) ?_
  conv => lhs; whnf
  repeat' (first
    | (refine split_b (fun h => ?_) (fun h => ?_) <;> (simp [beqL_iff, beqL_ff] at h) <;> (conv => lhs; whnf))
    | exact (hD _).2 ⟨rfl, fin (by
        clear fin hA hD
        simp [FitsD, hasK, hasTab, beqL_iff, beqL_ff] <;> first | omega | (intros; omega) | (simp_all; done) | (intros; simp_all; done) | (simp_all; omega))⟩)

set_option maxRecDepth 100000 in
set_option maxHeartbeats 0 in
theorem fitsK6 {A : Arena} (hA : HasA A) (zxid ses turn xid time owner ver cver tmo err cfg : Int) (path : ByteArray) (data : List UInt8) (mem : List MemD) (parts : List DeedD) (a7 a14 a15 : Option Addr) (k7 k14 k15 : Nat) :
    Run Tryz.prog C0 noL 60 46 [.v (deedV [.int .i64 zxid, .int .u8 6, .int .i64 ses, .int .i64 turn, .int .i64 xid, .int .i64 time, .string path, .slice a7 data.length k7, .int .i64 owner, .int .i64 ver, .int .i64 cver, .int .i64 tmo, .int .i64 err, .int .i64 cfg, .slice a14 mem.length k14, .slice a15 parts.length k15])] A (endP fitsS (.mk ⟨zxid, 6, ses, turn, xid, time, path, data, owner, ver, cver, tmo, err, cfg, mem⟩ parts) [deedV [.int .i64 zxid, .int .u8 6, .int .i64 ses, .int .i64 turn, .int .i64 xid, .int .i64 time, .string path, .slice a7 data.length k7, .int .i64 owner, .int .i64 ver, .int .i64 cver, .int .i64 tmo, .int .i64 err, .int .i64 cfg, .slice a14 mem.length k14, .slice a15 parts.length k15]] A) := fun blk os out tape D hD => by
  have fin : ∀ {b : Bool}, (b = true ↔ FitsD ⟨zxid, 6, ses, turn, xid, time, path, data, owner, ver, cver, tmo, err, cfg, mem⟩ parts.length) → Value.bool b = .bool (decide (FitsD ⟨zxid, 6, ses, turn, xid, time, path, data, owner, ver, cver, tmo, err, cfg, mem⟩ parts.length)) := fun {b} h => by
    congr 1
    rw [Bool.eq_iff_iff, decide_eq_true_eq]
    exact h
  conv => lhs; whnf
  refine go_rd (hA.at_ 6 (by decide)) ?_
  conv => lhs; whnf
  repeat' (first
    | (refine split_b (fun h => ?_) (fun h => ?_) <;> (simp [beqL_iff, beqL_ff] at h) <;> (conv => lhs; whnf))
    | exact (hD _).2 ⟨rfl, fin (by
        clear fin hA hD
        simp [FitsD, hasK, hasTab, beqL_iff, beqL_ff] <;> first | omega | (intros; omega) | (simp_all; done) | (intros; simp_all; done) | (simp_all; omega))⟩)

end
end Go.Proofs.YtfpfjobknefedaaGreatDoor
