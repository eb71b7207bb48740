/-
  Parts of the proof: DeK2
-/
import Derived.Test.YtmmlhdiejkknnaaGreatDoorG07
set_option maxRecDepth 100000
set_option maxHeartbeats 0
namespace Go.Proofs.YtmmlhdiejkknnaaGreatDoor
open Go.Sx Go.RowKit
noncomputable section
open Classical
set_option linter.unusedSimpArgs false
theorem fitsK4{A:aa}(hA:fY A)(zxid ses turn xid time owner ver cver tmo err cfg:Int)(path:ByteArray)(data:List UInt8)(mem:List bC)(parts:List aU)(a7 a14 a15:Option Addr)(k7 k14 k15:Nat):
  Run Tryz.prog C0 noL 60 117 [.v (dy [.int .i64 zxid,.int .u8 4,.int .i64 ses,.int .i64 turn,.int .i64 xid,.int .i64 time,.string path,.slice a7 data.length k7,.int .i64 owner,.int .i64 ver,.int .i64 cver,.int .i64 tmo,.int .i64 err,.int .i64 cfg,.slice a14 mem.length k14,.slice a15 parts.length k15])] A (mU dh (.mk ⟨zxid,4,ses,turn,xid,time,path,data,owner,ver,cver,tmo,err,cfg,mem⟩ parts) [dy [.int .i64 zxid,.int .u8 4,.int .i64 ses,.int .i64 turn,.int .i64 xid,.int .i64 time,.string path,.slice a7 data.length k7,.int .i64 owner,.int .i64 ver,.int .i64 cver,.int .i64 tmo,.int .i64 err,.int .i64 cfg,.slice a14 mem.length k14,.slice a15 parts.length k15]] A):=fun blk os out tape D hD=>by
 have fin:∀ {b:Bool},(b=true↔bZ ⟨zxid,4,ses,turn,xid,time,path,data,owner,ver,cver,tmo,err,cfg,mem⟩ parts.length)→Value.bool b= .bool (decide (bZ ⟨zxid,4,ses,turn,xid,time,path,data,owner,ver,cver,tmo,err,cfg,mem⟩ parts.length)):=fun {b} h=>by
  congr 1;rw [Bool.eq_iff_iff,decide_eq_true_eq];exact h
 conv=>lhs;whnf
 refine ai (hA.at_ 4 (by decide)) ?_;conv=>lhs;whnf
 repeat' (first
  |(refine bw (fun h=> ?_) (fun h=> ?_)<;>(simp [bu,cr]at h)<;>(conv=>lhs;whnf))
  |exact(hD _).2 ⟨rfl,fin (by
    clear fin hA hD
    simp [bZ,jz,gj,bu,cr]<;>first|omega|(intros;omega)|(simp_all;done)|(intros;simp_all;done)|(simp_all;omega))⟩)
theorem fitsK5{A:aa}(hA:fY A)(zxid ses turn xid time owner ver cver tmo err cfg:Int)(path:ByteArray)(data:List UInt8)(mem:List bC)(parts:List aU)(a7 a14 a15:Option Addr)(k7 k14 k15:Nat):
  Run Tryz.prog C0 noL 60 117 [.v (dy [.int .i64 zxid,.int .u8 5,.int .i64 ses,.int .i64 turn,.int .i64 xid,.int .i64 time,.string path,.slice a7 data.length k7,.int .i64 owner,.int .i64 ver,.int .i64 cver,.int .i64 tmo,.int .i64 err,.int .i64 cfg,.slice a14 mem.length k14,.slice a15 parts.length k15])] A (mU dh (.mk ⟨zxid,5,ses,turn,xid,time,path,data,owner,ver,cver,tmo,err,cfg,mem⟩ parts) [dy [.int .i64 zxid,.int .u8 5,.int .i64 ses,.int .i64 turn,.int .i64 xid,.int .i64 time,.string path,.slice a7 data.length k7,.int .i64 owner,.int .i64 ver,.int .i64 cver,.int .i64 tmo,.int .i64 err,.int .i64 cfg,.slice a14 mem.length k14,.slice a15 parts.length k15]] A):=fun blk os out tape D hD=>by
 have fin:∀ {b:Bool},(b=true↔bZ ⟨zxid,5,ses,turn,xid,time,path,data,owner,ver,cver,tmo,err,cfg,mem⟩ parts.length)→Value.bool b= .bool (decide (bZ ⟨zxid,5,ses,turn,xid,time,path,data,owner,ver,cver,tmo,err,cfg,mem⟩ parts.length)):=fun {b} h=>by
  congr 1;rw [Bool.eq_iff_iff,decide_eq_true_eq];exact h
 conv=>lhs;whnf
 refine ai (hA.at_ 5 (by decide)) ?_;conv=>lhs;whnf
 repeat' (first
  |(refine bw (fun h=> ?_) (fun h=> ?_)<;>(simp [bu,cr]at h)<;>(conv=>lhs;whnf))
  |exact(hD _).2 ⟨rfl,fin (by
    clear fin hA hD
    simp [bZ,jz,gj,bu,cr]<;>first|omega|(intros;omega)|(simp_all;done)|(intros;simp_all;done)|(simp_all;omega))⟩)
theorem fitsK6{A:aa}(hA:fY A)(zxid ses turn xid time owner ver cver tmo err cfg:Int)(path:ByteArray)(data:List UInt8)(mem:List bC)(parts:List aU)(a7 a14 a15:Option Addr)(k7 k14 k15:Nat):
  Run Tryz.prog C0 noL 60 117 [.v (dy [.int .i64 zxid,.int .u8 6,.int .i64 ses,.int .i64 turn,.int .i64 xid,.int .i64 time,.string path,.slice a7 data.length k7,.int .i64 owner,.int .i64 ver,.int .i64 cver,.int .i64 tmo,.int .i64 err,.int .i64 cfg,.slice a14 mem.length k14,.slice a15 parts.length k15])] A (mU dh (.mk ⟨zxid,6,ses,turn,xid,time,path,data,owner,ver,cver,tmo,err,cfg,mem⟩ parts) [dy [.int .i64 zxid,.int .u8 6,.int .i64 ses,.int .i64 turn,.int .i64 xid,.int .i64 time,.string path,.slice a7 data.length k7,.int .i64 owner,.int .i64 ver,.int .i64 cver,.int .i64 tmo,.int .i64 err,.int .i64 cfg,.slice a14 mem.length k14,.slice a15 parts.length k15]] A):=fun blk os out tape D hD=>by
 have fin:∀ {b:Bool},(b=true↔bZ ⟨zxid,6,ses,turn,xid,time,path,data,owner,ver,cver,tmo,err,cfg,mem⟩ parts.length)→Value.bool b= .bool (decide (bZ ⟨zxid,6,ses,turn,xid,time,path,data,owner,ver,cver,tmo,err,cfg,mem⟩ parts.length)):=fun {b} h=>by
  congr 1;rw [Bool.eq_iff_iff,decide_eq_true_eq];exact h
 conv=>lhs;whnf
 refine ai (hA.at_ 6 (by decide)) ?_;conv=>lhs;whnf
 repeat' (first
  |(refine bw (fun h=> ?_) (fun h=> ?_)<;>(simp [bu,cr]at h)<;>(conv=>lhs;whnf))
  |exact(hD _).2 ⟨rfl,fin (by
    clear fin hA hD
    simp [bZ,jz,gj,bu,cr]<;>first|omega|(intros;omega)|(simp_all;done)|(intros;simp_all;done)|(simp_all;omega))⟩)
end
end Go.Proofs.YtmmlhdiejkknnaaGreatDoor
