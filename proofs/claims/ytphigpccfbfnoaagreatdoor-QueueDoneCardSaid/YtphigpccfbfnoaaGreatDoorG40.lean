/-
  Parts of the proof: ReA
-/
import Derived.Test.YtphigpccfbfnoaaGreatDoorG24
set_option maxRecDepth 100000
set_option maxHeartbeats 0
namespace Go.Proofs.YtphigpccfbfnoaaGreatDoor
open Go.Sx Go.RowKit
noncomputable section
open Classical
def bG(h:bJ)(np:Nat):Prop:=
 (h.kind=1∨h.kind=2∨h.kind=3∨h.path.data.toList= [])∧(h.kind=1∨h.kind=3∨h.data.length=0)∧(h.kind=1∨h.kind=5∨h.owner=0)∧(h.kind=5∨h.kind=8∨np=0)∧
 (h.kind=3∨h.ver=0)∧(h.kind=1∨h.kind=2∨h.cver=0)∧(h.kind=4∨h.tmo=0)∧(h.kind=9∨h.err=0)∧(h.kind=7∨(h.cfg=0∧h.mem.length=0))
def jO:aL:=⟨aB,fun d vs A=>∃cs,vs= [bx cs]∧bj A d cs,fun d _ A v A'=>A'=A∧v= .bool (decide (bG d.h d.parts.length))⟩
theorem bare1(zxid ses ah xid dtime:Int)(path:ByteArray)(data:List UInt8)(owner ver cver tmo err cfg:Int)(mem:List bT)(parts:List aB)(a7 a14 a15:Option Addr)(k7 k14 k15:Nat)(A:aa):
  Run Tryz.prog noC noL 60 78 [.v (.agg #[.int .i64 zxid,.int .u8 1,.int .i64 ses,.int .i64 ah,.int .i64 xid,.int .i64 dtime,.string path,.slice a7 data.length k7,.int .i64 owner,.int .i64 ver,.int .i64 cver,.int .i64 tmo,.int .i64 err,.int .i64 cfg,.slice a14 mem.length k14,.slice a15 parts.length k15])] A (ir jO (.mk ⟨zxid,1,ses,ah,xid,dtime,path,data,owner,ver,cver,tmo,err,cfg,mem⟩ parts) [.agg #[.int .i64 zxid,.int .u8 1,.int .i64 ses,.int .i64 ah,.int .i64 xid,.int .i64 dtime,.string path,.slice a7 data.length k7,.int .i64 owner,.int .i64 ver,.int .i64 cver,.int .i64 tmo,.int .i64 err,.int .i64 cfg,.slice a14 mem.length k14,.slice a15 parts.length k15]] A):=by
 intro blk os out tape D hD;have hbq:∀l m:List UInt8,eW l m=(l==m):=cP;have bad:¬bG ⟨zxid,1,ses,ah,xid,dtime,path,data,owner,ver,cver,tmo,err,cfg,mem⟩ parts.length→Value.bool false= .bool (decide (bG ⟨zxid,1,ses,ah,xid,dtime,path,data,owner,ver,cver,tmo,err,cfg,mem⟩ parts.length)):=fun hb=>by rw [decide_eq_false hb]
 have good:∀b:Bool,(b=true↔bG ⟨zxid,1,ses,ah,xid,dtime,path,data,owner,ver,cver,tmo,err,cfg,mem⟩ parts.length)→Value.bool b= .bool (decide (bG ⟨zxid,1,ses,ah,xid,dtime,path,data,owner,ver,cver,tmo,err,cfg,mem⟩ parts.length)):=fun b hb=>by
  congr 1;rw [Bool.eq_iff_iff,hb,decide_eq_true_iff]
 conv=>lhs;whnf
 repeat
  (refine aQ (fun h=> ?_) (fun h=> ?_)
   ·conv=>lhs;whnf
    exact(hD _).2 ⟨rfl,bad fun hB=>by
     obtain⟨b1,b2,b3,b4,b5,b6,b7,b8,b9⟩:=hB
     simp_all⟩
   conv=>lhs;whnf
   )
 refine ab (fun hc=> ?_) (fun hc=> ?_)<;>(conv=>lhs;whnf)
 ·exact(hD _).2 ⟨rfl,good (decide ((mem.length:Int)=0)) (by
   simp only [bG]
   simp_all)⟩
 ·exact(hD _).2 ⟨rfl,bad fun hB=>by
   obtain⟨b1,b2,b3,b4,b5,b6,b7,b8,b9⟩:=hB
   simp_all⟩
theorem bare2(zxid ses ah xid dtime:Int)(path:ByteArray)(data:List UInt8)(owner ver cver tmo err cfg:Int)(mem:List bT)(parts:List aB)(a7 a14 a15:Option Addr)(k7 k14 k15:Nat)(A:aa):
  Run Tryz.prog noC noL 60 78 [.v (.agg #[.int .i64 zxid,.int .u8 2,.int .i64 ses,.int .i64 ah,.int .i64 xid,.int .i64 dtime,.string path,.slice a7 data.length k7,.int .i64 owner,.int .i64 ver,.int .i64 cver,.int .i64 tmo,.int .i64 err,.int .i64 cfg,.slice a14 mem.length k14,.slice a15 parts.length k15])] A (ir jO (.mk ⟨zxid,2,ses,ah,xid,dtime,path,data,owner,ver,cver,tmo,err,cfg,mem⟩ parts) [.agg #[.int .i64 zxid,.int .u8 2,.int .i64 ses,.int .i64 ah,.int .i64 xid,.int .i64 dtime,.string path,.slice a7 data.length k7,.int .i64 owner,.int .i64 ver,.int .i64 cver,.int .i64 tmo,.int .i64 err,.int .i64 cfg,.slice a14 mem.length k14,.slice a15 parts.length k15]] A):=by
 intro blk os out tape D hD;have hbq:∀l m:List UInt8,eW l m=(l==m):=cP;have bad:¬bG ⟨zxid,2,ses,ah,xid,dtime,path,data,owner,ver,cver,tmo,err,cfg,mem⟩ parts.length→Value.bool false= .bool (decide (bG ⟨zxid,2,ses,ah,xid,dtime,path,data,owner,ver,cver,tmo,err,cfg,mem⟩ parts.length)):=fun hb=>by rw [decide_eq_false hb]
 have good:∀b:Bool,(b=true↔bG ⟨zxid,2,ses,ah,xid,dtime,path,data,owner,ver,cver,tmo,err,cfg,mem⟩ parts.length)→Value.bool b= .bool (decide (bG ⟨zxid,2,ses,ah,xid,dtime,path,data,owner,ver,cver,tmo,err,cfg,mem⟩ parts.length)):=fun b hb=>by
  congr 1;rw [Bool.eq_iff_iff,hb,decide_eq_true_iff]
 conv=>lhs;whnf
 repeat
  (refine aQ (fun h=> ?_) (fun h=> ?_)
   ·conv=>lhs;whnf
    exact(hD _).2 ⟨rfl,bad fun hB=>by
     obtain⟨b1,b2,b3,b4,b5,b6,b7,b8,b9⟩:=hB
     simp_all⟩
   conv=>lhs;whnf
   )
 refine ab (fun hc=> ?_) (fun hc=> ?_)<;>(conv=>lhs;whnf)
 ·exact(hD _).2 ⟨rfl,good (decide ((mem.length:Int)=0)) (by
   simp only [bG]
   simp_all)⟩
 ·exact(hD _).2 ⟨rfl,bad fun hB=>by
   obtain⟨b1,b2,b3,b4,b5,b6,b7,b8,b9⟩:=hB
   simp_all⟩
theorem bare3(zxid ses ah xid dtime:Int)(path:ByteArray)(data:List UInt8)(owner ver cver tmo err cfg:Int)(mem:List bT)(parts:List aB)(a7 a14 a15:Option Addr)(k7 k14 k15:Nat)(A:aa):
  Run Tryz.prog noC noL 60 78 [.v (.agg #[.int .i64 zxid,.int .u8 3,.int .i64 ses,.int .i64 ah,.int .i64 xid,.int .i64 dtime,.string path,.slice a7 data.length k7,.int .i64 owner,.int .i64 ver,.int .i64 cver,.int .i64 tmo,.int .i64 err,.int .i64 cfg,.slice a14 mem.length k14,.slice a15 parts.length k15])] A (ir jO (.mk ⟨zxid,3,ses,ah,xid,dtime,path,data,owner,ver,cver,tmo,err,cfg,mem⟩ parts) [.agg #[.int .i64 zxid,.int .u8 3,.int .i64 ses,.int .i64 ah,.int .i64 xid,.int .i64 dtime,.string path,.slice a7 data.length k7,.int .i64 owner,.int .i64 ver,.int .i64 cver,.int .i64 tmo,.int .i64 err,.int .i64 cfg,.slice a14 mem.length k14,.slice a15 parts.length k15]] A):=by
 intro blk os out tape D hD;have hbq:∀l m:List UInt8,eW l m=(l==m):=cP;have bad:¬bG ⟨zxid,3,ses,ah,xid,dtime,path,data,owner,ver,cver,tmo,err,cfg,mem⟩ parts.length→Value.bool false= .bool (decide (bG ⟨zxid,3,ses,ah,xid,dtime,path,data,owner,ver,cver,tmo,err,cfg,mem⟩ parts.length)):=fun hb=>by rw [decide_eq_false hb]
 have good:∀b:Bool,(b=true↔bG ⟨zxid,3,ses,ah,xid,dtime,path,data,owner,ver,cver,tmo,err,cfg,mem⟩ parts.length)→Value.bool b= .bool (decide (bG ⟨zxid,3,ses,ah,xid,dtime,path,data,owner,ver,cver,tmo,err,cfg,mem⟩ parts.length)):=fun b hb=>by
  congr 1;rw [Bool.eq_iff_iff,hb,decide_eq_true_iff]
 conv=>lhs;whnf
 repeat
  (refine aQ (fun h=> ?_) (fun h=> ?_)
   ·conv=>lhs;whnf
    exact(hD _).2 ⟨rfl,bad fun hB=>by
     obtain⟨b1,b2,b3,b4,b5,b6,b7,b8,b9⟩:=hB
     simp_all⟩
   conv=>lhs;whnf
   )
 refine ab (fun hc=> ?_) (fun hc=> ?_)<;>(conv=>lhs;whnf)
 ·exact(hD _).2 ⟨rfl,good (decide ((mem.length:Int)=0)) (by
   simp only [bG]
   simp_all)⟩
 ·exact(hD _).2 ⟨rfl,bad fun hB=>by
   obtain⟨b1,b2,b3,b4,b5,b6,b7,b8,b9⟩:=hB
   simp_all⟩
theorem bare4(zxid ses ah xid dtime:Int)(path:ByteArray)(data:List UInt8)(owner ver cver tmo err cfg:Int)(mem:List bT)(parts:List aB)(a7 a14 a15:Option Addr)(k7 k14 k15:Nat)(A:aa):
  Run Tryz.prog noC noL 60 78 [.v (.agg #[.int .i64 zxid,.int .u8 4,.int .i64 ses,.int .i64 ah,.int .i64 xid,.int .i64 dtime,.string path,.slice a7 data.length k7,.int .i64 owner,.int .i64 ver,.int .i64 cver,.int .i64 tmo,.int .i64 err,.int .i64 cfg,.slice a14 mem.length k14,.slice a15 parts.length k15])] A (ir jO (.mk ⟨zxid,4,ses,ah,xid,dtime,path,data,owner,ver,cver,tmo,err,cfg,mem⟩ parts) [.agg #[.int .i64 zxid,.int .u8 4,.int .i64 ses,.int .i64 ah,.int .i64 xid,.int .i64 dtime,.string path,.slice a7 data.length k7,.int .i64 owner,.int .i64 ver,.int .i64 cver,.int .i64 tmo,.int .i64 err,.int .i64 cfg,.slice a14 mem.length k14,.slice a15 parts.length k15]] A):=by
 intro blk os out tape D hD;have hbq:∀l m:List UInt8,eW l m=(l==m):=cP;have bad:¬bG ⟨zxid,4,ses,ah,xid,dtime,path,data,owner,ver,cver,tmo,err,cfg,mem⟩ parts.length→Value.bool false= .bool (decide (bG ⟨zxid,4,ses,ah,xid,dtime,path,data,owner,ver,cver,tmo,err,cfg,mem⟩ parts.length)):=fun hb=>by rw [decide_eq_false hb]
 have good:∀b:Bool,(b=true↔bG ⟨zxid,4,ses,ah,xid,dtime,path,data,owner,ver,cver,tmo,err,cfg,mem⟩ parts.length)→Value.bool b= .bool (decide (bG ⟨zxid,4,ses,ah,xid,dtime,path,data,owner,ver,cver,tmo,err,cfg,mem⟩ parts.length)):=fun b hb=>by
  congr 1;rw [Bool.eq_iff_iff,hb,decide_eq_true_iff]
 conv=>lhs;whnf
 repeat
  (refine aQ (fun h=> ?_) (fun h=> ?_)
   ·conv=>lhs;whnf
    exact(hD _).2 ⟨rfl,bad fun hB=>by
     obtain⟨b1,b2,b3,b4,b5,b6,b7,b8,b9⟩:=hB
     simp_all⟩
   conv=>lhs;whnf
   )
 refine ab (fun hc=> ?_) (fun hc=> ?_)<;>(conv=>lhs;whnf)
 ·exact(hD _).2 ⟨rfl,good (decide ((mem.length:Int)=0)) (by
   simp only [bG]
   simp_all)⟩
 ·exact(hD _).2 ⟨rfl,bad fun hB=>by
   obtain⟨b1,b2,b3,b4,b5,b6,b7,b8,b9⟩:=hB
   simp_all⟩
theorem bare5(zxid ses ah xid dtime:Int)(path:ByteArray)(data:List UInt8)(owner ver cver tmo err cfg:Int)(mem:List bT)(parts:List aB)(a7 a14 a15:Option Addr)(k7 k14 k15:Nat)(A:aa):
  Run Tryz.prog noC noL 60 78 [.v (.agg #[.int .i64 zxid,.int .u8 5,.int .i64 ses,.int .i64 ah,.int .i64 xid,.int .i64 dtime,.string path,.slice a7 data.length k7,.int .i64 owner,.int .i64 ver,.int .i64 cver,.int .i64 tmo,.int .i64 err,.int .i64 cfg,.slice a14 mem.length k14,.slice a15 parts.length k15])] A (ir jO (.mk ⟨zxid,5,ses,ah,xid,dtime,path,data,owner,ver,cver,tmo,err,cfg,mem⟩ parts) [.agg #[.int .i64 zxid,.int .u8 5,.int .i64 ses,.int .i64 ah,.int .i64 xid,.int .i64 dtime,.string path,.slice a7 data.length k7,.int .i64 owner,.int .i64 ver,.int .i64 cver,.int .i64 tmo,.int .i64 err,.int .i64 cfg,.slice a14 mem.length k14,.slice a15 parts.length k15]] A):=by
 intro blk os out tape D hD;have hbq:∀l m:List UInt8,eW l m=(l==m):=cP;have bad:¬bG ⟨zxid,5,ses,ah,xid,dtime,path,data,owner,ver,cver,tmo,err,cfg,mem⟩ parts.length→Value.bool false= .bool (decide (bG ⟨zxid,5,ses,ah,xid,dtime,path,data,owner,ver,cver,tmo,err,cfg,mem⟩ parts.length)):=fun hb=>by rw [decide_eq_false hb]
 have good:∀b:Bool,(b=true↔bG ⟨zxid,5,ses,ah,xid,dtime,path,data,owner,ver,cver,tmo,err,cfg,mem⟩ parts.length)→Value.bool b= .bool (decide (bG ⟨zxid,5,ses,ah,xid,dtime,path,data,owner,ver,cver,tmo,err,cfg,mem⟩ parts.length)):=fun b hb=>by
  congr 1;rw [Bool.eq_iff_iff,hb,decide_eq_true_iff]
 conv=>lhs;whnf
 repeat
  (refine aQ (fun h=> ?_) (fun h=> ?_)
   ·conv=>lhs;whnf
    exact(hD _).2 ⟨rfl,bad fun hB=>by
     obtain⟨b1,b2,b3,b4,b5,b6,b7,b8,b9⟩:=hB
     simp_all⟩
   conv=>lhs;whnf
   )
 refine ab (fun hc=> ?_) (fun hc=> ?_)<;>(conv=>lhs;whnf)
 ·exact(hD _).2 ⟨rfl,good (decide ((mem.length:Int)=0)) (by
   simp only [bG]
   simp_all)⟩
 ·exact(hD _).2 ⟨rfl,bad fun hB=>by
   obtain⟨b1,b2,b3,b4,b5,b6,b7,b8,b9⟩:=hB
   simp_all⟩
theorem bare6(zxid ses ah xid dtime:Int)(path:ByteArray)(data:List UInt8)(owner ver cver tmo err cfg:Int)(mem:List bT)(parts:List aB)(a7 a14 a15:Option Addr)(k7 k14 k15:Nat)(A:aa):
  Run Tryz.prog noC noL 60 78 [.v (.agg #[.int .i64 zxid,.int .u8 6,.int .i64 ses,.int .i64 ah,.int .i64 xid,.int .i64 dtime,.string path,.slice a7 data.length k7,.int .i64 owner,.int .i64 ver,.int .i64 cver,.int .i64 tmo,.int .i64 err,.int .i64 cfg,.slice a14 mem.length k14,.slice a15 parts.length k15])] A (ir jO (.mk ⟨zxid,6,ses,ah,xid,dtime,path,data,owner,ver,cver,tmo,err,cfg,mem⟩ parts) [.agg #[.int .i64 zxid,.int .u8 6,.int .i64 ses,.int .i64 ah,.int .i64 xid,.int .i64 dtime,.string path,.slice a7 data.length k7,.int .i64 owner,.int .i64 ver,.int .i64 cver,.int .i64 tmo,.int .i64 err,.int .i64 cfg,.slice a14 mem.length k14,.slice a15 parts.length k15]] A):=by
 intro blk os out tape D hD;have hbq:∀l m:List UInt8,eW l m=(l==m):=cP;have bad:¬bG ⟨zxid,6,ses,ah,xid,dtime,path,data,owner,ver,cver,tmo,err,cfg,mem⟩ parts.length→Value.bool false= .bool (decide (bG ⟨zxid,6,ses,ah,xid,dtime,path,data,owner,ver,cver,tmo,err,cfg,mem⟩ parts.length)):=fun hb=>by rw [decide_eq_false hb]
 have good:∀b:Bool,(b=true↔bG ⟨zxid,6,ses,ah,xid,dtime,path,data,owner,ver,cver,tmo,err,cfg,mem⟩ parts.length)→Value.bool b= .bool (decide (bG ⟨zxid,6,ses,ah,xid,dtime,path,data,owner,ver,cver,tmo,err,cfg,mem⟩ parts.length)):=fun b hb=>by
  congr 1;rw [Bool.eq_iff_iff,hb,decide_eq_true_iff]
 conv=>lhs;whnf
 repeat
  (refine aQ (fun h=> ?_) (fun h=> ?_)
   ·conv=>lhs;whnf
    exact(hD _).2 ⟨rfl,bad fun hB=>by
     obtain⟨b1,b2,b3,b4,b5,b6,b7,b8,b9⟩:=hB
     simp_all⟩
   conv=>lhs;whnf
   )
 refine ab (fun hc=> ?_) (fun hc=> ?_)<;>(conv=>lhs;whnf)
 ·exact(hD _).2 ⟨rfl,good (decide ((mem.length:Int)=0)) (by
   simp only [bG]
   simp_all)⟩
 ·exact(hD _).2 ⟨rfl,bad fun hB=>by
   obtain⟨b1,b2,b3,b4,b5,b6,b7,b8,b9⟩:=hB
   simp_all⟩
theorem bare7(zxid ses ah xid dtime:Int)(path:ByteArray)(data:List UInt8)(owner ver cver tmo err cfg:Int)(mem:List bT)(parts:List aB)(a7 a14 a15:Option Addr)(k7 k14 k15:Nat)(A:aa):
  Run Tryz.prog noC noL 60 78 [.v (.agg #[.int .i64 zxid,.int .u8 7,.int .i64 ses,.int .i64 ah,.int .i64 xid,.int .i64 dtime,.string path,.slice a7 data.length k7,.int .i64 owner,.int .i64 ver,.int .i64 cver,.int .i64 tmo,.int .i64 err,.int .i64 cfg,.slice a14 mem.length k14,.slice a15 parts.length k15])] A (ir jO (.mk ⟨zxid,7,ses,ah,xid,dtime,path,data,owner,ver,cver,tmo,err,cfg,mem⟩ parts) [.agg #[.int .i64 zxid,.int .u8 7,.int .i64 ses,.int .i64 ah,.int .i64 xid,.int .i64 dtime,.string path,.slice a7 data.length k7,.int .i64 owner,.int .i64 ver,.int .i64 cver,.int .i64 tmo,.int .i64 err,.int .i64 cfg,.slice a14 mem.length k14,.slice a15 parts.length k15]] A):=by
 intro blk os out tape D hD;have hbq:∀l m:List UInt8,eW l m=(l==m):=cP;have bad:¬bG ⟨zxid,7,ses,ah,xid,dtime,path,data,owner,ver,cver,tmo,err,cfg,mem⟩ parts.length→Value.bool false= .bool (decide (bG ⟨zxid,7,ses,ah,xid,dtime,path,data,owner,ver,cver,tmo,err,cfg,mem⟩ parts.length)):=fun hb=>by rw [decide_eq_false hb]
 have good:∀b:Bool,(b=true↔bG ⟨zxid,7,ses,ah,xid,dtime,path,data,owner,ver,cver,tmo,err,cfg,mem⟩ parts.length)→Value.bool b= .bool (decide (bG ⟨zxid,7,ses,ah,xid,dtime,path,data,owner,ver,cver,tmo,err,cfg,mem⟩ parts.length)):=fun b hb=>by
  congr 1;rw [Bool.eq_iff_iff,hb,decide_eq_true_iff]
 conv=>lhs;whnf
 repeat
  (refine aQ (fun h=> ?_) (fun h=> ?_)
   ·conv=>lhs;whnf
    exact(hD _).2 ⟨rfl,bad fun hB=>by
     obtain⟨b1,b2,b3,b4,b5,b6,b7,b8,b9⟩:=hB
     simp_all⟩
   conv=>lhs;whnf
   )
 exact(hD _).2 ⟨rfl,good true (by
  simp only [bG]
  simp_all)⟩
theorem bare8(zxid ses ah xid dtime:Int)(path:ByteArray)(data:List UInt8)(owner ver cver tmo err cfg:Int)(mem:List bT)(parts:List aB)(a7 a14 a15:Option Addr)(k7 k14 k15:Nat)(A:aa):
  Run Tryz.prog noC noL 60 78 [.v (.agg #[.int .i64 zxid,.int .u8 8,.int .i64 ses,.int .i64 ah,.int .i64 xid,.int .i64 dtime,.string path,.slice a7 data.length k7,.int .i64 owner,.int .i64 ver,.int .i64 cver,.int .i64 tmo,.int .i64 err,.int .i64 cfg,.slice a14 mem.length k14,.slice a15 parts.length k15])] A (ir jO (.mk ⟨zxid,8,ses,ah,xid,dtime,path,data,owner,ver,cver,tmo,err,cfg,mem⟩ parts) [.agg #[.int .i64 zxid,.int .u8 8,.int .i64 ses,.int .i64 ah,.int .i64 xid,.int .i64 dtime,.string path,.slice a7 data.length k7,.int .i64 owner,.int .i64 ver,.int .i64 cver,.int .i64 tmo,.int .i64 err,.int .i64 cfg,.slice a14 mem.length k14,.slice a15 parts.length k15]] A):=by
 intro blk os out tape D hD;have hbq:∀l m:List UInt8,eW l m=(l==m):=cP;have bad:¬bG ⟨zxid,8,ses,ah,xid,dtime,path,data,owner,ver,cver,tmo,err,cfg,mem⟩ parts.length→Value.bool false= .bool (decide (bG ⟨zxid,8,ses,ah,xid,dtime,path,data,owner,ver,cver,tmo,err,cfg,mem⟩ parts.length)):=fun hb=>by rw [decide_eq_false hb]
 have good:∀b:Bool,(b=true↔bG ⟨zxid,8,ses,ah,xid,dtime,path,data,owner,ver,cver,tmo,err,cfg,mem⟩ parts.length)→Value.bool b= .bool (decide (bG ⟨zxid,8,ses,ah,xid,dtime,path,data,owner,ver,cver,tmo,err,cfg,mem⟩ parts.length)):=fun b hb=>by
  congr 1;rw [Bool.eq_iff_iff,hb,decide_eq_true_iff]
 conv=>lhs;whnf
 repeat
  (refine aQ (fun h=> ?_) (fun h=> ?_)
   ·conv=>lhs;whnf
    exact(hD _).2 ⟨rfl,bad fun hB=>by
     obtain⟨b1,b2,b3,b4,b5,b6,b7,b8,b9⟩:=hB
     simp_all⟩
   conv=>lhs;whnf
   )
 refine ab (fun hc=> ?_) (fun hc=> ?_)<;>(conv=>lhs;whnf)
 ·exact(hD _).2 ⟨rfl,good (decide ((mem.length:Int)=0)) (by
   simp only [bG]
   simp_all)⟩
 ·exact(hD _).2 ⟨rfl,bad fun hB=>by
   obtain⟨b1,b2,b3,b4,b5,b6,b7,b8,b9⟩:=hB
   simp_all⟩
theorem bare9(zxid ses ah xid dtime:Int)(path:ByteArray)(data:List UInt8)(owner ver cver tmo err cfg:Int)(mem:List bT)(parts:List aB)(a7 a14 a15:Option Addr)(k7 k14 k15:Nat)(A:aa):
  Run Tryz.prog noC noL 60 78 [.v (.agg #[.int .i64 zxid,.int .u8 9,.int .i64 ses,.int .i64 ah,.int .i64 xid,.int .i64 dtime,.string path,.slice a7 data.length k7,.int .i64 owner,.int .i64 ver,.int .i64 cver,.int .i64 tmo,.int .i64 err,.int .i64 cfg,.slice a14 mem.length k14,.slice a15 parts.length k15])] A (ir jO (.mk ⟨zxid,9,ses,ah,xid,dtime,path,data,owner,ver,cver,tmo,err,cfg,mem⟩ parts) [.agg #[.int .i64 zxid,.int .u8 9,.int .i64 ses,.int .i64 ah,.int .i64 xid,.int .i64 dtime,.string path,.slice a7 data.length k7,.int .i64 owner,.int .i64 ver,.int .i64 cver,.int .i64 tmo,.int .i64 err,.int .i64 cfg,.slice a14 mem.length k14,.slice a15 parts.length k15]] A):=by
 intro blk os out tape D hD;have hbq:∀l m:List UInt8,eW l m=(l==m):=cP;have bad:¬bG ⟨zxid,9,ses,ah,xid,dtime,path,data,owner,ver,cver,tmo,err,cfg,mem⟩ parts.length→Value.bool false= .bool (decide (bG ⟨zxid,9,ses,ah,xid,dtime,path,data,owner,ver,cver,tmo,err,cfg,mem⟩ parts.length)):=fun hb=>by rw [decide_eq_false hb]
 have good:∀b:Bool,(b=true↔bG ⟨zxid,9,ses,ah,xid,dtime,path,data,owner,ver,cver,tmo,err,cfg,mem⟩ parts.length)→Value.bool b= .bool (decide (bG ⟨zxid,9,ses,ah,xid,dtime,path,data,owner,ver,cver,tmo,err,cfg,mem⟩ parts.length)):=fun b hb=>by
  congr 1;rw [Bool.eq_iff_iff,hb,decide_eq_true_iff]
 conv=>lhs;whnf
 repeat
  (refine aQ (fun h=> ?_) (fun h=> ?_)
   ·conv=>lhs;whnf
    exact(hD _).2 ⟨rfl,bad fun hB=>by
     obtain⟨b1,b2,b3,b4,b5,b6,b7,b8,b9⟩:=hB
     simp_all⟩
   conv=>lhs;whnf
   )
 refine ab (fun hc=> ?_) (fun hc=> ?_)<;>(conv=>lhs;whnf)
 ·exact(hD _).2 ⟨rfl,good (decide ((mem.length:Int)=0)) (by
   simp only [bG]
   simp_all)⟩
 ·exact(hD _).2 ⟨rfl,bad fun hB=>by
   obtain⟨b1,b2,b3,b4,b5,b6,b7,b8,b9⟩:=hB
   simp_all⟩
theorem bareX(kind zxid ses ah xid dtime:Int)(path:ByteArray)(data:List UInt8)(owner ver cver tmo err cfg:Int)(mem:List bT)(parts:List aB)(a7 a14 a15:Option Addr)(k7 k14 k15:Nat)(A:aa)(n1:¬kind=1)(n2:¬kind=2)(n3:¬kind=3)(n4:¬kind=4)(n5:¬kind=5)(n6:¬kind=6)(n7:¬kind=7)(n8:¬kind=8)(n9:¬kind=9):
  Run Tryz.prog noC noL 60 78 [.v (.agg #[.int .i64 zxid,.int .u8 kind,.int .i64 ses,.int .i64 ah,.int .i64 xid,.int .i64 dtime,.string path,.slice a7 data.length k7,.int .i64 owner,.int .i64 ver,.int .i64 cver,.int .i64 tmo,.int .i64 err,.int .i64 cfg,.slice a14 mem.length k14,.slice a15 parts.length k15])] A (ir jO (.mk ⟨zxid,kind,ses,ah,xid,dtime,path,data,owner,ver,cver,tmo,err,cfg,mem⟩ parts) [.agg #[.int .i64 zxid,.int .u8 kind,.int .i64 ses,.int .i64 ah,.int .i64 xid,.int .i64 dtime,.string path,.slice a7 data.length k7,.int .i64 owner,.int .i64 ver,.int .i64 cver,.int .i64 tmo,.int .i64 err,.int .i64 cfg,.slice a14 mem.length k14,.slice a15 parts.length k15]] A):=by
 intro blk os out tape D hD;have hbq:∀l m:List UInt8,eW l m=(l==m):=cP;have bad:¬bG ⟨zxid,kind,ses,ah,xid,dtime,path,data,owner,ver,cver,tmo,err,cfg,mem⟩ parts.length→Value.bool false= .bool (decide (bG ⟨zxid,kind,ses,ah,xid,dtime,path,data,owner,ver,cver,tmo,err,cfg,mem⟩ parts.length)):=fun hb=>by rw [decide_eq_false hb]
 have good:∀b:Bool,(b=true↔bG ⟨zxid,kind,ses,ah,xid,dtime,path,data,owner,ver,cver,tmo,err,cfg,mem⟩ parts.length)→Value.bool b= .bool (decide (bG ⟨zxid,kind,ses,ah,xid,dtime,path,data,owner,ver,cver,tmo,err,cfg,mem⟩ parts.length)):=fun b hb=>by
  congr 1;rw [Bool.eq_iff_iff,hb,decide_eq_true_iff]
 have f1:(!decide (kind=1))=true:=by rw [decide_eq_false n1];rfl
 have f2:(!decide (kind=2))=true:=by rw [decide_eq_false n2];rfl
 have f3:(!decide (kind=3))=true:=by rw [decide_eq_false n3];rfl
 have f4:(!decide (kind=4))=true:=by rw [decide_eq_false n4];rfl
 have f5:(!decide (kind=5))=true:=by rw [decide_eq_false n5];rfl
 have f6:(!decide (kind=6))=true:=by rw [decide_eq_false n6];rfl
 have f7:(!decide (kind=7))=true:=by rw [decide_eq_false n7];rfl
 have f8:(!decide (kind=8))=true:=by rw [decide_eq_false n8];rfl
 have f9:(!decide (kind=9))=true:=by rw [decide_eq_false n9];rfl
 conv=>lhs;whnf
 repeat
  (first|refine aI n1 ?_|refine aI n2 ?_|refine aI n3 ?_|refine aI n4 ?_|refine aI n5 ?_|refine aI n6 ?_|refine aI n7 ?_|refine aI n8 ?_|refine aI n9 ?_|refine cK f1 ?_|refine cK f2 ?_|refine cK f3 ?_|refine cK f4 ?_|refine cK f5 ?_|refine cK f6 ?_|refine cK f7 ?_|refine cK f8 ?_|refine cK f9 ?_
   conv=>lhs;whnf)
 repeat
  (refine aQ (fun h=> ?_) (fun h=> ?_)
   ·conv=>lhs;whnf
    exact(hD _).2 ⟨rfl,bad fun hB=>by
     obtain⟨b1,b2,b3,b4,b5,b6,b7,b8,b9⟩:=hB
     simp_all⟩
   conv=>lhs;whnf
   repeat
    (first|refine aI n1 ?_|refine aI n2 ?_|refine aI n3 ?_|refine aI n4 ?_|refine aI n5 ?_|refine aI n6 ?_|refine aI n7 ?_|refine aI n8 ?_|refine aI n9 ?_|refine cK f1 ?_|refine cK f2 ?_|refine cK f3 ?_|refine cK f4 ?_|refine cK f5 ?_|refine cK f6 ?_|refine cK f7 ?_|refine cK f8 ?_|refine cK f9 ?_
     conv=>lhs;whnf)
   )
 refine ab (fun hc=> ?_) (fun hc=> ?_)<;>(conv=>lhs;whnf)
 ·exact(hD _).2 ⟨rfl,good (decide ((mem.length:Int)=0)) (by
   simp only [bG]
   simp_all)⟩
 ·exact(hD _).2 ⟨rfl,bad fun hB=>by
   obtain⟨b1,b2,b3,b4,b5,b6,b7,b8,b9⟩:=hB
   simp_all⟩
theorem Ch:FOk Tryz.prog 78 jO:=by
 refine aS mixed fun d vs A hp=> ?_
 obtain⟨cs,rfl,hR⟩:∃cs,vs= [bx cs]∧bj A d cs:=hp;obtain⟨⟨zxid,kind,ses,ah,xid,dtime,path,data,owner,ver,cver,tmo,err,cfg,mem⟩,parts⟩:=d;rw [bj]at hR;dsimp only [bJ.cells]at hR;obtain⟨vd,vm,vp,rws,rfl, -,hd1,hM,hSp,hlen2,hRows⟩:=hR;obtain⟨a7,k7,rfl⟩:=hd1.1.form;obtain⟨a14,k14,rfl⟩:=hM.1.form;obtain⟨a15,k15,rfl⟩:=hSp.form;refine⟨noC,noL,60,aj _,ak _,?_⟩
 by_cases n1:kind=1
 ·subst n1
  exact bare1 _ _ _ _ _ _ _ _ _ _ _ _ _ _ _ _ _ _ _ _ _ _
 by_cases n2:kind=2
 ·subst n2
  exact bare2 _ _ _ _ _ _ _ _ _ _ _ _ _ _ _ _ _ _ _ _ _ _
 by_cases n3:kind=3
 ·subst n3
  exact bare3 _ _ _ _ _ _ _ _ _ _ _ _ _ _ _ _ _ _ _ _ _ _
 by_cases n4:kind=4
 ·subst n4
  exact bare4 _ _ _ _ _ _ _ _ _ _ _ _ _ _ _ _ _ _ _ _ _ _
 by_cases n5:kind=5
 ·subst n5
  exact bare5 _ _ _ _ _ _ _ _ _ _ _ _ _ _ _ _ _ _ _ _ _ _
 by_cases n6:kind=6
 ·subst n6
  exact bare6 _ _ _ _ _ _ _ _ _ _ _ _ _ _ _ _ _ _ _ _ _ _
 by_cases n7:kind=7
 ·subst n7
  exact bare7 _ _ _ _ _ _ _ _ _ _ _ _ _ _ _ _ _ _ _ _ _ _
 by_cases n8:kind=8
 ·subst n8
  exact bare8 _ _ _ _ _ _ _ _ _ _ _ _ _ _ _ _ _ _ _ _ _ _
 by_cases n9:kind=9
 ·subst n9
  exact bare9 _ _ _ _ _ _ _ _ _ _ _ _ _ _ _ _ _ _ _ _ _ _
 exact bareX _ _ _ _ _ _ _ _ _ _ _ _ _ _ _ _ _ _ _ _ _ _ _ n1 n2 n3 n4 n5 n6 n7 n8 n9
end
end Go.Proofs.YtphigpccfbfnoaaGreatDoor
