/-
  Parts of the proof: TrD SrA HpA
-/
import Derived.Test.YtphigpccfbfnoaaGreatDoorG28
import Derived.Shelf.Sort.Plain
import Derived.Shelf.Slices.In.SortNone
import Derived.Test.YtphigpccfbfnoaaGreatDoorG17
import Derived.Test.YtphigpccfbfnoaaGreatDoorG24
set_option maxRecDepth 100000
set_option maxHeartbeats 0
namespace Go.Proofs.YtphigpccfbfnoaaGreatDoor
open Go.Sx Go.RowKit
noncomputable section
open Classical
def bU(T:aT)(ps:List aB)(z time:Int):aT:=ps.foldl (fun T p=>aV T p.h z time) T
def bc(T:aT)(ses ah:Int):aT:=match aM ses T.aK with
 |some s=>⟨T.nodes,cH ses ⟨s.ses,s.tmo,max s.ah ah⟩ T.aK⟩
 |none=>T
def cX(T:aT)(d:aB):aT:=
 if d.h.kind=1∨d.h.kind=2∨d.h.kind=3 then aV T d.h d.h.zxid d.h.time
 else if d.h.kind=4 then⟨T.nodes,cH d.h.zxid ⟨d.h.zxid,d.h.tmo,d.h.ah⟩ T.aK⟩
 else if d.h.kind=5 then bU ⟨T.nodes,eJ d.h.owner T.aK⟩ d.parts d.h.zxid d.h.time
 else if d.h.kind=8 then bU T d.parts d.h.zxid d.h.time
 else T
def aN(T:aT)(d:aB):aT:=if cJ d then bc (cX T d) d.h.ses d.h.ah else T
def GL:aL:=⟨TG×aB×aa,fun g vs A=>∃cs,vs= [.pointer (some ⟨g.1.t,0,none⟩),bx cs]∧bz A g.1.B g.1.O g.1.t g.1.T∧bj g.2.2 g.2.1 cs∧gT g.2.2∧Aside A g.2.2 g.1.O,
 fun g _ A _ A'=>bf A g.1.B g.1.O g.1.t (aN g.1.T g.2.1) A'⟩
theorem step_map{A B A':aa}{O:Nat→Prop}{m:Nat}{l:List (Value×Value)}(hO:O m)(ho:∀k,k≠m→A'.blk k=A.blk k)(hm:bX A' m l):Step A B O A' B O:=
 ⟨fun k o hk hn=>by rw [ho k fun e=>hn (e▸hO)];exact hk,fun k hk=>(by
   by_cases e:k=m
   ·obtain⟨es,cl,h9,_⟩:=hm
    rw [e,h9]at hk;cases hk
   ·rw [ho k e]at hk;exact hk),fun k hk=> .inl hk,aa.Sub.refl _,fun k o hk=> .inl hk⟩
structure AG where
 k:Nat
 A:aa
 B:aa
 O:Nat→Prop
 T:aT
def y6(A B:aa)(O:Nat→Prop)(t:Nat)(T0:aT)(parts:List aB)(z time:Int):dE:= { γ:=AG,G:=fun g=>g.k≤parts.length∧bz g.A g.B g.O t g.T∧Step A B O g.A g.B g.O∧g.T=bU T0 (parts.take g.k) z time,keepS:= [0,3,55,56],keepB:= [0],sl:=fun g=> [(57,.v (.int .i64 g.k))],bl:=fun _=> [],ar:=fun g=>g.A,mu:=fun g=>parts.length-g.k }
theorem GK:FOk Tryz.prog 8 GL:=by
 refine aS mixed fun⟨⟨T,B,O,t⟩,d,C⟩ vs A hp=> ?_
 obtain⟨cs,rfl,hT,hR,hH,hC⟩:∃cs,vs= [.pointer (some ⟨t,0,none⟩),bx cs]∧bz A B O t T∧bj C d cs∧gT C∧Aside A C O:=hp
 have hCt:aF Tryz.prog (bu [aE 29 Ce,aE 28 EO] noC):=az (aj _) (fun x hx=>by
  simp only [List.mem_cons,List.not_mem_nil,or_false]at hx;rcases hx with rfl|rfl
  ·exact ai D5
  ·exact ai EN)
 obtain⟨⟨zxid,kind,ses,ah,xid,dtime,path,data,owner,ver,cver,tmo,err,cfg,mem⟩,parts⟩:=d;have hR0:=hR;rw [bj]at hR;dsimp only [bJ.cells]at hR;obtain⟨vd,vm,vp,rows,rfl, -,hd,hM,hS,hlen,hRows⟩:=hR;obtain⟨a7,k7,rfl⟩:=hd.1.form;obtain⟨a14,k14,rfl⟩:=hM.1.form;obtain⟨a15,k15,rfl⟩:=hS.form;refine⟨_,da Tryz.prog _ noL 60 [(8,5)],60,hCt,aH mixed hCt (ak _) _ _,fun blk os out tape D hD=> ?_⟩;obtain⟨m,s,E,h⟩:=hT;have htop:A.rd t 0 1=some [.map (some m)]:=h.top.rd (o:=0) (n:=1) (by show 0+1≤2;omega);have htop1:A.rd t 1 1=some [.map (some s)]:=h.top.rd (o:=1) (n:=1) (by show 1+1≤2;omega);conv=>lhs;whnf
 refine af htop ?_;conv=>lhs;whnf
 refine(hD _).2 ⟨_,⟨_,rfl,bj.sub hC.1 _ _ hR0,hH.sub hC.1⟩,fun v A' hq=> ?_⟩;obtain⟨rfl,rfl⟩:A'=A∧v= .bool (decide (cJ (.mk ⟨zxid,kind,ses,ah,xid,dtime,path,data,owner,ver,cver,tmo,err,cfg,mem⟩ parts))):=hq;conv=>lhs;whnf
 refine cL (fun hr=> ?_) (fun hr=> ?_)<;>(conv=>lhs;whnf)
 rotate_left
 ·have hend:bf A' B O t (aN T (.mk ⟨zxid,kind,ses,ah,xid,dtime,path,data,owner,ver,cver,tmo,err,cfg,mem⟩ parts)) A':=by
    rw [aN,if_neg hr];exact⟨B,O,⟨m,s,E,h⟩,Step.refl _ _ _⟩
  exact(hD _).2 hend
 by_cases h123:kind=1∨kind=2∨kind=3
 ·rcases h123 with rfl|rfl|rfl
  ·conv=>lhs;whnf
   refine(hD _).2 ⟨(⟨T,B,O,t⟩,.mk ⟨zxid,1,ses,ah,xid,dtime,path,data,owner,ver,cver,tmo,err,cfg,mem⟩ parts,C,zxid,dtime),⟨_,rfl,⟨m,s,E,h⟩,hR0,hC⟩,fun v A1 hq=> ?_⟩;have hmid:bf A' B O t (aV T ⟨zxid,1,ses,ah,xid,dtime,path,data,owner,ver,cver,tmo,err,cfg,mem⟩ zxid dtime) A1:=hq;obtain⟨T1,hTo⟩:∃T1,T1=cX T (.mk ⟨zxid,1,ses,ah,xid,dtime,path,data,owner,ver,cver,tmo,err,cfg,mem⟩ parts):=⟨_,rfl⟩;have e:aV T ⟨zxid,1,ses,ah,xid,dtime,path,data,owner,ver,cver,tmo,err,cfg,mem⟩ zxid dtime=T1:=by rw [hTo,cX,if_pos (by simp [aB.h])];rfl
   rw [e]at hmid;conv=>lhs;whnf
   obtain⟨B1,O1,⟨m1,s1,E1,hT1⟩,hS1⟩:=hmid;have htop9:A1.rd t 1 1=some [.map (some s1)]:=hT1.top.rd (o:=1) (n:=1) (by show 1+1≤2;omega);refine af htop9 ?_;conv=>lhs;whnf
   refine dg (cf hT1.smap ses) ?_
   cases hk:aM ses T1.aK with
   |none=>
    have hlk:A1.look s1 (.int .i64 ses)=some none:=by rw [cf hT1.smap,hk];rfl
    conv=>lhs;whnf
    have hend:bf A' B O t (aN T (.mk ⟨zxid,1,ses,ah,xid,dtime,path,data,owner,ver,cver,tmo,err,cfg,mem⟩ parts)) A1:=by
     rw [aN,if_pos hr,←hTo];show bf A' B O t (bc T1 ses ah) A1
     rw [bc,hk];exact⟨B1,O1,⟨m1,s1,E1,hT1⟩,hS1⟩
    repeat(first|refine af htop9 ?_|refine dg hlk ?_|refine au hD rfl ?_
           conv=>lhs;whnf)
    exact(hD _).2 hend
   |some st=>
    obtain⟨sses,stmo,sturn⟩:=st;have hlk:A1.look s1 (.int .i64 ses)=some (some (.agg #[.int .i64 sses,.int .i64 stmo,.int .i64 sturn])):=by rw [cf hT1.smap,hk];rfl
    conv=>lhs;whnf
    repeat(first|refine af htop9 ?_|refine dg hlk ?_|refine au hD rfl ?_
           conv=>lhs;whnf)
    refine(hD _).2 ⟨_,hT1.smap,dw eP ses _,fun A2 hm2 ho2=> ?_⟩
    have hmx:(bif true then bif decide (sturn<ah)then ah else sturn else bif decide (ah<sturn)then ah else sturn)=max sturn ah:=by
     by_cases h9:sturn<ah
     ·simp only [h9,decide_true,cond_true];omega
     ·simp only [h9,decide_false,cond_true,cond_false];omega
    have hm3:bX A2 s1 (cA (.int .i64 ses) (eP ⟨sses,stmo,max sturn ah⟩) (jh eP T1.aK)):=by
     rw [←hmx];exact hm2
    rw [fw]at hm3;have hR2:=hT1.sit ho2 hm3 (ei hT1.skeys);have hS2:Step A1 B1 O1 A2 B1 O1:=step_map (hT1.own.2.2.1) ho2 hm3
    have hend:bf A' B O t (aN T (.mk ⟨zxid,1,ses,ah,xid,dtime,path,data,owner,ver,cver,tmo,err,cfg,mem⟩ parts)) A2:=by
     rw [aN,if_pos hr,←hTo];show bf A' B O t (bc T1 ses ah) A2
     rw [bc,hk];exact⟨B1,O1,⟨m1,s1,E1,hR2⟩,hS1.trans hS2⟩
    conv=>lhs;whnf
    exact(hD _).2 hend
  ·conv=>lhs;whnf
   refine(hD _).2 ⟨(⟨T,B,O,t⟩,.mk ⟨zxid,2,ses,ah,xid,dtime,path,data,owner,ver,cver,tmo,err,cfg,mem⟩ parts,C,zxid,dtime),⟨_,rfl,⟨m,s,E,h⟩,hR0,hC⟩,fun v A1 hq=> ?_⟩;have hmid:bf A' B O t (aV T ⟨zxid,2,ses,ah,xid,dtime,path,data,owner,ver,cver,tmo,err,cfg,mem⟩ zxid dtime) A1:=hq;obtain⟨T1,hTo⟩:∃T1,T1=cX T (.mk ⟨zxid,2,ses,ah,xid,dtime,path,data,owner,ver,cver,tmo,err,cfg,mem⟩ parts):=⟨_,rfl⟩;have e:aV T ⟨zxid,2,ses,ah,xid,dtime,path,data,owner,ver,cver,tmo,err,cfg,mem⟩ zxid dtime=T1:=by rw [hTo,cX,if_pos (by simp [aB.h])];rfl
   rw [e]at hmid;conv=>lhs;whnf
   obtain⟨B1,O1,⟨m1,s1,E1,hT1⟩,hS1⟩:=hmid;have htop9:A1.rd t 1 1=some [.map (some s1)]:=hT1.top.rd (o:=1) (n:=1) (by show 1+1≤2;omega);refine af htop9 ?_;conv=>lhs;whnf
   refine dg (cf hT1.smap ses) ?_
   cases hk:aM ses T1.aK with
   |none=>
    have hlk:A1.look s1 (.int .i64 ses)=some none:=by rw [cf hT1.smap,hk];rfl
    conv=>lhs;whnf
    have hend:bf A' B O t (aN T (.mk ⟨zxid,2,ses,ah,xid,dtime,path,data,owner,ver,cver,tmo,err,cfg,mem⟩ parts)) A1:=by
     rw [aN,if_pos hr,←hTo];show bf A' B O t (bc T1 ses ah) A1
     rw [bc,hk];exact⟨B1,O1,⟨m1,s1,E1,hT1⟩,hS1⟩
    repeat(first|refine af htop9 ?_|refine dg hlk ?_|refine au hD rfl ?_
           conv=>lhs;whnf)
    exact(hD _).2 hend
   |some st=>
    obtain⟨sses,stmo,sturn⟩:=st;have hlk:A1.look s1 (.int .i64 ses)=some (some (.agg #[.int .i64 sses,.int .i64 stmo,.int .i64 sturn])):=by rw [cf hT1.smap,hk];rfl
    conv=>lhs;whnf
    repeat(first|refine af htop9 ?_|refine dg hlk ?_|refine au hD rfl ?_
           conv=>lhs;whnf)
    refine(hD _).2 ⟨_,hT1.smap,dw eP ses _,fun A2 hm2 ho2=> ?_⟩
    have hmx:(bif true then bif decide (sturn<ah)then ah else sturn else bif decide (ah<sturn)then ah else sturn)=max sturn ah:=by
     by_cases h9:sturn<ah
     ·simp only [h9,decide_true,cond_true];omega
     ·simp only [h9,decide_false,cond_true,cond_false];omega
    have hm3:bX A2 s1 (cA (.int .i64 ses) (eP ⟨sses,stmo,max sturn ah⟩) (jh eP T1.aK)):=by
     rw [←hmx];exact hm2
    rw [fw]at hm3;have hR2:=hT1.sit ho2 hm3 (ei hT1.skeys);have hS2:Step A1 B1 O1 A2 B1 O1:=step_map (hT1.own.2.2.1) ho2 hm3
    have hend:bf A' B O t (aN T (.mk ⟨zxid,2,ses,ah,xid,dtime,path,data,owner,ver,cver,tmo,err,cfg,mem⟩ parts)) A2:=by
     rw [aN,if_pos hr,←hTo];show bf A' B O t (bc T1 ses ah) A2
     rw [bc,hk];exact⟨B1,O1,⟨m1,s1,E1,hR2⟩,hS1.trans hS2⟩
    conv=>lhs;whnf
    exact(hD _).2 hend
  ·conv=>lhs;whnf
   refine(hD _).2 ⟨(⟨T,B,O,t⟩,.mk ⟨zxid,3,ses,ah,xid,dtime,path,data,owner,ver,cver,tmo,err,cfg,mem⟩ parts,C,zxid,dtime),⟨_,rfl,⟨m,s,E,h⟩,hR0,hC⟩,fun v A1 hq=> ?_⟩;have hmid:bf A' B O t (aV T ⟨zxid,3,ses,ah,xid,dtime,path,data,owner,ver,cver,tmo,err,cfg,mem⟩ zxid dtime) A1:=hq;obtain⟨T1,hTo⟩:∃T1,T1=cX T (.mk ⟨zxid,3,ses,ah,xid,dtime,path,data,owner,ver,cver,tmo,err,cfg,mem⟩ parts):=⟨_,rfl⟩;have e:aV T ⟨zxid,3,ses,ah,xid,dtime,path,data,owner,ver,cver,tmo,err,cfg,mem⟩ zxid dtime=T1:=by rw [hTo,cX,if_pos (by simp [aB.h])];rfl
   rw [e]at hmid;conv=>lhs;whnf
   obtain⟨B1,O1,⟨m1,s1,E1,hT1⟩,hS1⟩:=hmid;have htop9:A1.rd t 1 1=some [.map (some s1)]:=hT1.top.rd (o:=1) (n:=1) (by show 1+1≤2;omega);refine af htop9 ?_;conv=>lhs;whnf
   refine dg (cf hT1.smap ses) ?_
   cases hk:aM ses T1.aK with
   |none=>
    have hlk:A1.look s1 (.int .i64 ses)=some none:=by rw [cf hT1.smap,hk];rfl
    conv=>lhs;whnf
    have hend:bf A' B O t (aN T (.mk ⟨zxid,3,ses,ah,xid,dtime,path,data,owner,ver,cver,tmo,err,cfg,mem⟩ parts)) A1:=by
     rw [aN,if_pos hr,←hTo];show bf A' B O t (bc T1 ses ah) A1
     rw [bc,hk];exact⟨B1,O1,⟨m1,s1,E1,hT1⟩,hS1⟩
    repeat(first|refine af htop9 ?_|refine dg hlk ?_|refine au hD rfl ?_
           conv=>lhs;whnf)
    exact(hD _).2 hend
   |some st=>
    obtain⟨sses,stmo,sturn⟩:=st;have hlk:A1.look s1 (.int .i64 ses)=some (some (.agg #[.int .i64 sses,.int .i64 stmo,.int .i64 sturn])):=by rw [cf hT1.smap,hk];rfl
    conv=>lhs;whnf
    repeat(first|refine af htop9 ?_|refine dg hlk ?_|refine au hD rfl ?_
           conv=>lhs;whnf)
    refine(hD _).2 ⟨_,hT1.smap,dw eP ses _,fun A2 hm2 ho2=> ?_⟩
    have hmx:(bif true then bif decide (sturn<ah)then ah else sturn else bif decide (ah<sturn)then ah else sturn)=max sturn ah:=by
     by_cases h9:sturn<ah
     ·simp only [h9,decide_true,cond_true];omega
     ·simp only [h9,decide_false,cond_true,cond_false];omega
    have hm3:bX A2 s1 (cA (.int .i64 ses) (eP ⟨sses,stmo,max sturn ah⟩) (jh eP T1.aK)):=by
     rw [←hmx];exact hm2
    rw [fw]at hm3;have hR2:=hT1.sit ho2 hm3 (ei hT1.skeys);have hS2:Step A1 B1 O1 A2 B1 O1:=step_map (hT1.own.2.2.1) ho2 hm3
    have hend:bf A' B O t (aN T (.mk ⟨zxid,3,ses,ah,xid,dtime,path,data,owner,ver,cver,tmo,err,cfg,mem⟩ parts)) A2:=by
     rw [aN,if_pos hr,←hTo];show bf A' B O t (bc T1 ses ah) A2
     rw [bc,hk];exact⟨B1,O1,⟨m1,s1,E1,hR2⟩,hS1.trans hS2⟩
    conv=>lhs;whnf
    exact(hD _).2 hend
 by_cases h4:kind=4
 ·subst h4
  conv=>lhs;whnf
  refine af htop1 ?_;conv=>lhs;whnf
  refine(hD _).2 ⟨_,h.smap,dw eP zxid _,fun A1 hm1 ho1=> ?_⟩;have hm1:bX A1 s (cA (.int .i64 zxid) (eP ⟨zxid,tmo,ah⟩) (jh eP T.aK)):=hm1;rw [fw]at hm1;have hR1:=h.sit ho1 hm1 (ei h.skeys);obtain⟨T1,hTo⟩:∃T1,T1=cX T (.mk ⟨zxid,4,ses,ah,xid,dtime,path,data,owner,ver,cver,tmo,err,cfg,mem⟩ parts):=⟨_,rfl⟩;have hmid:bf A' B O t T1 A1:=⟨B,O,⟨m,s,E,by rw [hTo];exact hR1⟩,step_map h.own.2.2.1 ho1 hm1⟩;conv=>lhs;whnf
  obtain⟨B1,O1,⟨m1,s1,E1,hT1⟩,hS1⟩:=hmid;have htop9:A1.rd t 1 1=some [.map (some s1)]:=hT1.top.rd (o:=1) (n:=1) (by show 1+1≤2;omega);refine af htop9 ?_;conv=>lhs;whnf
  refine dg (cf hT1.smap ses) ?_
  cases hk:aM ses T1.aK with
  |none=>
   have hlk:A1.look s1 (.int .i64 ses)=some none:=by rw [cf hT1.smap,hk];rfl
   conv=>lhs;whnf
   have hend:bf A' B O t (aN T (.mk ⟨zxid,4,ses,ah,xid,dtime,path,data,owner,ver,cver,tmo,err,cfg,mem⟩ parts)) A1:=by
    rw [aN,if_pos hr,←hTo];show bf A' B O t (bc T1 ses ah) A1
    rw [bc,hk];exact⟨B1,O1,⟨m1,s1,E1,hT1⟩,hS1⟩
   repeat(first|refine af htop9 ?_|refine dg hlk ?_|refine au hD rfl ?_
          conv=>lhs;whnf)
   exact(hD _).2 hend
  |some st=>
   obtain⟨sses,stmo,sturn⟩:=st;have hlk:A1.look s1 (.int .i64 ses)=some (some (.agg #[.int .i64 sses,.int .i64 stmo,.int .i64 sturn])):=by rw [cf hT1.smap,hk];rfl
   conv=>lhs;whnf
   repeat(first|refine af htop9 ?_|refine dg hlk ?_|refine au hD rfl ?_
          conv=>lhs;whnf)
   refine(hD _).2 ⟨_,hT1.smap,dw eP ses _,fun A2 hm2 ho2=> ?_⟩
   have hmx:(bif true then bif decide (sturn<ah)then ah else sturn else bif decide (ah<sturn)then ah else sturn)=max sturn ah:=by
    by_cases h9:sturn<ah
    ·simp only [h9,decide_true,cond_true];omega
    ·simp only [h9,decide_false,cond_true,cond_false];omega
   have hm3:bX A2 s1 (cA (.int .i64 ses) (eP ⟨sses,stmo,max sturn ah⟩) (jh eP T1.aK)):=by
    rw [←hmx];exact hm2
   rw [fw]at hm3;have hR2:=hT1.sit ho2 hm3 (ei hT1.skeys);have hS2:Step A1 B1 O1 A2 B1 O1:=step_map (hT1.own.2.2.1) ho2 hm3
   have hend:bf A' B O t (aN T (.mk ⟨zxid,4,ses,ah,xid,dtime,path,data,owner,ver,cver,tmo,err,cfg,mem⟩ parts)) A2:=by
    rw [aN,if_pos hr,←hTo];show bf A' B O t (bc T1 ses ah) A2
    rw [bc,hk];exact⟨B1,O1,⟨m1,s1,E1,hR2⟩,hS1.trans hS2⟩
   conv=>lhs;whnf
   exact(hD _).2 hend
 by_cases h5:kind=5
 ·subst h5
  conv=>lhs;whnf
  refine af htop1 ?_;conv=>lhs;whnf
  refine(hD _).2 ⟨_,h.smap,dw eP owner _,fun A1 hm1 ho1=> ?_⟩;rw [yz]at hm1;have hR1:=h.sit ho1 hm1 (h.skeys.sublist ((fX owner _).map _));have hSt:Step A' B O A1 B O:=step_map h.own.2.2.1 ho1 hm1;obtain⟨T0,hT00⟩:∃T0:aT,T0=⟨T.nodes,eJ owner T.aK⟩:=⟨_,rfl⟩;have hst:bz A1 B O t T0:=⟨m,s,E,by rw [hT00];exact hR1⟩;have hT0:cX T (.mk ⟨zxid,5,ses,ah,xid,dtime,path,data,owner,ver,cver,tmo,err,cfg,mem⟩ parts)=bU T0 parts zxid dtime:=by rw [hT00];rfl
  conv=>lhs;whnf
  refine(hD _).2 ⟨y6 A' B O t T0 parts zxid dtime,⟨(⟨0,A1,B,O,T0⟩:AG),⟨Nat.zero_le _,hst,hSt,by rw [List.take_zero];rfl⟩,⟨rfl,trivial⟩,trivial,rfl⟩,fun(sg:AG) hG=>⟨⟨trivial,trivial⟩,trivial,?_⟩⟩;obtain⟨k,Ak,Bk,Ok,Tk⟩:=sg;obtain⟨hk,hTk,hSk,hTke⟩:k≤parts.length∧bz Ak Bk Ok t Tk∧Step A' B O Ak Bk Ok∧Tk=bU T0 (parts.take k) zxid dtime:=hG;have hCk:=hC.step hSk;conv=>lhs;whnf
  refine ab (fun hlt=> ?_) (fun hlt=> ?_)
  ·have hlt:(k:Int)<parts.length:=hlt
   have hkn:k<parts.length:=by omega
   obtain⟨ao15,c15,he15,hc15,hl15,hb1,hb2,hb3⟩:=hS;injection he15 with he1 he2 he3
   subst he1 he3;obtain⟨pg,po,rfl,hra⟩:=Sl.at_ hc15 hb1 hb2 hb3 (by omega);obtain⟨pcs,hpcs,hpd⟩:=fD hra hRows k hkn rfl;conv=>lhs;whnf
   refine aq ⟨by omega,hlt⟩ ?_;conv=>lhs;whnf
   have hnext:bU T0 (parts.take (k+1)) zxid dtime=aV Tk parts[k].h zxid dtime:=by
    rw [List.take_succ_eq_append_getElem hkn,bU,List.foldl_append,hTke];rfl
   generalize parts[k]=p at hpd hnext;obtain⟨pa7,pl7,pk7,pa14,pl14,pk14,pa15,pl15,pk15,rfl⟩:=hpd.form;refine af (aJ hCk.1 hpcs) ?_;conv=>lhs;whnf
   refine(hD _).2 ⟨(⟨Tk,Bk,Ok,t⟩,p,C,zxid,dtime),⟨_,rfl,hTk,hpd,hCk⟩,fun v A9 hq=> ?_⟩;obtain⟨B9,O9,hT9,hS9⟩:bf Ak Bk Ok t (aV Tk p.h zxid dtime) A9:=hq;conv=>lhs;whnf
   exact(hD _).2 ⟨(⟨k+1,A9,B9,O9,_⟩:AG),⟨⟨by show k+1≤parts.length;omega,hT9,hSk.trans hS9,hnext.symm⟩,⟨av (k:=k) (by omega),trivial⟩,trivial,rfl⟩,by show parts.length-(k+1)<parts.length-k;omega,⟨rfl,rfl,rfl,rfl,trivial⟩,⟨rfl,trivial⟩⟩
  ·have hlt:¬(k:Int)<parts.length:=hlt
   have hkn:k=parts.length:=by omega
   rw [hkn,List.take_length]at hTke;obtain⟨T1,hTo⟩:∃T1,T1=cX T (.mk ⟨zxid,5,ses,ah,xid,dtime,path,data,owner,ver,cver,tmo,err,cfg,mem⟩ parts):=⟨_,rfl⟩;have hmid:bf A' B O t T1 Ak:=⟨Bk,Ok,by rw [hTo,hT0,←hTke];exact hTk,hSk⟩;clear hTk hSk hTke;generalize Ak=A1 at*;conv=>lhs;whnf
   obtain⟨B1,O1,⟨m1,s1,E1,hT1⟩,hS1⟩:=hmid;have htop9:A1.rd t 1 1=some [.map (some s1)]:=hT1.top.rd (o:=1) (n:=1) (by show 1+1≤2;omega);refine af htop9 ?_;conv=>lhs;whnf
   refine dg (cf hT1.smap ses) ?_
   cases hk:aM ses T1.aK with
   |none=>
    have hlk:A1.look s1 (.int .i64 ses)=some none:=by rw [cf hT1.smap,hk];rfl
    conv=>lhs;whnf
    have hend:bf A' B O t (aN T (.mk ⟨zxid,5,ses,ah,xid,dtime,path,data,owner,ver,cver,tmo,err,cfg,mem⟩ parts)) A1:=by
     rw [aN,if_pos hr,←hTo];show bf A' B O t (bc T1 ses ah) A1
     rw [bc,hk];exact⟨B1,O1,⟨m1,s1,E1,hT1⟩,hS1⟩
    repeat(first|refine af htop9 ?_|refine dg hlk ?_|refine au hD rfl ?_
           conv=>lhs;whnf)
    exact(hD _).2 hend
   |some st=>
    obtain⟨sses,stmo,sturn⟩:=st;have hlk:A1.look s1 (.int .i64 ses)=some (some (.agg #[.int .i64 sses,.int .i64 stmo,.int .i64 sturn])):=by rw [cf hT1.smap,hk];rfl
    conv=>lhs;whnf
    repeat(first|refine af htop9 ?_|refine dg hlk ?_|refine au hD rfl ?_
           conv=>lhs;whnf)
    refine(hD _).2 ⟨_,hT1.smap,dw eP ses _,fun A2 hm2 ho2=> ?_⟩
    have hmx:(bif true then bif decide (sturn<ah)then ah else sturn else bif decide (ah<sturn)then ah else sturn)=max sturn ah:=by
     by_cases h9:sturn<ah
     ·simp only [h9,decide_true,cond_true];omega
     ·simp only [h9,decide_false,cond_true,cond_false];omega
    have hm3:bX A2 s1 (cA (.int .i64 ses) (eP ⟨sses,stmo,max sturn ah⟩) (jh eP T1.aK)):=by
     rw [←hmx];exact hm2
    rw [fw]at hm3;have hR2:=hT1.sit ho2 hm3 (ei hT1.skeys);have hS2:Step A1 B1 O1 A2 B1 O1:=step_map (hT1.own.2.2.1) ho2 hm3
    have hend:bf A' B O t (aN T (.mk ⟨zxid,5,ses,ah,xid,dtime,path,data,owner,ver,cver,tmo,err,cfg,mem⟩ parts)) A2:=by
     rw [aN,if_pos hr,←hTo];show bf A' B O t (bc T1 ses ah) A2
     rw [bc,hk];exact⟨B1,O1,⟨m1,s1,E1,hR2⟩,hS1.trans hS2⟩
    conv=>lhs;whnf
    exact(hD _).2 hend
 by_cases h8:kind=8
 ·subst h8
  have hSt:Step A' B O A' B O:=Step.refl _ _ _;have hst:bz A' B O t T:=⟨m,s,E,h⟩;have hT0:cX T (.mk ⟨zxid,8,ses,ah,xid,dtime,path,data,owner,ver,cver,tmo,err,cfg,mem⟩ parts)=bU T parts zxid dtime:=rfl;conv=>lhs;whnf
  refine(hD _).2 ⟨y6 A' B O t T parts zxid dtime,⟨(⟨0,A',B,O,T⟩:AG),⟨Nat.zero_le _,hst,hSt,by rw [List.take_zero];rfl⟩,⟨rfl,trivial⟩,trivial,rfl⟩,fun(sg:AG) hG=>⟨⟨trivial,trivial⟩,trivial,?_⟩⟩;obtain⟨k,Ak,Bk,Ok,Tk⟩:=sg;obtain⟨hk,hTk,hSk,hTke⟩:k≤parts.length∧bz Ak Bk Ok t Tk∧Step A' B O Ak Bk Ok∧Tk=bU T (parts.take k) zxid dtime:=hG;have hCk:=hC.step hSk;conv=>lhs;whnf
  refine ab (fun hlt=> ?_) (fun hlt=> ?_)
  ·have hlt:(k:Int)<parts.length:=hlt
   have hkn:k<parts.length:=by omega
   obtain⟨ao15,c15,he15,hc15,hl15,hb1,hb2,hb3⟩:=hS;injection he15 with he1 he2 he3
   subst he1 he3;obtain⟨pg,po,rfl,hra⟩:=Sl.at_ hc15 hb1 hb2 hb3 (by omega);obtain⟨pcs,hpcs,hpd⟩:=fD hra hRows k hkn rfl;conv=>lhs;whnf
   refine aq ⟨by omega,hlt⟩ ?_;conv=>lhs;whnf
   have hnext:bU T (parts.take (k+1)) zxid dtime=aV Tk parts[k].h zxid dtime:=by
    rw [List.take_succ_eq_append_getElem hkn,bU,List.foldl_append,hTke];rfl
   generalize parts[k]=p at hpd hnext;obtain⟨pa7,pl7,pk7,pa14,pl14,pk14,pa15,pl15,pk15,rfl⟩:=hpd.form;refine af (aJ hCk.1 hpcs) ?_;conv=>lhs;whnf
   refine(hD _).2 ⟨(⟨Tk,Bk,Ok,t⟩,p,C,zxid,dtime),⟨_,rfl,hTk,hpd,hCk⟩,fun v A9 hq=> ?_⟩;obtain⟨B9,O9,hT9,hS9⟩:bf Ak Bk Ok t (aV Tk p.h zxid dtime) A9:=hq;conv=>lhs;whnf
   exact(hD _).2 ⟨(⟨k+1,A9,B9,O9,_⟩:AG),⟨⟨by show k+1≤parts.length;omega,hT9,hSk.trans hS9,hnext.symm⟩,⟨av (k:=k) (by omega),trivial⟩,trivial,rfl⟩,by show parts.length-(k+1)<parts.length-k;omega,⟨rfl,rfl,rfl,rfl,trivial⟩,⟨rfl,trivial⟩⟩
  ·have hlt:¬(k:Int)<parts.length:=hlt
   have hkn:k=parts.length:=by omega
   rw [hkn,List.take_length]at hTke;obtain⟨T1,hTo⟩:∃T1,T1=cX T (.mk ⟨zxid,8,ses,ah,xid,dtime,path,data,owner,ver,cver,tmo,err,cfg,mem⟩ parts):=⟨_,rfl⟩;have hmid:bf A' B O t T1 Ak:=⟨Bk,Ok,by rw [hTo,hT0,←hTke];exact hTk,hSk⟩;clear hTk hSk hTke;generalize Ak=A1 at*;conv=>lhs;whnf
   obtain⟨B1,O1,⟨m1,s1,E1,hT1⟩,hS1⟩:=hmid;have htop9:A1.rd t 1 1=some [.map (some s1)]:=hT1.top.rd (o:=1) (n:=1) (by show 1+1≤2;omega);refine af htop9 ?_;conv=>lhs;whnf
   refine dg (cf hT1.smap ses) ?_
   cases hk:aM ses T1.aK with
   |none=>
    have hlk:A1.look s1 (.int .i64 ses)=some none:=by rw [cf hT1.smap,hk];rfl
    conv=>lhs;whnf
    have hend:bf A' B O t (aN T (.mk ⟨zxid,8,ses,ah,xid,dtime,path,data,owner,ver,cver,tmo,err,cfg,mem⟩ parts)) A1:=by
     rw [aN,if_pos hr,←hTo];show bf A' B O t (bc T1 ses ah) A1
     rw [bc,hk];exact⟨B1,O1,⟨m1,s1,E1,hT1⟩,hS1⟩
    repeat(first|refine af htop9 ?_|refine dg hlk ?_|refine au hD rfl ?_
           conv=>lhs;whnf)
    exact(hD _).2 hend
   |some st=>
    obtain⟨sses,stmo,sturn⟩:=st;have hlk:A1.look s1 (.int .i64 ses)=some (some (.agg #[.int .i64 sses,.int .i64 stmo,.int .i64 sturn])):=by rw [cf hT1.smap,hk];rfl
    conv=>lhs;whnf
    repeat(first|refine af htop9 ?_|refine dg hlk ?_|refine au hD rfl ?_
           conv=>lhs;whnf)
    refine(hD _).2 ⟨_,hT1.smap,dw eP ses _,fun A2 hm2 ho2=> ?_⟩
    have hmx:(bif true then bif decide (sturn<ah)then ah else sturn else bif decide (ah<sturn)then ah else sturn)=max sturn ah:=by
     by_cases h9:sturn<ah
     ·simp only [h9,decide_true,cond_true];omega
     ·simp only [h9,decide_false,cond_true,cond_false];omega
    have hm3:bX A2 s1 (cA (.int .i64 ses) (eP ⟨sses,stmo,max sturn ah⟩) (jh eP T1.aK)):=by
     rw [←hmx];exact hm2
    rw [fw]at hm3;have hR2:=hT1.sit ho2 hm3 (ei hT1.skeys);have hS2:Step A1 B1 O1 A2 B1 O1:=step_map (hT1.own.2.2.1) ho2 hm3
    have hend:bf A' B O t (aN T (.mk ⟨zxid,8,ses,ah,xid,dtime,path,data,owner,ver,cver,tmo,err,cfg,mem⟩ parts)) A2:=by
     rw [aN,if_pos hr,←hTo];show bf A' B O t (bc T1 ses ah) A2
     rw [bc,hk];exact⟨B1,O1,⟨m1,s1,E1,hR2⟩,hS1.trans hS2⟩
    conv=>lhs;whnf
    exact(hD _).2 hend
 ·obtain⟨T1,hTo⟩:∃T1,T1=cX T (.mk ⟨zxid,kind,ses,ah,xid,dtime,path,data,owner,ver,cver,tmo,err,cfg,mem⟩ parts):=⟨_,rfl⟩
  have e:T1=T:=by
   rw [hTo,cX]
   split
   ·rename_i h9;exact absurd h9 h123
   ·split
    ·rename_i h9;exact absurd h9 h4
    ·split
     ·rename_i h9;exact absurd h9 h5
     ·split
      ·rename_i h9;exact absurd h9 h8
      ·rfl
  have hmid:bf A' B O t T1 A':=by rw [e];exact⟨B,O,⟨m,s,E,h⟩,Step.refl _ _ _⟩
  repeat(refine aI (fun h9=> ?_) ?_
         ·first|exact h4 h9|exact h5 h9|exact h8 h9|exact h123 (by omega)
         conv=>lhs;whnf)
  obtain⟨B1,O1,⟨m1,s1,E1,hT1⟩,hS1⟩:=hmid;have htop9:A'.rd t 1 1=some [.map (some s1)]:=hT1.top.rd (o:=1) (n:=1) (by show 1+1≤2;omega);refine af htop9 ?_;conv=>lhs;whnf
  refine dg (cf hT1.smap ses) ?_
  cases hk:aM ses T1.aK with
  |none=>
   have hlk:A'.look s1 (.int .i64 ses)=some none:=by rw [cf hT1.smap,hk];rfl
   conv=>lhs;whnf
   have hend:bf A' B O t (aN T (.mk ⟨zxid,kind,ses,ah,xid,dtime,path,data,owner,ver,cver,tmo,err,cfg,mem⟩ parts)) A':=by
    rw [aN,if_pos hr,←hTo];show bf A' B O t (bc T1 ses ah) A'
    rw [bc,hk];exact⟨B1,O1,⟨m1,s1,E1,hT1⟩,hS1⟩
   repeat(first|refine af htop9 ?_|refine dg hlk ?_|refine au hD rfl ?_
          conv=>lhs;whnf)
   exact(hD _).2 hend
  |some st=>
   obtain⟨sses,stmo,sturn⟩:=st;have hlk:A'.look s1 (.int .i64 ses)=some (some (.agg #[.int .i64 sses,.int .i64 stmo,.int .i64 sturn])):=by rw [cf hT1.smap,hk];rfl
   conv=>lhs;whnf
   repeat(first|refine af htop9 ?_|refine dg hlk ?_|refine au hD rfl ?_
          conv=>lhs;whnf)
   refine(hD _).2 ⟨_,hT1.smap,dw eP ses _,fun A2 hm2 ho2=> ?_⟩
   have hmx:(bif true then bif decide (sturn<ah)then ah else sturn else bif decide (ah<sturn)then ah else sturn)=max sturn ah:=by
    by_cases h9:sturn<ah
    ·simp only [h9,decide_true,cond_true];omega
    ·simp only [h9,decide_false,cond_true,cond_false];omega
   have hm3:bX A2 s1 (cA (.int .i64 ses) (eP ⟨sses,stmo,max sturn ah⟩) (jh eP T1.aK)):=by
    rw [←hmx];exact hm2
   rw [fw]at hm3;have hR2:=hT1.sit ho2 hm3 (ei hT1.skeys);have hS2:Step A' B1 O1 A2 B1 O1:=step_map (hT1.own.2.2.1) ho2 hm3
   have hend:bf A' B O t (aN T (.mk ⟨zxid,kind,ses,ah,xid,dtime,path,data,owner,ver,cver,tmo,err,cfg,mem⟩ parts)) A2:=by
    rw [aN,if_pos hr,←hTo];show bf A' B O t (bc T1 ses ah) A2
    rw [bc,hk];exact⟨B1,O1,⟨m1,s1,E1,hR2⟩,hS1.trans hS2⟩
   conv=>lhs;whnf
   exact(hD _).2 hend
end
end Go.Proofs.YtphigpccfbfnoaaGreatDoor
namespace Go.Proofs.YtphigpccfbfnoaaGreatDoor
open Go.Sx Go.RowKit Go.Sort Go.Shelf
noncomputable section
def sortRen:Go.Shelf.Ren:=⟨fun|190=>124|125=>133|258=>161|128=>172|129=>173|302=>178|303=>179|304=>180|305=>181|306=>182|307=>183|308=>184|309=>185|310=>186|333=>197|329=>191|330=>192|334=>198|335=>199|336=>200|344=>210|n=>n,fun|31=>43|9=>9|3=>3|46=>191|0=>0|51=>265|53=>195|4=>4|183=>258|182=>257|131=>262|5=>5|218=>276|222=>280|228=>295|229=>296|n=>n,fun|n=>n⟩
theorem rj:Lays.n190 Tryz.prog sortRen where
 mixed:=by kernel_rfl
 f125:=Tryz.func133.trans (congrArg some (by kernel_rfl))
 f128:=Tryz.func172.trans (congrArg some (by kernel_rfl))
 f129:=Tryz.func173.trans (congrArg some (by kernel_rfl))
 f190:=Tryz.func124.trans (congrArg some (by kernel_rfl))
 f258:=Tryz.func161.trans (congrArg some (by kernel_rfl))
 f302:=Tryz.func178.trans (congrArg some (by kernel_rfl))
 f303:=Tryz.func179.trans (congrArg some (by kernel_rfl))
 f304:=Tryz.func180.trans (congrArg some (by kernel_rfl))
 f305:=Tryz.func181.trans (congrArg some (by kernel_rfl))
 f306:=Tryz.func182.trans (congrArg some (by kernel_rfl))
 f307:=Tryz.func183.trans (congrArg some (by kernel_rfl))
 f308:=Tryz.func184.trans (congrArg some (by kernel_rfl))
 f309:=Tryz.func185.trans (congrArg some (by kernel_rfl))
 f310:=Tryz.func186.trans (congrArg some (by kernel_rfl))
 f329:=Tryz.func191.trans (congrArg some (by kernel_rfl))
 f330:=Tryz.func192.trans (congrArg some (by kernel_rfl))
 f333:=Tryz.func197.trans (congrArg some (by kernel_rfl))
 f334:=Tryz.func198.trans (congrArg some (by kernel_rfl))
 f335:=Tryz.func199.trans (congrArg some (by kernel_rfl))
 f336:=Tryz.func200.trans (congrArg some (by kernel_rfl))
 f344:=Tryz.func210.trans (congrArg some (by kernel_rfl))
 t0:=Tryz.underlying0
 a0:=Tryz.isAgg0
 z0:=Tryz.sizeOf0
 v0:=Tryz.zeroValue0
 t3:=Tryz.underlying3
 a3:=Tryz.isAgg3
 z3:=Tryz.sizeOf3
 v3:=Tryz.zeroValue3
 t4:=Tryz.underlying4
 a4:=Tryz.isAgg4
 z4:=Tryz.sizeOf4
 v4:=Tryz.zeroValue4
 t5:=Tryz.underlying5
 a5:=Tryz.isAgg5
 z5:=Tryz.sizeOf5
 v5:=Tryz.zeroValue5
 t9:=Tryz.underlying9
 a9:=Tryz.isAgg9
 z9:=Tryz.sizeOf9
 v9:=Tryz.zeroValue9
 t31:=Tryz.underlying43
 a31:=Tryz.isAgg43
 z31:=Tryz.sizeOf43
 v31:=Tryz.zeroValue43
 t46:=Tryz.underlying191
 a46:=Tryz.isAgg191
 z46:=Tryz.sizeOf191
 v46:=Tryz.zeroValue191
 t51:=Tryz.underlying265
 a51:=Tryz.isAgg265
 z51:=Tryz.sizeOf265
 v51:=Tryz.zeroValue265
 t53:=Tryz.underlying195
 a53:=Tryz.isAgg195
 z53:=Tryz.sizeOf195
 v53:=Tryz.zeroValue195
 t131:=Tryz.underlying262
 a131:=Tryz.isAgg262
 z131:=Tryz.sizeOf262
 v131:=Tryz.zeroValue262
 t182:=Tryz.underlying257
 a182:=Tryz.isAgg257
 z182:=Tryz.sizeOf257
 v182:=Tryz.zeroValue257
 t183:=Tryz.underlying258
 a183:=Tryz.isAgg258
 z183:=Tryz.sizeOf258
 v183:=Tryz.zeroValue258
 t218:=Tryz.underlying276
 a218:=Tryz.isAgg276
 z218:=Tryz.sizeOf276
 v218:=Tryz.zeroValue276
 t222:=Tryz.underlying280
 a222:=Tryz.isAgg280
 z222:=Tryz.sizeOf280
 v222:=Tryz.zeroValue280
 t228:=Tryz.underlying295
 a228:=Tryz.isAgg295
 z228:=Tryz.sizeOf295
 v228:=Tryz.zeroValue295
 t229:=Tryz.underlying296
 a229:=Tryz.isAgg296
 z229:=Tryz.sizeOf296
 v229:=Tryz.zeroValue296
def dL(ss:List (List UInt8)):List (List UInt8):=ss.mergeSort fun x y=>decide (x≤y)
theorem dK(ss:List (List UInt8)):(dL ss).length=ss.length:=List.length_mergeSort _
theorem zL(d:List (List UInt8))(c:Array Value)(h:d.length≤c.size):(putCells encStr 0 d.toArray c).toList=c.toList.take 0++d.map cj++c.toList.drop (0+(d.map cj).length):=by
 refine List.ext_getElem? fun k=> ?_
 simp only [putCells,Array.toList_mapIdx,List.getElem?_mapIdx,List.take_zero,List.nil_append,List.length_map,Nat.zero_add,Nat.zero_le,true_and,List.size_toArray,Nat.sub_zero]
 by_cases hk:k<d.length
 ·rw [List.getElem?_append_left (by simpa using hk),List.getElem?_map,List.getElem?_eq_getElem hk]
  have hkc:k<c.toList.length:=Nat.lt_of_lt_of_le hk h;have h1:c.toList[k]? =some c.toList[k]:=List.getElem?_eq_getElem hkc;rw [h1];simp [hk,cj]
 ·rw [List.getElem?_append_right (by simpa using Nat.le_of_not_lt hk),List.length_map,List.getElem?_drop,Nat.add_sub_cancel' (Nat.le_of_not_lt hk)]
  cases c.toList[k]? <;>simp [hk]
def Bj:aL:=⟨Nat×List (List UInt8),fun g vs A=>(g.2= []∧∃p cap,vs= [.slice p 0 cap])∨(g.2≠ []∧g.2.length<4611686018427387904∧A.Room g.1 0 g.2.length∧A.rd g.1 0 g.2.length=some (g.2.map cj)∧∃cap,vs= [.slice (some ⟨g.1,0,none⟩) g.2.length cap]),
 fun g _ A _ A'=>(g.2= []→A'=A)∧(g.2≠ []→A.Put A' g.1 0 ((dL g.2).map cj))⟩
theorem Bi:FOk Tryz.prog 124 Bj:=by
 intro g vs A w hA hp;refine fx rj.f190 ⟨by kernel_rfl,by kernel_rfl⟩ ?_;rcases hp with⟨h0,p,cap,rfl⟩|⟨h0,hlt,⟨c,t,fz,hb,hle,hfz⟩,hr,cap,rfl⟩
 ·intro cs
  obtain⟨e,w',fr,⟨k1,k2⟩,k3⟩:=Any.slices_Sort_string_none rj p cap w cs;subst k2;exact⟨e,w',fr,⟨_,k1,A,⟨fun _=>rfl,fun h=>absurd h0 h⟩,rfl,rfl,rfl,fun _ _ _=>rfl,hA,fun k o ho=> .inl ⟨o,ho⟩⟩,k3⟩
 ·have hw:=hA _ _ hb
  have hsz:g.1<w.heap.size:=by
   have:=Array.getElem?_eq_some_iff.1 hw;exact this.1
  have hH:Holds encStr w g.1 0 g.2.toArray:=fun j hj=>by
   have hj:j<g.2.length:=by simpa using hj
   constructor
   ·have hr':(c.toList.drop 0).take g.2.length=g.2.map cj:=by
      rw [A.rdeq]at hr;unfold zF at hr;rw [hb]at hr;simp only at hr;rw [if_pos (by omega)]at hr;injection hr
    have h3:((c.toList.drop 0).take g.2.length)[j]? =(g.2.map cj)[j]? :=by rw [hr']
    rw [List.drop_zero,List.getElem?_take,if_pos hj,List.getElem?_map,List.getElem?_eq_getElem hj]at h3;unfold World.cell?;rw [hw];simp only [Option.isSome_none,Bool.false_eq_true,if_false,Nat.zero_add];rw [←Array.getElem?_toList,h3];simp [cj,hj]
   ·unfold World.frozen?
    rw [hw];have h9:=hfz.not (0+j) (by omega);obtain⟨lo,hi⟩:=fz;dsimp only at h9 ⊢;rw [←Bool.decide_and];exact decide_eq_false h9
  intro cs;obtain⟨e,w',fr,⟨k1,n,os,k2⟩,k3⟩:=Any.slices_Sort_string rj g.1 0 cap g.2 w hH hsz hlt cs;have hd:(dL g.2).length≤c.size:=by rw [dK];omega
  refine⟨e,w',fr,⟨_,k1,aa.of (fun k=>if k=g.1 then some (.cells (putCells encStr 0 (dL g.2).toArray c) t fz)else A.blk k),⟨fun h=>absurd h h0,fun _=>⟨⟨c,t,fz,_,hb,if_pos rfl,zL _ c hd⟩,fun k hk=>if_neg hk⟩⟩,?_⟩,k3⟩;have k2:w'=grow (putRow encStr (Sort.ahead w n) g.1 0 (dL g.2).toArray) os:=k2;subst k2
  have at_:∀k,k<w.heap.size→(grow (putRow encStr (Sort.ahead w n) g.1 0 (dL g.2).toArray) os).heap[k]? =if k=g.1 then some (.cells (putCells encStr 0 (dL g.2).toArray c) t fz)else w.heap[k]? :=fun k hk=>by
   show(((w.heap.modify g.1 (onCells (putCells encStr 0 (dL g.2).toArray)))++os)[k]?)=_
   rw [Array.getElem?_append_left (by simpa using hk),Array.getElem?_modify]
   by_cases e:k=g.1
   ·subst e;rw [if_pos rfl,if_pos rfl,hw];rfl
   ·rw [if_neg (fun h=>e h.symm),if_neg e]
  have lt_:∀k o,A.blk k=some o→k<w.heap.size:=fun k o hk=>(Array.getElem?_eq_some_iff.1 (hA k o hk)).1
  refine⟨rfl,rfl,rfl,fun k hk hks=> ?_,fun k o hk=> ?_,fun k o hk=> ?_⟩
  ·rw [at_ k hks,if_neg fun e=>(by rw [e,hb]at hk;cases hk)]
  ·have hk:(if k=g.1 then some (Obj.cells (putCells encStr 0 (dL g.2).toArray c) t fz)else A.blk k)=some o:=hk
   by_cases e:k=g.1
   ·rw [if_pos e]at hk
    rw [at_ k (e▸hsz),if_pos e,hk]
   ·rw [if_neg e]at hk
    rw [at_ k (lt_ k o hk),if_neg e];exact hA k o hk
  ·have hk:(if k=g.1 then some (Obj.cells (putCells encStr 0 (dL g.2).toArray c) t fz)else A.blk k)=some o:=hk
   by_cases e:k=g.1
   ·exact .inl ⟨_,e▸hb⟩
   ·rw [if_neg e]at hk;exact .inl ⟨o,hk⟩
end
end Go.Proofs.YtphigpccfbfnoaaGreatDoor
namespace Go.Proofs.YtphigpccfbfnoaaGreatDoor
open Go.Sx Go.RowKit
noncomputable section
open Classical
def ng:aL:=⟨ByteArray×ByteArray,fun g vs _=>vs= [.string g.1,.string g.2],fun g _ A v A'=>A'=A∧v= .bool (decide (g.2.data.toList<+:g.1.data.toList))⟩
theorem wA:FOk Tryz.prog 122 ng:=by
 refine aS mixed fun g vs A hp=> ?_
 simp only [ng]at hp;obtain⟨s,p⟩:=g;obtain rfl:vs=_:=hp;refine⟨noC,noL,60,aj _,ak _,fun blk os out tape D hD=> ?_⟩;conv=>lhs;whnf
 refine ab (fun h1=> ?_) (fun h1=> ?_)<;>(conv=>lhs;whnf)<;>dsimp only at h1
 ·refine cK (by simp only [Bool.and_eq_true,Bool.or_eq_true,decide_eq_true_eq];omega) ?_
  conv=>lhs;whnf
  refine(hD _).2 ⟨rfl,?_⟩;show Value.bool (eW (List.take ((p.data.toList.length:Int).toNat-(0:Int).toNat) (List.drop (0:Int).toNat s.data.toList)) p.data.toList)=_
  congr 1;rw [show(p.data.toList.length:Int).toNat-(0:Int).toNat=p.data.toList.length by omega,show(0:Int).toNat=0 from rfl,List.drop_zero]
  cases hb:eW (s.data.toList.take p.data.toList.length) p.data.toList with
  |true=>exact(decide_eq_true (by rw [←bh.1 hb];exact List.take_prefix _ _)).symm
  |false=>exact(decide_eq_false fun h=>cr.1 hb (List.prefix_iff_eq_take.1 h).symm).symm
 ·refine(hD _).2 ⟨rfl,?_⟩
  rw [decide_eq_false fun h=>h1 (by have:=h.length_le;dsimp only at this;omega)]
end
end Go.Proofs.YtphigpccfbfnoaaGreatDoor
