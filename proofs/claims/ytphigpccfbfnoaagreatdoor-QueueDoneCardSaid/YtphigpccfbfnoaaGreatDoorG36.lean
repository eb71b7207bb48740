/-
  Parts of the proof: RkE RkF
-/
import Derived.Test.YtphigpccfbfnoaaGreatDoorG35
import Derived.Test.YtphigpccfbfnoaaGreatDoorG28
import Derived.Test.YtphigpccfbfnoaaGreatDoorG24
set_option maxRecDepth 100000
set_option maxHeartbeats 0
namespace Go.Proofs.YtphigpccfbfnoaaGreatDoor
open Go.Sx Go.RowKit
noncomputable section
open Classical
def setX(h:bJ)(z time:Int)(x:aC):aC:=⟨x.path,h.data, { x.stat with mzxid:=z,mtime:=time,ver:=h.ver }⟩
def qd(N:List aC)(h:bJ)(z time:Int):List aC:=if cM N h.path<0 then N else match N[(cM N h.path).toNat]? with
 |some x=>N.set (cM N h.path).toNat (setX h z time x)
 |none=>N
def bF(N:List aC)(h:bJ)(z time:Int):List aC:=
 if h.kind=1 then fj (cA N ⟨h.path,h.data,⟨z,z,z,time,time,0,0,h.owner,0,0⟩⟩) h.path z h.cver
 else if h.kind=2 then fj (dh N h.path) h.path z h.cver
 else if h.kind=3 then qd N h z time else N
theorem nM{N:List aC}{h:bJ}{z time:Int}(k:h.kind=1):bF N h z time=fj (cA N ⟨h.path,h.data,⟨z,z,z,time,time,0,0,h.owner,0,0⟩⟩) h.path z h.cver:=by
 unfold bF;rw [if_pos k]
theorem xJ{N:List aC}{h:bJ}{z time:Int}(k:h.kind=2):bF N h z time=fj (dh N h.path) h.path z h.cver:=by
 unfold bF;rw [if_neg (by omega),if_pos k]
theorem kX{N:List aC}{h:bJ}{z time:Int}(k:h.kind=3):bF N h z time=qd N h z time:=by
 unfold bF;rw [if_neg (by omega),if_neg (by omega),if_pos k]
theorem xK{N:List aC}{h:bJ}{z time:Int}(k1:¬h.kind=1)(k2:¬h.kind=2)(k3:¬h.kind=3):bF N h z time=N:=by
 unfold bF;rw [if_neg k1,if_neg k2,if_neg k3]
def eH:aL:=⟨RG×aB×aa×Int×Int,fun g vs A=>∃cs,vs= [.pointer (some ⟨g.1.r,0,none⟩),bx cs,.int .i64 g.2.2.2.1,.int .i64 g.2.2.2.2]∧bC A g.1.B g.1.O g.1.r g.1.N g.1.S∧g.1.N.length≤900000∧bj g.2.2.1 g.2.1 cs∧Aside A g.2.2.1 g.1.O,
 fun g _ A _ A'=>dF A g.1.B g.1.O g.1.r (bF g.1.N g.2.1.h g.2.2.2.1 g.2.2.2.2) g.1.S A'⟩
theorem dF.of{A B A' B':aa}{O O':Nat→Prop}{r:Nat}{N:List aC}{S:List bb}(h:bC A' B' O' r N S)(hK:Kept A O A' O')(hB:B.Sub B')(hn:∀k o,B'.blk k=some o→B.blk k=some o∨A.blk k=none):dF A B O r N S A':=
 ⟨B',O',h,hK.bk,hK.dom,hK.own,hB,hn⟩
theorem fB.more{A B A':aa}{O:Nat→Prop}{r:Nat}{l:List (aC×Value)}{S:List bb}{vn vs:Value}{gn gs:Nat}(h:fB A B O r l S vn vs gn gs)(hs:A.Sub A'):fB A' B O r l S vn vs gn gs:=
 h.frame (fun k hk=>by
  obtain⟨o,ho⟩:=h.live k hk
  rw [hs k o ho,ho]) (h.sub.trans hs)
theorem nO(N:List aC)(n:aC):(cA N n).length≤N.length+1:=by
 unfold cA;have h1:=mi N n.path;rw [List.length_append,List.length_cons,List.length_take,List.length_drop];omega
theorem zG:FOk Tryz.prog 31 eH:=by
 refine aS mixed fun⟨⟨N,S,B,O,r⟩,d,C,z,time⟩ vs A hp=> ?_
 obtain⟨cs,rfl,hRef,hN,hR,hAs⟩:∃cs,vs= [.pointer (some ⟨r,0,none⟩),bx cs,.int .i64 z,.int .i64 time]∧bC A B O r N S∧N.length≤900000∧bj C d cs∧Aside A C O:=hp;obtain⟨⟨zxid,kind,ses,ah,xid,dtime,path,data,owner,ver,cver,tmo,err,cfg,mem⟩,parts⟩:=d;rw [bj]at hR;dsimp only [bJ.cells]at hR;obtain⟨vd,vm,vp,rws,rfl,hpl,hd1,hM,hSp,hlen2,hRows⟩:=hR;have hdA:=hd1.sub hAs.1;obtain⟨⟨a7,k7,rfl,hd7,hdl,hz1,hz2,hz3⟩,hdn⟩:=hdA;obtain⟨a14,k14,rfl⟩:=hM.1.form;obtain⟨a15,k15,rfl⟩:=hSp.form
 have hC:aF Tryz.prog (bu [aE 85 sX,aE 82 CU,aE 84 yN,aE 83 vy] noC):=az (aj _) (fun x hx=>by
  simp only [List.mem_cons,List.not_mem_nil,or_false]at hx;rcases hx with rfl|rfl|rfl|rfl
  ·exact ai qT
  ·exact ai put_ok
  ·exact ai Ca
  ·exact ai EK)
 refine⟨_,noL,60,hC,ak _,fun blk os out tape D hD=> ?_⟩;conv=>lhs;whnf
 refine ab (fun k1=> ?_) (fun k1=> ?_)<;>(conv=>lhs;whnf)
 ·have e2:¬kind=2:=by omega
  have e3:¬kind=3:=by omega
  repeat(first|refine bP k1 ?_|refine aI e2 ?_|refine aI e3 ?_
         conv=>lhs;whnf)
  have hcs:(a7=none∧data.length=0)∨(∃g7 o7 t7,a7=some ⟨g7,o7,some t7⟩∧data.length=0)∨∃g7 o7,a7=some ⟨g7,o7,none⟩:=by
   cases a7 with
   |none=>exact .inl ⟨rfl,by have:=hz1 rfl;omega⟩
   |some a=>
    obtain⟨g7,o7,sp⟩:=a
    cases sp with
    |none=>exact .inr (.inr ⟨g7,o7,rfl⟩)
    |some t7=>
     refine .inr (.inl ⟨g7,o7,t7,rfl,?_⟩);rcases Nat.eq_zero_or_pos k7 with h|h
     ·omega
     ·have:=hz2 _ rfl h
      cases this
  refine Or.elim hcs (fun e=> ?_) (fun e=>Or.elim e (fun e=> ?_) (fun e=> ?_))
  ·obtain⟨e,h0⟩:=e
   subst e;refine(hD _).2 fun gb A1 hN=> ?_
   have hN:A.New A1 gb #[] 5:=hN;conv=>lhs;whnf
   repeat(refine au hD rfl ?_
          conv=>lhs;whnf)
   refine(hD _).2 ⟨[],data.map bv,rfl,?_,hdl,fun v hv=>(by
    obtain⟨b,_,rfl⟩:=List.mem_map.1 hv
    rfl),by show 0+data.length≤9223372036854775807;omega,fun h0=>(by
    rw [ft h0];show data.length*1≤_
    omega),rfl,fun h=>(by cases h),fun _ _ _ h1 h2=>absurd (by
    have:data.length=0:=by omega
    rw [List.length_eq_zero_iff.1 this];rfl) h2,fun v A2 hA=> ?_⟩
   ·show(if data.length=0 then some []else none)=_
    rw [if_pos h0,List.length_eq_zero_iff.1 h0];rfl
   obtain⟨s2,hS2⟩:=er hN.sub hA hdl;obtain⟨ax,cx,hvx⟩:=hS2.form;subst hvx;have hRef2:=hRef.more s2
   have hAs2:Aside A2 (A2.minus A) O:=⟨eo A A2,fun j o hj hO=>by
    obtain⟨l0,vn0,vs0,gn0,gs0,_,h0⟩:=hRef;obtain⟨o',ho'⟩:=h0.live j hO
    rw [cG _ ho']at hj;cases hj⟩
   conv=>lhs;whnf
   repeat(refine au hD rfl ?_
          conv=>lhs;whnf)
   refine(hD _).2 ⟨(⟨N,S,B,O,r⟩,((⟨path,data,⟨z,z,z,time,time,0,0,owner,0,0⟩⟩:aC),.slice ax data.length cx),A2.minus A),⟨rfl,hRef2,by show N.length≤1000000;omega,⟨hS2,hdn⟩,hAs2⟩,fun v A3 hq=> ?_⟩;have hq:∃O',bC A3 (B.plus (A2.minus A)) O' r (cA N ⟨path,data,⟨z,z,z,time,time,0,0,owner,0,0⟩⟩) S∧Kept A2 O A3 O':=hq;obtain⟨O3,hR3,hK3⟩:=hq;have hpll:=nO N ⟨path,data,⟨z,z,z,time,time,0,0,owner,0,0⟩⟩;conv=>lhs;whnf
   repeat(first|refine bP k1 ?_|refine aI e2 ?_|refine aI e3 ?_
          conv=>lhs;whnf)
   refine(hD _).2 ⟨(⟨cA N ⟨path,data,⟨z,z,z,time,time,0,0,owner,0,0⟩⟩,S,B.plus (A2.minus A),O3,r⟩,path,z,cver),⟨rfl,hR3,by show(cA N ⟨path,data,⟨z,z,z,time,time,0,0,owner,0,0⟩⟩).length≤1000000;omega,hpl⟩,fun v A4 hq=> ?_⟩;have hq:∃O',bC A4 (B.plus (A2.minus A)) O' r (fj (cA N ⟨path,data,⟨z,z,z,time,time,0,0,owner,0,0⟩⟩) path z cver) S∧Kept A3 O3 A4 O':=hq;obtain⟨O4,hR4,hK4⟩:=hq
   have hend:eH.post (⟨N,S,B,O,r⟩,.mk ⟨zxid,kind,ses,ah,xid,dtime,path,data,owner,ver,cver,tmo,err,cfg,mem⟩ parts,C,z,time) [] A (.tuple #[]) A4:=by
    show dF A B O r (bF N ⟨zxid,kind,ses,ah,xid,dtime,path,data,owner,ver,cver,tmo,err,cfg,mem⟩ z time) S A4
    rw [nM k1];exact dF.of hR4 ((Kept.more s2).trans (hK3.trans hK4)) (fk _ _) fun j o hj=>(bL hj).imp id fun h=>(bN h.2).1
   conv=>lhs;whnf
   exact(hD _).2 hend
  ·obtain⟨g7,o7,t7,e,h0⟩:=e
   subst e;refine(hD _).2 fun gb A1 hN=> ?_
   have hN:A.New A1 gb #[] 5:=hN;conv=>lhs;whnf
   repeat(refine au hD rfl ?_
          conv=>lhs;whnf)
   refine(hD _).2 ⟨[],data.map bv,rfl,?_,hdl,fun v hv=>(by
    obtain⟨b,_,rfl⟩:=List.mem_map.1 hv
    rfl),by show 0+data.length≤9223372036854775807;omega,fun h0=>(by
    rw [ft h0];show data.length*1≤_
    omega),rfl,fun h=>(by cases h),fun _ _ _ h1 h2=>absurd (by
    have:data.length=0:=by omega
    rw [List.length_eq_zero_iff.1 this];rfl) h2,fun v A2 hA=> ?_⟩
   ·show(if data.length=0 then some []else none)=_
    rw [if_pos h0,List.length_eq_zero_iff.1 h0];rfl
   obtain⟨s2,hS2⟩:=er hN.sub hA hdl;obtain⟨ax,cx,hvx⟩:=hS2.form;subst hvx;have hRef2:=hRef.more s2
   have hAs2:Aside A2 (A2.minus A) O:=⟨eo A A2,fun j o hj hO=>by
    obtain⟨l0,vn0,vs0,gn0,gs0,_,h0⟩:=hRef;obtain⟨o',ho'⟩:=h0.live j hO
    rw [cG _ ho']at hj;cases hj⟩
   conv=>lhs;whnf
   repeat(refine au hD rfl ?_
          conv=>lhs;whnf)
   refine(hD _).2 ⟨(⟨N,S,B,O,r⟩,((⟨path,data,⟨z,z,z,time,time,0,0,owner,0,0⟩⟩:aC),.slice ax data.length cx),A2.minus A),⟨rfl,hRef2,by show N.length≤1000000;omega,⟨hS2,hdn⟩,hAs2⟩,fun v A3 hq=> ?_⟩;have hq:∃O',bC A3 (B.plus (A2.minus A)) O' r (cA N ⟨path,data,⟨z,z,z,time,time,0,0,owner,0,0⟩⟩) S∧Kept A2 O A3 O':=hq;obtain⟨O3,hR3,hK3⟩:=hq;have hpll:=nO N ⟨path,data,⟨z,z,z,time,time,0,0,owner,0,0⟩⟩;conv=>lhs;whnf
   repeat(first|refine bP k1 ?_|refine aI e2 ?_|refine aI e3 ?_
          conv=>lhs;whnf)
   refine(hD _).2 ⟨(⟨cA N ⟨path,data,⟨z,z,z,time,time,0,0,owner,0,0⟩⟩,S,B.plus (A2.minus A),O3,r⟩,path,z,cver),⟨rfl,hR3,by show(cA N ⟨path,data,⟨z,z,z,time,time,0,0,owner,0,0⟩⟩).length≤1000000;omega,hpl⟩,fun v A4 hq=> ?_⟩;have hq:∃O',bC A4 (B.plus (A2.minus A)) O' r (fj (cA N ⟨path,data,⟨z,z,z,time,time,0,0,owner,0,0⟩⟩) path z cver) S∧Kept A3 O3 A4 O':=hq;obtain⟨O4,hR4,hK4⟩:=hq
   have hend:eH.post (⟨N,S,B,O,r⟩,.mk ⟨zxid,kind,ses,ah,xid,dtime,path,data,owner,ver,cver,tmo,err,cfg,mem⟩ parts,C,z,time) [] A (.tuple #[]) A4:=by
    show dF A B O r (bF N ⟨zxid,kind,ses,ah,xid,dtime,path,data,owner,ver,cver,tmo,err,cfg,mem⟩ z time) S A4
    rw [nM k1];exact dF.of hR4 ((Kept.more s2).trans (hK3.trans hK4)) (fk _ _) fun j o hj=>(bL hj).imp id fun h=>(bN h.2).1
   conv=>lhs;whnf
   exact(hD _).2 hend
  ·obtain⟨g7,o7,e⟩:=e
   subst e;refine(hD _).2 fun gb A1 hN=> ?_
   have hN:A.New A1 gb #[] 5:=hN;conv=>lhs;whnf
   repeat(refine au hD rfl ?_
          conv=>lhs;whnf)
   refine(hD _).2 ⟨[],data.map bv,rfl,?_,hdl,fun v hv=>(by
    obtain⟨b,_,rfl⟩:=List.mem_map.1 hv
    rfl),by show 0+data.length≤9223372036854775807;omega,fun h0=>(by
    rw [ft h0];show data.length*1≤_
    omega),rfl,fun h=>(by cases h),fun _ _ _ h1 h2=>absurd (by
    have:data.length=0:=by omega
    rw [List.length_eq_zero_iff.1 this];rfl) h2,fun v A2 hA=> ?_⟩
   ·show(if data.length=0 then some []else A1.rd g7 o7 (data.length*1))=_
    by_cases h0:data.length=0
    ·rw [if_pos h0,List.length_eq_zero_iff.1 h0];rfl
    ·rw [if_neg h0];exact aJ hN.sub (hz3 (by omega) _ rfl)
   obtain⟨s2,hS2⟩:=er hN.sub hA hdl;obtain⟨ax,cx,hvx⟩:=hS2.form;subst hvx;have hRef2:=hRef.more s2
   have hAs2:Aside A2 (A2.minus A) O:=⟨eo A A2,fun j o hj hO=>by
    obtain⟨l0,vn0,vs0,gn0,gs0,_,h0⟩:=hRef;obtain⟨o',ho'⟩:=h0.live j hO
    rw [cG _ ho']at hj;cases hj⟩
   conv=>lhs;whnf
   repeat(refine au hD rfl ?_
          conv=>lhs;whnf)
   refine(hD _).2 ⟨(⟨N,S,B,O,r⟩,((⟨path,data,⟨z,z,z,time,time,0,0,owner,0,0⟩⟩:aC),.slice ax data.length cx),A2.minus A),⟨rfl,hRef2,by show N.length≤1000000;omega,⟨hS2,hdn⟩,hAs2⟩,fun v A3 hq=> ?_⟩;have hq:∃O',bC A3 (B.plus (A2.minus A)) O' r (cA N ⟨path,data,⟨z,z,z,time,time,0,0,owner,0,0⟩⟩) S∧Kept A2 O A3 O':=hq;obtain⟨O3,hR3,hK3⟩:=hq;have hpll:=nO N ⟨path,data,⟨z,z,z,time,time,0,0,owner,0,0⟩⟩;conv=>lhs;whnf
   repeat(first|refine bP k1 ?_|refine aI e2 ?_|refine aI e3 ?_
          conv=>lhs;whnf)
   refine(hD _).2 ⟨(⟨cA N ⟨path,data,⟨z,z,z,time,time,0,0,owner,0,0⟩⟩,S,B.plus (A2.minus A),O3,r⟩,path,z,cver),⟨rfl,hR3,by show(cA N ⟨path,data,⟨z,z,z,time,time,0,0,owner,0,0⟩⟩).length≤1000000;omega,hpl⟩,fun v A4 hq=> ?_⟩;have hq:∃O',bC A4 (B.plus (A2.minus A)) O' r (fj (cA N ⟨path,data,⟨z,z,z,time,time,0,0,owner,0,0⟩⟩) path z cver) S∧Kept A3 O3 A4 O':=hq;obtain⟨O4,hR4,hK4⟩:=hq
   have hend:eH.post (⟨N,S,B,O,r⟩,.mk ⟨zxid,kind,ses,ah,xid,dtime,path,data,owner,ver,cver,tmo,err,cfg,mem⟩ parts,C,z,time) [] A (.tuple #[]) A4:=by
    show dF A B O r (bF N ⟨zxid,kind,ses,ah,xid,dtime,path,data,owner,ver,cver,tmo,err,cfg,mem⟩ z time) S A4
    rw [nM k1];exact dF.of hR4 ((Kept.more s2).trans (hK3.trans hK4)) (fk _ _) fun j o hj=>(bL hj).imp id fun h=>(bN h.2).1
   conv=>lhs;whnf
   exact(hD _).2 hend
 refine ab (fun k2=> ?_) (fun k2=> ?_)<;>(conv=>lhs;whnf)
 ·have e3:¬kind=3:=by omega
  repeat(first|refine aI k1 ?_|refine bP k2 ?_|refine aI e3 ?_
         conv=>lhs;whnf)
  refine(hD _).2 ⟨(⟨N,S,B,O,r⟩,path),⟨rfl,hRef,by show N.length≤1000000;omega⟩,fun v A1 hq=> ?_⟩;have hq:∃O',bC A1 B O' r (dh N path) S∧Kept A O A1 O':=hq;obtain⟨O1,hR1,hK1⟩:=hq;have hdl:=mi N path;conv=>lhs;whnf
  repeat(first|refine aI k1 ?_|refine bP k2 ?_|refine aI e3 ?_
         conv=>lhs;whnf)
  refine(hD _).2 ⟨(⟨dh N path,S,B,O1,r⟩,path,z,cver),⟨rfl,hR1,by show(dh N path).length≤1000000;omega,hpl⟩,fun v A2 hq=> ?_⟩;have hq:∃O',bC A2 B O' r (fj (dh N path) path z cver) S∧Kept A1 O1 A2 O':=hq;obtain⟨O2,hR2,hK2⟩:=hq
  have hend:eH.post (⟨N,S,B,O,r⟩,.mk ⟨zxid,kind,ses,ah,xid,dtime,path,data,owner,ver,cver,tmo,err,cfg,mem⟩ parts,C,z,time) [] A (.tuple #[]) A2:=by
   show dF A B O r (bF N ⟨zxid,kind,ses,ah,xid,dtime,path,data,owner,ver,cver,tmo,err,cfg,mem⟩ z time) S A2
   rw [xJ k2];exact dF.of hR2 (hK1.trans hK2) (aa.Sub.refl _) fun k o hk=> .inl hk
  conv=>lhs;whnf
  exact(hD _).2 hend
 refine ab (fun k3=> ?_) (fun k3=> ?_)<;>(conv=>lhs;whnf)
 ·refine(hD _).2 ⟨(⟨N,S,B,O,r⟩,path),⟨rfl,hRef,by show N.length≤1000000;omega⟩,fun v A9 hq=> ?_⟩
  have hq:A9=A∧v= .int .i64 (cM N path):=hq;have h9:=hq.1.symm;have hv:=hq.2;subst h9
  by_cases hf:cM N path<0
  ·subst hv
   have hend:eH.post (⟨N,S,B,O,r⟩,.mk ⟨zxid,kind,ses,ah,xid,dtime,path,data,owner,ver,cver,tmo,err,cfg,mem⟩ parts,C,z,time) [] A (.tuple #[]) A:=by
    show dF A B O r (bF N ⟨zxid,kind,ses,ah,xid,dtime,path,data,owner,ver,cver,tmo,err,cfg,mem⟩ z time) S A
    rw [kX k3,qd,if_pos hf];exact dF.of hRef (Kept.refl _ _) (aa.Sub.refl _) fun k o hk=> .inl hk
   conv=>lhs;whnf
   repeat(first|refine aI k1 ?_|refine aI k2 ?_|refine bP k3 ?_
          conv=>lhs;whnf)
   refine aI (show ¬0≤cM N path by omega) ?_;conv=>lhs;whnf
   exact(hD _).2 hend
  obtain⟨k,hk,hfk⟩:=sY hf;rw [hfk]at hv;subst hv;obtain⟨l,vn,vs',gn,gs,hl,h⟩:=hRef;have hll:l.length=N.length:=by rw [←hl,List.length_map]
  have hkl:k<l.length:=by omega
  have hpos:0<l.length:=by omega
  obtain⟨_,ao,c,hvn,hc,hy1,hy2,hy3⟩:=h.nrow;obtain⟨e,cc,h8,h9,h10⟩:=hy3 hpos;subst e;subst hvn;have htop:A.rd r 0 1=some [.slice (some ⟨gn,0,none⟩) l.length c]:=h.top.rd (o:=0) (n:=1) (by show 0+1≤2;omega);have i0:(0:Int)≤(k:Int)∧(k:Int)<(l.length:Int):=by omega
  have ik:(0:Int)≤(k:Int):=by omega
  have hkn:k*12+12≤l.length*12:=by omega
  obtain⟨⟨⟨xp,xd,⟨q1,q2,q3,q4,q5,q6,q7,q8,q9,q10⟩⟩,xv⟩,hx⟩:∃x,x=l[k]:=⟨_,rfl⟩;conv=>lhs;whnf
  repeat(first|refine aI k1 ?_|refine aI k2 ?_|refine bP k3 ?_|refine bP ik ?_|refine af htop ?_|refine aq i0 ?_
         conv=>lhs;whnf)
  have hcs:(a7=none∧data.length=0)∨(∃g7 o7 t7,a7=some ⟨g7,o7,some t7⟩∧data.length=0)∨∃g7 o7,a7=some ⟨g7,o7,none⟩:=by
   cases a7 with
   |none=>exact .inl ⟨rfl,by have:=hz1 rfl;omega⟩
   |some a=>
    obtain⟨g7,o7,sp⟩:=a
    cases sp with
    |none=>exact .inr (.inr ⟨g7,o7,rfl⟩)
    |some t7=>
     refine .inr (.inl ⟨g7,o7,t7,rfl,?_⟩);rcases Nat.eq_zero_or_pos k7 with hh|hh
     ·omega
     ·have:=hz2 _ rfl hh
      cases this
  refine Or.elim hcs (fun e=> ?_) (fun e=>Or.elim e (fun e=> ?_) (fun e=> ?_))
  ·obtain⟨e,h0⟩:=e
   subst e;refine(hD _).2 fun gb A1 hNw=> ?_
   have hNw:A.New A1 gb #[] 5:=hNw;have htop1:=aJ hNw.sub htop;conv=>lhs;whnf
   repeat(first|refine au hD rfl ?_|refine af htop1 ?_|refine aq i0 ?_
          conv=>lhs;whnf)
   refine(hD _).2 ⟨[],data.map bv,rfl,?_,hdl,fun v hv=>(by
    obtain⟨b,_,rfl⟩:=List.mem_map.1 hv
    rfl),by show 0+data.length≤9223372036854775807;omega,fun h0=>(by
    rw [ft h0];show data.length*1≤_
    omega),rfl,fun h=>(by cases h),fun _ _ _ h1 h2=>absurd (by
    have:data.length=0:=by omega
    rw [List.length_eq_zero_iff.1 this];rfl) h2,fun v A2 hA=> ?_⟩
   ·show(if data.length=0 then some []else none)=_
    rw [if_pos h0,List.length_eq_zero_iff.1 h0];rfl
   obtain⟨s2,hS2⟩:=er hNw.sub hA hdl;obtain⟨ax,cx,hvx⟩:=hS2.form;subst hvx;have h2:=h.more s2;have htop2:=aJ s2 htop;have hroom:A2.Room gn (0+k*12+1) 1:=h2.room hkl (i:=1) (by omega) rfl
   have hBs:(B.plus (A2.minus A)).Sub A2:=fun j o hj=>by
    rcases bL hj with hh|hh
    ·exact s2 j o (h.sub j o hh)
    ·exact(bN hh.2).2
   have hoff:∀j,O j→(B.plus (A2.minus A)).blk j=none:=fun j hj=>by
    cases hb:(B.plus (A2.minus A)).blk j with
    |none=>rfl
    |some o=>
     rcases bL hb with hh|hh
     ·rw [h.off j hj]at hh;cases hh
     ·obtain⟨o',ho'⟩:=h.live j hj
      rw [cG _ ho']at hh;cases hh.2
   conv=>lhs;whnf
   repeat(first|refine au hD rfl ?_|refine af htop2 ?_|refine aq i0 ?_
          conv=>lhs;whnf)
   refine(hD _).2 ⟨hroom,fun A3 hP3=> ?_⟩;have hP3:A2.Put A3 gn (0+k*12+1) [.slice ax data.length cx]:=hP3;obtain⟨hT3,hK3⟩:=h2.AZ (B':=B.plus (A2.minus A)) (fk _ _) hBs hoff hkl (i:=1) (by omega) (w:= .slice ax data.length cx) (x':=(⟨xp,data,⟨q1,q2,q3,q4,q5,q6,q7,q8,q9,q10⟩⟩,.slice ax data.length cx)) (by rw [←hx];rfl) ⟨hS2.sub (oY (gO h.sub)),hdn⟩ hP3;have htop3:A3.rd r 0 1=some [.slice (some ⟨gn,0,none⟩) l.length c]:=hT3.top.rd (o:=0) (n:=1) (by show 0+1≤2;omega);have hk3:k<(l.set k ((⟨xp,data,⟨q1,q2,q3,q4,q5,q6,q7,q8,q9,q10⟩⟩:aC),Value.slice ax data.length cx)).length:=by rw [List.length_set];exact hkl
   have hroom3:A3.Room gn (0+k*12+2+1) 1:=hT3.room hk3 (i:=3) (by omega) rfl;conv=>lhs;whnf
   repeat(first|refine au hD rfl ?_|refine af htop3 ?_|refine aq i0 ?_
          conv=>lhs;whnf)
   refine(hD _).2 ⟨hroom3,fun A4 hP4=> ?_⟩;have hP4:A3.Put A4 gn (0+k*12+3) [.int .i64 z]:=hP4;obtain⟨hT4,hK4⟩:=hT3.ah hk3 (i:=3) (by omega) (w:= .int .i64 z) (x':=(⟨xp,data,⟨q1,z,q3,q4,q5,q6,q7,q8,q9,q10⟩⟩,.slice ax data.length cx)) (by rw [List.getElem_set_self];rfl) (by rw [List.getElem_set_self]) (by rw [List.getElem_set_self]) hP4;have htop4:A4.rd r 0 1=some [.slice (some ⟨gn,0,none⟩) l.length c]:=hT4.top.rd (o:=0) (n:=1) (by show 0+1≤2;omega);rw [List.set_set]at hT4;have hk4:k<(l.set k ((⟨xp,data,⟨q1,z,q3,q4,q5,q6,q7,q8,q9,q10⟩⟩:aC),Value.slice ax data.length cx)).length:=by rw [List.length_set];exact hkl
   have hroom4:A4.Room gn (0+k*12+2+4) 1:=hT4.room hk4 (i:=6) (by omega) rfl;conv=>lhs;whnf
   repeat(first|refine au hD rfl ?_|refine af htop4 ?_|refine aq i0 ?_
          conv=>lhs;whnf)
   refine(hD _).2 ⟨hroom4,fun A5 hP5=> ?_⟩;have hP5:A4.Put A5 gn (0+k*12+6) [.int .i64 time]:=hP5;obtain⟨hT5,hK5⟩:=hT4.ah hk4 (i:=6) (by omega) (w:= .int .i64 time) (x':=(⟨xp,data,⟨q1,z,q3,q4,time,q6,q7,q8,q9,q10⟩⟩,.slice ax data.length cx)) (by rw [List.getElem_set_self];rfl) (by rw [List.getElem_set_self]) (by rw [List.getElem_set_self]) hP5;have htop5:A5.rd r 0 1=some [.slice (some ⟨gn,0,none⟩) l.length c]:=hT5.top.rd (o:=0) (n:=1) (by show 0+1≤2;omega);rw [List.set_set]at hT5;have hk5:k<(l.set k ((⟨xp,data,⟨q1,z,q3,q4,time,q6,q7,q8,q9,q10⟩⟩:aC),Value.slice ax data.length cx)).length:=by rw [List.length_set];exact hkl
   have hroom5:A5.Room gn (0+k*12+2+5) 1:=hT5.room hk5 (i:=7) (by omega) rfl;conv=>lhs;whnf
   repeat(first|refine au hD rfl ?_|refine af htop5 ?_|refine aq i0 ?_
          conv=>lhs;whnf)
   refine(hD _).2 ⟨hroom5,fun A6 hP6=> ?_⟩;have hP6:A5.Put A6 gn (0+k*12+7) [.int .i64 ver]:=hP6;obtain⟨hT6,hK6⟩:=hT5.ah hk5 (i:=7) (by omega) (w:= .int .i64 ver) (x':=(⟨xp,data,⟨q1,z,q3,q4,time,ver,q7,q8,q9,q10⟩⟩,.slice ax data.length cx)) (by rw [List.getElem_set_self];rfl) (by rw [List.getElem_set_self]) (by rw [List.getElem_set_self]) hP6;rw [List.set_set]at hT6
   have hend:eH.post (⟨N,S,B,O,r⟩,.mk ⟨zxid,kind,ses,ah,xid,dtime,path,data,owner,ver,cver,tmo,err,cfg,mem⟩ parts,C,z,time) [] A (.tuple #[]) A6:=by
    show dF A B O r (bF N ⟨zxid,kind,ses,ah,xid,dtime,path,data,owner,ver,cver,tmo,err,cfg,mem⟩ z time) S A6
    rw [kX k3];refine dF.of (O':=O) ⟨_,_,_,_,_,?_,hT6⟩ ((Kept.more s2).trans (hK3.trans (hK4.trans (hK5.trans hK6)))) (fk _ _) fun j o hj=>(bL hj).imp id fun h=>(bN h.2).1
    rw [qd,if_neg hf,hfk,Int.toNat_natCast,List.map_set,hl]
    have e2:N[k]? =some ⟨xp,xd,⟨q1,q2,q3,q4,q5,q6,q7,q8,q9,q10⟩⟩:=by
     rw [←hl,List.getElem?_map,List.getElem?_eq_getElem hkl,←hx];rfl
    rw [e2];rfl
   conv=>lhs;whnf
   exact(hD _).2 hend
  ·obtain⟨g7,o7,t7,e,h0⟩:=e
   subst e;refine(hD _).2 fun gb A1 hNw=> ?_
   have hNw:A.New A1 gb #[] 5:=hNw;have htop1:=aJ hNw.sub htop;conv=>lhs;whnf
   repeat(first|refine au hD rfl ?_|refine af htop1 ?_|refine aq i0 ?_
          conv=>lhs;whnf)
   refine(hD _).2 ⟨[],data.map bv,rfl,?_,hdl,fun v hv=>(by
    obtain⟨b,_,rfl⟩:=List.mem_map.1 hv
    rfl),by show 0+data.length≤9223372036854775807;omega,fun h0=>(by
    rw [ft h0];show data.length*1≤_
    omega),rfl,fun h=>(by cases h),fun _ _ _ h1 h2=>absurd (by
    have:data.length=0:=by omega
    rw [List.length_eq_zero_iff.1 this];rfl) h2,fun v A2 hA=> ?_⟩
   ·show(if data.length=0 then some []else none)=_
    rw [if_pos h0,List.length_eq_zero_iff.1 h0];rfl
   obtain⟨s2,hS2⟩:=er hNw.sub hA hdl;obtain⟨ax,cx,hvx⟩:=hS2.form;subst hvx;have h2:=h.more s2;have htop2:=aJ s2 htop;have hroom:A2.Room gn (0+k*12+1) 1:=h2.room hkl (i:=1) (by omega) rfl
   have hBs:(B.plus (A2.minus A)).Sub A2:=fun j o hj=>by
    rcases bL hj with hh|hh
    ·exact s2 j o (h.sub j o hh)
    ·exact(bN hh.2).2
   have hoff:∀j,O j→(B.plus (A2.minus A)).blk j=none:=fun j hj=>by
    cases hb:(B.plus (A2.minus A)).blk j with
    |none=>rfl
    |some o=>
     rcases bL hb with hh|hh
     ·rw [h.off j hj]at hh;cases hh
     ·obtain⟨o',ho'⟩:=h.live j hj
      rw [cG _ ho']at hh;cases hh.2
   conv=>lhs;whnf
   repeat(first|refine au hD rfl ?_|refine af htop2 ?_|refine aq i0 ?_
          conv=>lhs;whnf)
   refine(hD _).2 ⟨hroom,fun A3 hP3=> ?_⟩;have hP3:A2.Put A3 gn (0+k*12+1) [.slice ax data.length cx]:=hP3;obtain⟨hT3,hK3⟩:=h2.AZ (B':=B.plus (A2.minus A)) (fk _ _) hBs hoff hkl (i:=1) (by omega) (w:= .slice ax data.length cx) (x':=(⟨xp,data,⟨q1,q2,q3,q4,q5,q6,q7,q8,q9,q10⟩⟩,.slice ax data.length cx)) (by rw [←hx];rfl) ⟨hS2.sub (oY (gO h.sub)),hdn⟩ hP3;have htop3:A3.rd r 0 1=some [.slice (some ⟨gn,0,none⟩) l.length c]:=hT3.top.rd (o:=0) (n:=1) (by show 0+1≤2;omega);have hk3:k<(l.set k ((⟨xp,data,⟨q1,q2,q3,q4,q5,q6,q7,q8,q9,q10⟩⟩:aC),Value.slice ax data.length cx)).length:=by rw [List.length_set];exact hkl
   have hroom3:A3.Room gn (0+k*12+2+1) 1:=hT3.room hk3 (i:=3) (by omega) rfl;conv=>lhs;whnf
   repeat(first|refine au hD rfl ?_|refine af htop3 ?_|refine aq i0 ?_
          conv=>lhs;whnf)
   refine(hD _).2 ⟨hroom3,fun A4 hP4=> ?_⟩;have hP4:A3.Put A4 gn (0+k*12+3) [.int .i64 z]:=hP4;obtain⟨hT4,hK4⟩:=hT3.ah hk3 (i:=3) (by omega) (w:= .int .i64 z) (x':=(⟨xp,data,⟨q1,z,q3,q4,q5,q6,q7,q8,q9,q10⟩⟩,.slice ax data.length cx)) (by rw [List.getElem_set_self];rfl) (by rw [List.getElem_set_self]) (by rw [List.getElem_set_self]) hP4;have htop4:A4.rd r 0 1=some [.slice (some ⟨gn,0,none⟩) l.length c]:=hT4.top.rd (o:=0) (n:=1) (by show 0+1≤2;omega);rw [List.set_set]at hT4;have hk4:k<(l.set k ((⟨xp,data,⟨q1,z,q3,q4,q5,q6,q7,q8,q9,q10⟩⟩:aC),Value.slice ax data.length cx)).length:=by rw [List.length_set];exact hkl
   have hroom4:A4.Room gn (0+k*12+2+4) 1:=hT4.room hk4 (i:=6) (by omega) rfl;conv=>lhs;whnf
   repeat(first|refine au hD rfl ?_|refine af htop4 ?_|refine aq i0 ?_
          conv=>lhs;whnf)
   refine(hD _).2 ⟨hroom4,fun A5 hP5=> ?_⟩;have hP5:A4.Put A5 gn (0+k*12+6) [.int .i64 time]:=hP5;obtain⟨hT5,hK5⟩:=hT4.ah hk4 (i:=6) (by omega) (w:= .int .i64 time) (x':=(⟨xp,data,⟨q1,z,q3,q4,time,q6,q7,q8,q9,q10⟩⟩,.slice ax data.length cx)) (by rw [List.getElem_set_self];rfl) (by rw [List.getElem_set_self]) (by rw [List.getElem_set_self]) hP5;have htop5:A5.rd r 0 1=some [.slice (some ⟨gn,0,none⟩) l.length c]:=hT5.top.rd (o:=0) (n:=1) (by show 0+1≤2;omega);rw [List.set_set]at hT5;have hk5:k<(l.set k ((⟨xp,data,⟨q1,z,q3,q4,time,q6,q7,q8,q9,q10⟩⟩:aC),Value.slice ax data.length cx)).length:=by rw [List.length_set];exact hkl
   have hroom5:A5.Room gn (0+k*12+2+5) 1:=hT5.room hk5 (i:=7) (by omega) rfl;conv=>lhs;whnf
   repeat(first|refine au hD rfl ?_|refine af htop5 ?_|refine aq i0 ?_
          conv=>lhs;whnf)
   refine(hD _).2 ⟨hroom5,fun A6 hP6=> ?_⟩;have hP6:A5.Put A6 gn (0+k*12+7) [.int .i64 ver]:=hP6;obtain⟨hT6,hK6⟩:=hT5.ah hk5 (i:=7) (by omega) (w:= .int .i64 ver) (x':=(⟨xp,data,⟨q1,z,q3,q4,time,ver,q7,q8,q9,q10⟩⟩,.slice ax data.length cx)) (by rw [List.getElem_set_self];rfl) (by rw [List.getElem_set_self]) (by rw [List.getElem_set_self]) hP6;rw [List.set_set]at hT6
   have hend:eH.post (⟨N,S,B,O,r⟩,.mk ⟨zxid,kind,ses,ah,xid,dtime,path,data,owner,ver,cver,tmo,err,cfg,mem⟩ parts,C,z,time) [] A (.tuple #[]) A6:=by
    show dF A B O r (bF N ⟨zxid,kind,ses,ah,xid,dtime,path,data,owner,ver,cver,tmo,err,cfg,mem⟩ z time) S A6
    rw [kX k3];refine dF.of (O':=O) ⟨_,_,_,_,_,?_,hT6⟩ ((Kept.more s2).trans (hK3.trans (hK4.trans (hK5.trans hK6)))) (fk _ _) fun j o hj=>(bL hj).imp id fun h=>(bN h.2).1
    rw [qd,if_neg hf,hfk,Int.toNat_natCast,List.map_set,hl]
    have e2:N[k]? =some ⟨xp,xd,⟨q1,q2,q3,q4,q5,q6,q7,q8,q9,q10⟩⟩:=by
     rw [←hl,List.getElem?_map,List.getElem?_eq_getElem hkl,←hx];rfl
    rw [e2];rfl
   conv=>lhs;whnf
   exact(hD _).2 hend
  ·obtain⟨g7,o7,e⟩:=e
   subst e;refine(hD _).2 fun gb A1 hNw=> ?_
   have hNw:A.New A1 gb #[] 5:=hNw;have htop1:=aJ hNw.sub htop;conv=>lhs;whnf
   repeat(first|refine au hD rfl ?_|refine af htop1 ?_|refine aq i0 ?_
          conv=>lhs;whnf)
   refine(hD _).2 ⟨[],data.map bv,rfl,?_,hdl,fun v hv=>(by
    obtain⟨b,_,rfl⟩:=List.mem_map.1 hv
    rfl),by show 0+data.length≤9223372036854775807;omega,fun h0=>(by
    rw [ft h0];show data.length*1≤_
    omega),rfl,fun h=>(by cases h),fun _ _ _ h1 h2=>absurd (by
    have:data.length=0:=by omega
    rw [List.length_eq_zero_iff.1 this];rfl) h2,fun v A2 hA=> ?_⟩
   ·show(if data.length=0 then some []else A1.rd g7 o7 (data.length*1))=_
    by_cases h0:data.length=0
    ·rw [if_pos h0,List.length_eq_zero_iff.1 h0];rfl
    ·rw [if_neg h0];exact aJ hNw.sub (hz3 (by omega) _ rfl)
   obtain⟨s2,hS2⟩:=er hNw.sub hA hdl;obtain⟨ax,cx,hvx⟩:=hS2.form;subst hvx;have h2:=h.more s2;have htop2:=aJ s2 htop;have hroom:A2.Room gn (0+k*12+1) 1:=h2.room hkl (i:=1) (by omega) rfl
   have hBs:(B.plus (A2.minus A)).Sub A2:=fun j o hj=>by
    rcases bL hj with hh|hh
    ·exact s2 j o (h.sub j o hh)
    ·exact(bN hh.2).2
   have hoff:∀j,O j→(B.plus (A2.minus A)).blk j=none:=fun j hj=>by
    cases hb:(B.plus (A2.minus A)).blk j with
    |none=>rfl
    |some o=>
     rcases bL hb with hh|hh
     ·rw [h.off j hj]at hh;cases hh
     ·obtain⟨o',ho'⟩:=h.live j hj
      rw [cG _ ho']at hh;cases hh.2
   conv=>lhs;whnf
   repeat(first|refine au hD rfl ?_|refine af htop2 ?_|refine aq i0 ?_
          conv=>lhs;whnf)
   refine(hD _).2 ⟨hroom,fun A3 hP3=> ?_⟩;have hP3:A2.Put A3 gn (0+k*12+1) [.slice ax data.length cx]:=hP3;obtain⟨hT3,hK3⟩:=h2.AZ (B':=B.plus (A2.minus A)) (fk _ _) hBs hoff hkl (i:=1) (by omega) (w:= .slice ax data.length cx) (x':=(⟨xp,data,⟨q1,q2,q3,q4,q5,q6,q7,q8,q9,q10⟩⟩,.slice ax data.length cx)) (by rw [←hx];rfl) ⟨hS2.sub (oY (gO h.sub)),hdn⟩ hP3;have htop3:A3.rd r 0 1=some [.slice (some ⟨gn,0,none⟩) l.length c]:=hT3.top.rd (o:=0) (n:=1) (by show 0+1≤2;omega);have hk3:k<(l.set k ((⟨xp,data,⟨q1,q2,q3,q4,q5,q6,q7,q8,q9,q10⟩⟩:aC),Value.slice ax data.length cx)).length:=by rw [List.length_set];exact hkl
   have hroom3:A3.Room gn (0+k*12+2+1) 1:=hT3.room hk3 (i:=3) (by omega) rfl;conv=>lhs;whnf
   repeat(first|refine au hD rfl ?_|refine af htop3 ?_|refine aq i0 ?_
          conv=>lhs;whnf)
   refine(hD _).2 ⟨hroom3,fun A4 hP4=> ?_⟩;have hP4:A3.Put A4 gn (0+k*12+3) [.int .i64 z]:=hP4;obtain⟨hT4,hK4⟩:=hT3.ah hk3 (i:=3) (by omega) (w:= .int .i64 z) (x':=(⟨xp,data,⟨q1,z,q3,q4,q5,q6,q7,q8,q9,q10⟩⟩,.slice ax data.length cx)) (by rw [List.getElem_set_self];rfl) (by rw [List.getElem_set_self]) (by rw [List.getElem_set_self]) hP4;have htop4:A4.rd r 0 1=some [.slice (some ⟨gn,0,none⟩) l.length c]:=hT4.top.rd (o:=0) (n:=1) (by show 0+1≤2;omega);rw [List.set_set]at hT4;have hk4:k<(l.set k ((⟨xp,data,⟨q1,z,q3,q4,q5,q6,q7,q8,q9,q10⟩⟩:aC),Value.slice ax data.length cx)).length:=by rw [List.length_set];exact hkl
   have hroom4:A4.Room gn (0+k*12+2+4) 1:=hT4.room hk4 (i:=6) (by omega) rfl;conv=>lhs;whnf
   repeat(first|refine au hD rfl ?_|refine af htop4 ?_|refine aq i0 ?_
          conv=>lhs;whnf)
   refine(hD _).2 ⟨hroom4,fun A5 hP5=> ?_⟩;have hP5:A4.Put A5 gn (0+k*12+6) [.int .i64 time]:=hP5;obtain⟨hT5,hK5⟩:=hT4.ah hk4 (i:=6) (by omega) (w:= .int .i64 time) (x':=(⟨xp,data,⟨q1,z,q3,q4,time,q6,q7,q8,q9,q10⟩⟩,.slice ax data.length cx)) (by rw [List.getElem_set_self];rfl) (by rw [List.getElem_set_self]) (by rw [List.getElem_set_self]) hP5;have htop5:A5.rd r 0 1=some [.slice (some ⟨gn,0,none⟩) l.length c]:=hT5.top.rd (o:=0) (n:=1) (by show 0+1≤2;omega);rw [List.set_set]at hT5;have hk5:k<(l.set k ((⟨xp,data,⟨q1,z,q3,q4,time,q6,q7,q8,q9,q10⟩⟩:aC),Value.slice ax data.length cx)).length:=by rw [List.length_set];exact hkl
   have hroom5:A5.Room gn (0+k*12+2+5) 1:=hT5.room hk5 (i:=7) (by omega) rfl;conv=>lhs;whnf
   repeat(first|refine au hD rfl ?_|refine af htop5 ?_|refine aq i0 ?_
          conv=>lhs;whnf)
   refine(hD _).2 ⟨hroom5,fun A6 hP6=> ?_⟩;have hP6:A5.Put A6 gn (0+k*12+7) [.int .i64 ver]:=hP6;obtain⟨hT6,hK6⟩:=hT5.ah hk5 (i:=7) (by omega) (w:= .int .i64 ver) (x':=(⟨xp,data,⟨q1,z,q3,q4,time,ver,q7,q8,q9,q10⟩⟩,.slice ax data.length cx)) (by rw [List.getElem_set_self];rfl) (by rw [List.getElem_set_self]) (by rw [List.getElem_set_self]) hP6;rw [List.set_set]at hT6
   have hend:eH.post (⟨N,S,B,O,r⟩,.mk ⟨zxid,kind,ses,ah,xid,dtime,path,data,owner,ver,cver,tmo,err,cfg,mem⟩ parts,C,z,time) [] A (.tuple #[]) A6:=by
    show dF A B O r (bF N ⟨zxid,kind,ses,ah,xid,dtime,path,data,owner,ver,cver,tmo,err,cfg,mem⟩ z time) S A6
    rw [kX k3];refine dF.of (O':=O) ⟨_,_,_,_,_,?_,hT6⟩ ((Kept.more s2).trans (hK3.trans (hK4.trans (hK5.trans hK6)))) (fk _ _) fun j o hj=>(bL hj).imp id fun h=>(bN h.2).1
    rw [qd,if_neg hf,hfk,Int.toNat_natCast,List.map_set,hl]
    have e2:N[k]? =some ⟨xp,xd,⟨q1,q2,q3,q4,q5,q6,q7,q8,q9,q10⟩⟩:=by
     rw [←hl,List.getElem?_map,List.getElem?_eq_getElem hkl,←hx];rfl
    rw [e2];rfl
   conv=>lhs;whnf
   exact(hD _).2 hend
 ·have hend:eH.post (⟨N,S,B,O,r⟩,.mk ⟨zxid,kind,ses,ah,xid,dtime,path,data,owner,ver,cver,tmo,err,cfg,mem⟩ parts,C,z,time) [] A (.tuple #[]) A:=by
    show dF A B O r (bF N ⟨zxid,kind,ses,ah,xid,dtime,path,data,owner,ver,cver,tmo,err,cfg,mem⟩ z time) S A
    rw [xK k1 k2 k3];exact dF.of hRef (Kept.refl _ _) (aa.Sub.refl _) fun k o hk=> .inl hk
  exact(hD _).2 hend
theorem fB.aK{A B A2 A3:aa}{O:Nat→Prop}{r:Nat}{l:List (aC×Value)}{S:List bb}{vn vs:Value}{gn gs:Nat}(h:fB A B O r l S vn vs gn gs){S':List bb}{v:Value}(hA2:A.Sub A2)(hG:bq A A2 3 83 S'.length v (S'.flatMap br))(hP:A2.Put A3 r 1 [v]):
  ∃O',bC A3 B O' r (l.map (·.1)) S'∧Kept A O A3 O':=by
 obtain⟨g,hR,hg,_⟩:=fA.grown hG 0;obtain⟨orr,hor⟩:=h.live r h.own.1;have hBr:B.blk r=none:=h.off r h.own.1
 have hgr:0<S'.length→g≠r:=fun hn e=>by
  have:=hg hn;rw [e,hor]at this;cases this
 have hgn:0<l.length→0<S'.length→gn≠g:=fun hn hs e=>by
  obtain⟨o,ho⟩:=h.live gn (h.own.2.1 hn);have:=hg hs;rw [←e,ho]at this;cases this
 refine⟨fun k=>O k∨(0<S'.length∧k=g),⟨l,vn,v,gn,g,rfl,?_⟩,fun k o hk hO=> ?_,fun k hk=> ?_,fun k hk=> ?_⟩
 ·refine⟨?_,h.nrow.bk fun hn=> ?_,hR.bk fun hn=>hP.other g (hgr hn),h.data,fun k o hk=> ?_,⟨.inl h.own.1,fun hn=> .inl (h.own.2.1 hn),fun hs=> .inr ⟨hs,rfl⟩⟩,fun k hk=> ?_,fun k hk=> ?_,h.ne.1,hgr,hgn⟩
  ·have:=(h.top.sub fun o ho=>hA2 _ _ ho).put hP (by show 1+1≤2;omega)
   exact this
  ·obtain⟨o,ho⟩:=h.live gn (h.own.2.1 hn)
   rw [hP.other gn (h.ne.1 hn),hA2 _ _ ho,ho]
  ·rw [hP.other k fun e=>by rw [e,hBr]at hk;cases hk]
   exact hA2 k o (h.sub k o hk)
  ·rcases hk with hk|⟨hn,rfl⟩
   ·exact h.off k hk
   ·cases hb:B.blk k with
    |none=>rfl
    |some o=>
     have h1:=h.sub _ _ hb;rw [hg hn]at h1;cases h1
  ·by_cases e:k=r
   ·obtain⟨c0,t0,fz0,c1,k1,k2,_⟩:=hP.at_
    rw [e];exact⟨_,k2⟩
   ·rw [hP.other k e]
    rcases hk with hk|⟨hn,rfl⟩
    ·obtain⟨o,ho⟩:=h.live k hk
     exact⟨o,hA2 _ _ ho⟩
    ·obtain⟨_,ao,c,_,_,_,_,h6⟩:=hR
     obtain⟨_,cc,h8,_⟩:=h6 hn;exact⟨_,h8⟩
 ·rw [hP.other k fun e=>hO (e▸h.own.1)]
  exact hA2 k o hk
 ·have h2:=(hP.dom k).1 hk
  cases hb:A.blk k with
  |none=>rfl
  |some o=>rw [hA2 k o hb]at h2;cases h2
 ·rcases hk with hk|⟨hn,rfl⟩
  ·exact .inl hk
  ·exact .inr (hg hn)
def jF(s:Int)(x:bb):Bool:= !decide (x.ses=s)
def gL(S:List bb)(s:Int):List bb:=S.filter (jF s)
theorem wD{α:Type}(f:α→Bool)(l:List α)(k:Nat)(hk:k<l.length):(l.take (k+1)).filter f=(l.take k).filter f++if f l[k]=true then [l[k]]else []:=by
 rw [List.take_succ_eq_append_getElem hk,List.filter_append];congr 1
 by_cases h:f l[k]=true
 ·rw [if_pos h];simp [h]
 ·rw [if_neg h];simp [h]
structure RiG where
 k:Nat
 A:aa
 v:Value
def vz(A0:aa)(S:List bb)(s:Int):dE:=
 { γ:=RiG,G:=fun g=>g.k≤S.length∧A0.Sub g.A∧bq A0 g.A 3 83 ((S.take g.k).filter (jF s)).length g.v (((S.take g.k).filter (jF s)).flatMap br),
   keepS:= [0,1],keepB:= [],sl:=fun g=> [(5,.v (.int .i64 g.k)),(4,.v g.v)],bl:=fun _=> [],ar:=fun g=>g.A,mu:=fun g=>S.length-g.k }
def Bv:aL:=⟨RG×Int,fun g vs A=>vs= [.pointer (some ⟨g.1.r,0,none⟩),.int .i64 g.2]∧bC A g.1.B g.1.O g.1.r g.1.N g.1.S∧g.1.S.length≤1000000,
 fun g _ A _ A'=>∃O',bC A' g.1.B O' g.1.r g.1.N (gL g.1.S g.2)∧Kept A g.1.O A' O'⟩
theorem Bu:FOk Tryz.prog 33 Bv:=by
 refine aS mixed fun⟨⟨N,S,B,O,r⟩,s⟩ vs A hp=> ?_
 obtain⟨rfl,⟨l,vn,vs',gn,gs,rfl,h⟩,hN⟩:vs= [.pointer (some ⟨r,0,none⟩),.int .i64 s]∧bC A B O r N S∧S.length≤1000000:=hp;refine⟨noC,da Tryz.prog noC noL 60 [(33,0)],60,aj _,aH mixed (aj _) (ak _) _ _,fun blk os out tape D hD=> ?_⟩;obtain⟨_,ao,c,hvn,hc,hz1,hz2,hz3⟩:=h.srow;subst hvn;have htop:A.rd r 1 1=some [.slice ao S.length c]:=h.top.rd (o:=1) (n:=1) (by show 1+1≤2;omega);conv=>lhs;whnf
 refine(hD _).2 ⟨vz A S s,⟨(⟨0,A,.slice none 0 0⟩:RiG),⟨Nat.zero_le _,aa.Sub.refl _,bq.nil _ _ _ _⟩,⟨rfl,rfl,trivial⟩,trivial,rfl⟩,fun(sg:RiG) hG=>⟨⟨trivial,trivial,trivial⟩,trivial,?_⟩⟩;obtain⟨k,As,v0⟩:=sg;obtain⟨hk,hAs,hGs⟩:k≤S.length∧A.Sub As∧bq A As 3 83 ((S.take k).filter (jF s)).length v0 (((S.take k).filter (jF s)).flatMap br):=hG;have htop9:=aJ hAs htop;conv=>lhs;whnf
 repeat(refine af htop9 ?_
        conv=>lhs;whnf)
 refine ab (fun hlt=> ?_) (fun hlt=> ?_)
 ·have hkl:k<S.length:=by
    have hlt:(k:Int)<(S.length:Int):=hlt;omega
  obtain⟨e,cc,h8,h9,h10⟩:=hz3 (by omega);subst e;have hra:A.rd gs 0 (S.length*3)=some (S.flatMap br):=by rw [rd_mk h8 (by omega),List.drop_zero,h10]
  have hrow:=aJ hAs (fQ (enc:=br) (fun _=>rfl) hra k hkl rfl);have i0:(0:Int)≤(k:Int)∧(k:Int)<(S.length:Int):=by omega
  have hsn:=wD (jF s) S k hkl;obtain⟨⟨q1,q2,q3⟩,hx⟩:∃x,x=S[k]:=⟨_,rfl⟩;rw [←hx]at hrow hsn;have hrow:As.rd gs (0+k*3) 3=some [.int .i64 q1,.int .i64 q2,.int .i64 q3]:=hrow;have r1:As.rd gs (0+k*3) 1=some [.int .i64 q1]:=cU hrow (i:=0) (m:=1) (by omega);conv=>lhs;whnf
  repeat(first|refine aq i0 ?_|refine af htop9 ?_|refine af r1 ?_
         conv=>lhs;whnf)
  refine cL (fun he=> ?_) (fun he=> ?_)
  ·have hno:jF s ⟨q1,q2,q3⟩=false:=by
     unfold jF;rw [decide_eq_true he];rfl
   have hnext:(vz A S s).G (⟨k+1,As,v0⟩:RiG):=⟨by show k+1≤S.length;omega,hAs,by
    show bq A As 3 83 ((S.take (k+1)).filter (jF s)).length v0 (((S.take (k+1)).filter (jF s)).flatMap br)
    rw [hsn,if_neg (by rw [hno];simp),List.append_nil];exact hGs⟩
   conv=>lhs;whnf
   exact(hD _).2 ⟨(⟨k+1,As,v0⟩:RiG),⟨hnext,⟨av (k:=k) (by omega),rfl,trivial⟩,trivial,rfl⟩,by show S.length-(k+1)<S.length-k;omega,⟨an rfl rfl,an rfl rfl,trivial⟩,trivial⟩
  have hyes:jF s ⟨q1,q2,q3⟩=true:=by
   unfold jF;rw [decide_eq_false he];rfl
  rw [if_pos hyes]at hsn
  have hlen3:((S.take k).filter (jF s)).length≤k:=by
   have:=List.length_filter_le (jF s) (S.take k);rw [List.length_take]at this;omega
  conv=>lhs;whnf
  repeat(first|refine aq i0 ?_|refine af htop9 ?_|refine af hrow ?_|refine au hD rfl ?_
         conv=>lhs;whnf)
  refine(hD _).2 fun gb A7 hN=> ?_
  have hN:As.New A7 gb #[.int .i64 q1,.int .i64 q2,.int .i64 q3] 83:=hN;have hG7:=hGs.sub hN.sub;have hAs7:=hAs.trans hN.sub
  have hd7:∀j,A7.blk j=none→A.blk j=none:=fun j hj=>by
   cases h9:A.blk j with
   |none=>rfl
   |some o=>rw [hAs7 _ _ h9]at hj;cases hj
  obtain⟨base,cp9,hv0,hbase,hP,hA⟩:=hG7.form;subst hv0;have hP:=hP 24 (by omega) (by omega);have hrow9:A7.rd gb 0 (1*3)=some [.int .i64 q1,.int .i64 q2,.int .i64 q3]:=hN.rd (o:=0) (n:=1*3) (by show 0+1*3≤3;omega);refine Or.elim hbase (fun hb=> ?_) (fun hb=> ?_);rotate_left;obtain⟨g0,hb⟩:=hb
  all_goals
   subst hb;conv=>lhs;whnf
   refine(hD _).2 ⟨((S.take k).filter (jF s)).flatMap br, [.int .i64 q1,.int .i64 q2,.int .i64 q3],hP.rd,?_,rfl,?_,?_,hP.cap,rfl,hP.none_,fun g' o' he' hle' _=>hP.room 3 rfl g' o' he' hle',fun v A6 hAp=> ?_⟩
   ·show(if 1*3=0 then some []else A7.rd gb 0 (1*3))=_
    rw [if_neg (by omega)];exact hrow9
   ·intro v hv
    simp only [List.mem_cons,List.not_mem_nil,or_false]at hv;rcases hv with rfl|rfl|rfl<;>rfl
   ·show((S.take k).filter (jF s)).length+1≤9223372036854775807
    omega
   ·obtain⟨hG6,hk6⟩:=hA _ _ _ rfl hd7 hAp
    have hA6:A.Sub A6:=fun j o hj=>by rw [hk6 j o hj];exact hAs7 _ _ hj
    have hg6:(vz A S s).G (⟨k+1,A6,v⟩:RiG):=⟨by show k+1≤S.length;omega,hA6,by
     show bq A A6 3 83 ((S.take (k+1)).filter (jF s)).length v (((S.take (k+1)).filter (jF s)).flatMap br)
     rw [hsn,List.length_append,List.flatMap_append];exact hG6⟩
    conv=>lhs;whnf
    exact(hD _).2 ⟨(⟨k+1,A6,v⟩:RiG),⟨hg6,⟨av (k:=k) (by omega),rfl,trivial⟩,trivial,rfl⟩,by show S.length-(k+1)<S.length-k;omega,⟨an rfl rfl,an rfl rfl,trivial⟩,trivial⟩
 ·have e:k=S.length:=by
    have hlt:¬(k:Int)<(S.length:Int):=hlt;omega
  rw [e,List.take_length]at hGs;obtain⟨b0,c0,hv0, -, -⟩:=hGs.ff;subst hv0;have hT9:aG As r [vn,.slice ao S.length c]:=h.top.sub fun o ho=>hAs _ _ ho
  conv=>lhs;whnf
  refine(hD _).2 ⟨hT9.room (o:=1) (n:=1) (by show 1+1≤2;omega),fun A4 hP=> ?_⟩;have hP:As.Put A4 r 1 [.slice (aD b0) (S.filter (jF s)).length c0]:=hP
  have hend:Bv.post (⟨l.map (·.1),S,B,O,r⟩,s) [] A (.tuple #[]) A4:=by
   show ∃O',bC A4 B O' r (l.map (·.1)) (gL S s)∧Kept A O A4 O'
   exact h.aK hAs hGs hP
  conv=>lhs;whnf
  exact(hD _).2 hend
end
end Go.Proofs.YtphigpccfbfnoaaGreatDoor
