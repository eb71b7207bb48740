/-
  Parts of the proof: RkH RkN AwA EqA
-/
import Derived.Test.YtphigpccfbfnoaaGreatDoorG38
import Derived.Test.YtphigpccfbfnoaaGreatDoorG41
import Derived.Test.YtphigpccfbfnoaaGreatDoorG15
import Derived.Test.YtphigpccfbfnoaaGreatDoorG19
import Derived.Laws.BytesArg
set_option maxRecDepth 100000
set_option maxHeartbeats 0
namespace Go.Proofs.YtphigpccfbfnoaaGreatDoor
open Go.Sx Go.RowKit
noncomputable section
open Classical
theorem ry(N:List aC)(p:ByteArray)(z cv:Int):(fj N p z cv).length=N.length:=by
 have h:=congrArg List.length (pq (N:=N) (p:=aR p) (f:=Fy z cv) fun _=>rfl);rw [List.length_map,List.length_map]at h;exact h
theorem CB(N:List aC)(h:bJ)(z time:Int):(qd N h z time).length=N.length:=by
 have h:=congrArg List.length (pq (N:=N) (p:=h.path) (f:=setX h z time) fun _=>rfl);rw [List.length_map,List.length_map]at h;exact h
theorem qe(N:List aC)(h:bJ)(z time:Int):(bF N h z time).length≤N.length+1:=by
 unfold bF
 split
 ·rw [ry];exact nO _ _
 ·split
  ·rw [ry]
   have:=mi N h.path;omega
  ·split
   ·rw [CB];omega
   ·omega
theorem ru(z time:Int):∀(ps:List aB) (N:List aC),(gI N ps z time).length≤N.length+ps.length
 | [],_=>Nat.le_refl _
 |p::ps,N=>by
  have h1:=ru z time ps (bF N p.h z time);have h2:=qe N p.h z time;show(gI (bF N p.h z time) ps z time).length≤_
  simp only [List.length_cons];omega
theorem CA(S:List bb)(x:bb):(jv S x).length≤S.length+1:=by
 unfold jv;have:=oV S x.ses;rw [List.length_append,List.length_cons,List.length_take,List.length_drop];omega
theorem oT(S:List bb)(d:aB):(kR S d).length≤S.length+1:=by
 unfold kR
 split
 ·exact CA _ _
 ·split
  ·have:=oV S d.h.owner
   omega
  ·omega
theorem xE{d:aB}(hr:cJ d):d.parts.length≤500:=by
 by_cases h5:d.h.kind=5
 ·have:=(hr.2.2.2.2.2.2.2.1 h5).2.1
  omega
 ·by_cases h8:d.h.kind=8
  ·have:=(hr.2.2.2.2.2.2.2.2.2 h8).2.1
   omega
  ·have hk9:=hr.2.2.2.2.2.2.1.1
   rw [rX hr (by omega)];simp
theorem fB.Es{A A' B:aa}{O:Nat→Prop}{r:Nat}{l:List (aC×Value)}{S:List bb}{vn vs:Value}{gn gs:Nat}(h:fB A B O r l S vn vs gn gs){k i:Nat}(hk:k<S.length)(hi:i<3){w:Value}{x':bb}(hx:br x'=(br S[k]).set i w)(hP:A.Put A' gs (0+k*3+i) [w]):
  fB A' B O r l (S.set k x') vn vs gn gs∧Kept A O A' O:=by
 have hpos:0<S.length:=by omega
 have hgs:=h.own.2.2 hpos;have hoth:=hP.other;have hlen:0<(S.set k x').length↔0<S.length:=by rw [List.length_set]
 refine⟨⟨h.top.sub fun o ho=>by rw [hoth r (Ne.symm (h.ne.2.1 hpos))];exact ho,h.nrow.bk fun hn=>hoth gn (h.ne.2.2 hn hpos),fA.ah (enc:=br) (fun _=>rfl) h.srow hk hi hx hP,h.data,fun j o hj=> ?_,⟨h.own.1,h.own.2.1,fun _=>hgs⟩,h.off,fun j hj=> ?_,⟨h.ne.1,fun _=>h.ne.2.1 hpos,fun hn _=>h.ne.2.2 hn hpos⟩⟩,fun j o hj hO=> ?_,fun j hj=>(hP.dom j).1 hj,fun j hj=> .inl hj⟩
 ·rw [hoth j fun e=>by rw [e,h.off gs hgs]at hj;cases hj]
  exact h.sub j o hj
 ·by_cases e:j=gs
  ·obtain⟨c0,t0,fz0,c1,k1,k2,_⟩:=hP.at_
   rw [e];exact⟨_,k2⟩
  ·rw [hoth j e];exact h.live j hj
 ·rw [hoth j fun e=>hO (e▸hgs)]
  exact hj
theorem lP{α:Type}(f:α→α)(S:List α)(j:Nat):((S.take j).map f++S.drop j).length=S.length:=by
 rw [List.length_append,List.length_map,List.length_take,List.length_drop];omega
theorem ra{α:Type}(f:α→α){S:List α}{j:Nat}(hj:j<S.length):((S.take j).map f++S.drop j)[j]'(by rw [lP];exact hj)=S[j]:=by
 rw [List.getElem_append_right (by rw [List.length_map,List.length_take];omega)];simp only [List.length_map,List.length_take,List.getElem_drop];congr 1;omega
theorem oJ{α:Type}(f:α→α){S:List α}{j:Nat}(hj:j<S.length):((S.take j).map f++S.drop j).set j (f S[j])=(S.take (j+1)).map f++S.drop (j+1):=by
 have hl:((S.take j).map f).length=j:=by rw [List.length_map,List.length_take];omega
 rw [List.set_append_right _ _ (by omega),hl,Nat.sub_self,List.drop_eq_getElem_cons hj,List.set_cons_zero,List.take_succ_eq_append_getElem hj,List.map_append,List.append_assoc];rfl
structure RaT where
 k:Nat
 A:aa
 B:aa
 O:Nat→Prop
 N:List aC
def rapInv(A B:aa)(O:Nat→Prop)(r:Nat)(N0:List aC)(S:List bb)(parts:List aB)(z time:Int):dE:=
 { γ:=RaT,G:=fun g=>g.k≤parts.length∧bC g.A g.B g.O r g.N S∧Step A B O g.A g.B g.O∧g.N=gI N0 (parts.take g.k) z time,
   keepS:= [0,3],keepB:= [0],sl:=fun g=> [(4,.v (.int .i64 g.k))],bl:=fun _=> [],ar:=fun g=>g.A,mu:=fun g=>parts.length-g.k }
structure RaS where
 k:Nat
 A:aa
def oR(A1 B:aa)(O:Nat→Prop)(r:Nat)(l:List (aC×Value))(S:List bb)(vn vs:Value)(gn gs:Nat)(f:bb→bb):dE:=
 { γ:=RaS,G:=fun g=>g.k≤S.length∧fB g.A B O r l ((S.take g.k).map f++S.drop g.k) vn vs gn gs∧Kept A1 O g.A O,
   keepS:= [0,3],keepB:= [0],sl:=fun g=> [(5,.v (.int .i64 g.k))],bl:=fun _=> [],ar:=fun g=>g.A,mu:=fun g=>S.length-g.k }
def jB:aL:=⟨RG×aB×aa,fun g vs A=>∃cs,vs= [.pointer (some ⟨g.1.r,0,none⟩),bx cs]∧bC A g.1.B g.1.O g.1.r g.1.N g.1.S∧g.1.N.length≤800000∧g.1.S.length≤800000∧bj g.2.2 g.2.1 cs∧Aside A g.2.2 g.1.O,
 fun g _ A _ A'=>dF A g.1.B g.1.O g.1.r (dN g.1.N g.2.1) (dM g.1.S g.2.1) A'⟩
theorem zH:FOk Tryz.prog 9 jB:=by
 refine aS mixed fun⟨⟨N,S,B,O,r⟩,d,C⟩ vs A hp=> ?_
 obtain⟨cs,rfl,hRef,hN,hSl,hR,hC⟩:∃cs,vs= [.pointer (some ⟨r,0,none⟩),bx cs]∧bC A B O r N S∧N.length≤800000∧S.length≤800000∧bj C d cs∧Aside A C O:=hp
 have hCt:aF Tryz.prog (bu [aE 30 Bt,aE 31 eH,aE 32 zy,aE 33 Bv] noC):=az (aj _) (fun x hx=>by
  simp only [List.mem_cons,List.not_mem_nil,or_false]at hx;rcases hx with rfl|rfl|rfl|rfl
  ·exact ai CC
  ·exact ai zG
  ·exact ai EH
  ·exact ai Bu)
 obtain⟨⟨zxid,kind,ses,ah,xid,dtime,path,data,owner,ver,cver,tmo,err,cfg,mem⟩,parts⟩:=d;obtain⟨dd,hdd⟩:∃dd:aB,dd=(.mk ⟨zxid,kind,ses,ah,xid,dtime,path,data,owner,ver,cver,tmo,err,cfg,mem⟩ parts:aB):=⟨_,rfl⟩;have hR0:=hR;rw [bj]at hR;dsimp only [bJ.cells]at hR;obtain⟨vd,vm,vp,rows,rfl, -,hd,hM,hS,hlen,hRows⟩:=hR;obtain⟨a7,k7,rfl⟩:=hd.1.form;obtain⟨a14,k14,rfl⟩:=hM.1.form;obtain⟨a15,k15,rfl⟩:=hS.form;refine⟨_,da Tryz.prog _ noL 60 [(9,0),(9,2)],60,hCt,aH mixed hCt (ak _) _ _,fun blk os out tape D hD=> ?_⟩;conv=>lhs;whnf
 refine(hD _).2 ⟨_,⟨_,rfl,bj.sub hC.1 _ _ hR0⟩,fun v A1 hq=> ?_⟩;have hq:A.Sub A1∧v= .bool (decide (cJ (.mk ⟨zxid,kind,ses,ah,xid,dtime,path,data,owner,ver,cver,tmo,err,cfg,mem⟩ parts))):=hq;obtain⟨s1,hv⟩:=hq;rw [←hdd]at hv
 by_cases hr:cJ dd
 rotate_left
 ·have hv:v= .bool false:=by rw [hv,decide_eq_false hr]
  subst hv
  have hend:jB.post (⟨N,S,B,O,r⟩,.mk ⟨zxid,kind,ses,ah,xid,dtime,path,data,owner,ver,cver,tmo,err,cfg,mem⟩ parts,C) [] A (.tuple #[]) A1:=by
   show dF A B O r (dN N _) (dM S _) A1
   rw [←hdd,dN,if_neg hr,dM,if_neg hr];exact dF.of (hRef.more s1) (Kept.more s1) (aa.Sub.refl _) fun k o hk=> .inl hk
  conv=>lhs;whnf
  exact(hD _).2 hend
 have hv:v= .bool true:=by rw [hv,decide_eq_true hr]
 subst hv;have hpl:=xE hr;have hSt1:Step A B O A1 B O:=⟨(Kept.more (O:=O) s1).bk,(Kept.more (O:=O) s1).dom,(Kept.more (O:=O) s1).own,aa.Sub.refl _,fun _ _ h=> .inl h⟩;have hC1:Aside A1 C O:=hC.step hSt1;have hN1:dd.h=⟨zxid,kind,ses,ah,xid,dtime,path,data,owner,ver,cver,tmo,err,cfg,mem⟩:=by rw [hdd];rfl
 have hN2:dd.parts=parts:=by rw [hdd];rfl
 rw [hN2]at hpl;conv=>lhs;whnf
 refine(hD _).2 ⟨(⟨N,S,B,O,r⟩,.mk ⟨zxid,kind,ses,ah,xid,dtime,path,data,owner,ver,cver,tmo,err,cfg,mem⟩ parts,C,zxid,dtime),⟨_,rfl,hRef.more s1,by show N.length≤900000;omega,hR0,hC1⟩,fun v A2 hq=> ?_⟩;have hq:dF A1 B O r (bF N ⟨zxid,kind,ses,ah,xid,dtime,path,data,owner,ver,cver,tmo,err,cfg,mem⟩ zxid dtime) S A2:=hq;obtain⟨B2,O2,hR2,hSt2⟩:=hq;have hcl:=qe N ⟨zxid,kind,ses,ah,xid,dtime,path,data,owner,ver,cver,tmo,err,cfg,mem⟩ zxid dtime;have hSt12:=hSt1.trans hSt2;conv=>lhs;whnf
 obtain⟨N0,hN0⟩:∃N0,N0=bF N ⟨zxid,kind,ses,ah,xid,dtime,path,data,owner,ver,cver,tmo,err,cfg,mem⟩ zxid dtime:=⟨_,rfl⟩;rw [←hN0]at hR2 hcl;refine(hD _).2 ⟨rapInv A B O r N0 S parts zxid dtime,⟨(⟨0,A2,B2,O2,N0⟩:RaT),⟨Nat.zero_le _,hR2,hSt12,by rw [List.take_zero];rfl⟩,⟨rfl,trivial⟩,trivial,rfl⟩,fun(sg:RaT) hG=>⟨⟨trivial,trivial⟩,trivial,?_⟩⟩;obtain⟨k,Ak,Bk,Ok,Nk⟩:=sg;obtain⟨hk,hRk,hSk,hNk⟩:k≤parts.length∧bC Ak Bk Ok r Nk S∧Step A B O Ak Bk Ok∧Nk=gI N0 (parts.take k) zxid dtime:=hG;have hCk:=hC.step hSk;have hNkl:=ru zxid dtime (parts.take k) N0;rw [←hNk,List.length_take]at hNkl;conv=>lhs;whnf
 refine ab (fun hlt=> ?_) (fun hlt=> ?_)
 ·have hlt:(k:Int)<parts.length:=hlt
  have hkn:k<parts.length:=by omega
  obtain⟨ao15,c15,he15,hc15,hl15,hb1,hb2,hb3⟩:=hS;injection he15 with he1 he2 he3
  subst he1 he3;obtain⟨pg,po,rfl,hra⟩:=Sl.at_ hc15 hb1 hb2 hb3 (by omega);obtain⟨pcs,hpcs,hpd⟩:=fD hra hRows k hkn rfl
  have hnext:gI N0 (parts.take (k+1)) zxid dtime=bF Nk parts[k].h zxid dtime:=by
   rw [List.take_succ_eq_append_getElem hkn,gI,List.foldl_append,hNk];rfl
  generalize parts[k]=p at hpd hnext;obtain⟨pa7,pl7,pk7,pa14,pl14,pk14,pa15,pl15,pk15,rfl⟩:=hpd.form;have i0:(0:Int)≤(k:Int)∧(k:Int)<(parts.length:Int):=by omega
  have hpr:=aJ hCk.1 hpcs;conv=>lhs;whnf
  repeat(first|refine aq i0 ?_|refine af hpr ?_|refine au hD rfl ?_
         conv=>lhs;whnf)
  refine(hD _).2 ⟨(⟨Nk,S,Bk,Ok,r⟩,p,C,zxid,dtime),⟨_,rfl,hRk,by show Nk.length≤900000;omega,hpd,hCk⟩,fun v A9 hq=> ?_⟩;have hq:dF Ak Bk Ok r (bF Nk p.h zxid dtime) S A9:=hq;obtain⟨B9,O9,hR9,hS9⟩:=hq;conv=>lhs;whnf
  exact(hD _).2 ⟨(⟨k+1,A9,B9,O9,_⟩:RaT),⟨⟨by show k+1≤parts.length;omega,hR9,hSk.trans hS9,hnext.symm⟩,⟨av (k:=k) (by omega),trivial⟩,trivial,rfl⟩,by show parts.length-(k+1)<parts.length-k;omega,⟨an rfl rfl,an rfl rfl,trivial⟩,⟨an rfl rfl,trivial⟩⟩
 have hkn:k=parts.length:=by
  have hlt:¬(k:Int)<parts.length:=hlt;omega
 have hNe:Nk=gI N0 parts zxid dtime:=by rw [hNk,hkn,List.take_length]
 have hsd:kR S dd=if kind=4 then jv S ⟨zxid,tmo,ah⟩else if kind=5 then gL S owner else S:=by
  unfold kR;rw [hN1]
 have hstep:∀ {X:aa} {O':Nat→Prop},Kept Ak Ok X O'→Step A B O X Bk O':=fun hK=>hSk.trans ⟨hK.bk,hK.dom,hK.own,aa.Sub.refl _,fun _ _ h=> .inl h⟩
 clear hNk hNkl
 by_cases h4:kind=4
 ·have h5:¬kind=5:=by omega
  rw [if_pos h4]at hsd;conv=>lhs;whnf
  refine bP h4 ?_;conv=>lhs;whnf
  refine(hD _).2 ⟨(⟨Nk,S,Bk,Ok,r⟩,⟨zxid,tmo,ah⟩),⟨rfl,hRk,by show S.length≤1000000;omega⟩,fun v Am hq=> ?_⟩;have hq:∃O',bC Am Bk O' r Nk (jv S ⟨zxid,tmo,ah⟩)∧Kept Ak Ok Am O':=hq;obtain⟨Om,hRm,hKm⟩:=hq;obtain⟨Bm,hBm⟩:∃Bm,Bm=Bk:=⟨_,rfl⟩;have hSm:=hstep hKm;rw [←hBm]at hSm hRm;obtain⟨Sm,hSms⟩:∃Sm,Sm=kR S dd:=⟨_,rfl⟩;rw [←hsd,←hSms]at hRm
  have hSml:Sm.length≤800001:=by
   have:=oT S dd;rw [hSms];omega
  conv=>lhs;whnf
  refine aI h5 ?_;conv=>lhs;whnf
  obtain⟨l,vn,vs',gn,gs,hl,h⟩:=hRm;obtain⟨_,ao,c,hvs,hc,hz1,hz2,hz3⟩:=h.srow;subst hvs;refine(hD _).2 ⟨oR Am Bm Om r l Sm vn (.slice ao Sm.length c) gn gs (aW ses ah),⟨(⟨0,Am⟩:RaS),⟨Nat.zero_le _,by rw [List.take_zero,List.drop_zero];exact h,Kept.refl _ _⟩,⟨rfl,trivial⟩,trivial,rfl⟩,fun(sg:RaS) hG=>⟨⟨trivial,trivial⟩,trivial,?_⟩⟩;obtain⟨j,Aj⟩:=sg;obtain⟨hj,hRj,hKj⟩:j≤Sm.length∧fB Aj Bm Om r l ((Sm.take j).map (aW ses ah)++Sm.drop j) vn (.slice ao Sm.length c) gn gs∧Kept Am Om Aj Om:=hG;have htop:Aj.rd r 1 1=some [.slice ao Sm.length c]:=hRj.top.rd (o:=1) (n:=1) (by show 1+1≤2;omega);conv=>lhs;whnf
  repeat(refine af htop ?_
         conv=>lhs;whnf)
  refine ab (fun hlt2=> ?_) (fun hlt2=> ?_)
  ·have hjl:j<Sm.length:=by
     have hlt2:(j:Int)<(Sm.length:Int):=hlt2;omega
   have j0:(0:Int)≤(j:Int)∧(j:Int)<(Sm.length:Int):=by omega
   have hLl:=lP (aW ses ah) Sm j;have hLj:=ra (aW ses ah) hjl;have hset:=oJ (aW ses ah) hjl
   have hnext:aW ses ah Sm[j]=Sm[j]→fB Aj Bm Om r l ((Sm.take (j+1)).map (aW ses ah)++Sm.drop (j+1)) vn (.slice ao Sm.length c) gn gs:=fun e=>by
    rw [←hset,e,←hLj,List.set_getElem_self];exact hRj
   obtain⟨⟨q1,q2,q3⟩,hx⟩:∃x,x=Sm[j]:=⟨_,rfl⟩
   obtain⟨e9,cc,h8,h9,h10⟩:ao=some ⟨gs,0,none⟩∧∃cc,Aj.blk gs=some (.cells cc 83 (0,0))∧((Sm.take j).map (aW ses ah)++Sm.drop j).length*3≤cc.size∧cc.toList.take (((Sm.take j).map (aW ses ah)++Sm.drop j).length*3)=((Sm.take j).map (aW ses ah)++Sm.drop j).flatMap br:=by
    obtain⟨_,ao9,c9,e9,_,_,_,h6⟩:=hRj.srow;obtain⟨h7,hh⟩:=h6 (by omega);injection e9 with e9
    exact⟨e9.trans h7,hh⟩
   subst e9
   have hrow:Aj.rd gs (0+j*3) 3=some [.int .i64 q1,.int .i64 q2,.int .i64 q3]:=by
    have h11:Aj.rd gs 0 (((Sm.take j).map (aW ses ah)++Sm.drop j).length*3)=some (((Sm.take j).map (aW ses ah)++Sm.drop j).flatMap br):=by rw [rd_mk h8 (by omega),List.drop_zero,h10]
    have h12:=fQ (enc:=br) (fun _=>rfl) h11 j (by omega) rfl;rw [hLj,←hx]at h12;exact h12
   have r1:Aj.rd gs (0+j*3) 1=some [.int .i64 q1]:=cU hrow (i:=0) (m:=1) (by omega);have r3:Aj.rd gs (0+j*3+2) 1=some [.int .i64 q3]:=cU hrow (i:=2) (m:=1) (by omega);rw [←hx]at hnext hset;conv=>lhs;whnf
   refine ab (fun hs1=> ?_) (fun hs1=> ?_);rotate_left
   ·have hsame:aW ses ah ⟨q1,q2,q3⟩=⟨q1,q2,q3⟩:=by unfold aW;rw [if_neg fun h=>hs1 h.1]
    conv=>lhs;whnf
    exact(hD _).2 ⟨(⟨j+1,Aj⟩:RaS),⟨⟨by show j+1≤Sm.length;omega,hnext hsame,hKj⟩,⟨av (k:=j) (by omega),trivial⟩,trivial,rfl⟩,by show Sm.length-(j+1)<Sm.length-j;omega,⟨an rfl rfl,an rfl rfl,trivial⟩,⟨an rfl rfl,trivial⟩⟩
   conv=>lhs;whnf
   repeat(first|refine aq j0 ?_|refine af htop ?_|refine af r1 ?_
          conv=>lhs;whnf)
   refine ab (fun hs2=> ?_) (fun hs2=> ?_);rotate_left
   ·have hsame:aW ses ah ⟨q1,q2,q3⟩=⟨q1,q2,q3⟩:=by unfold aW;rw [if_neg fun h=>hs2 h.2]
    conv=>lhs;whnf
    exact(hD _).2 ⟨(⟨j+1,Aj⟩:RaS),⟨⟨by show j+1≤Sm.length;omega,hnext hsame,hKj⟩,⟨av (k:=j) (by omega),trivial⟩,trivial,rfl⟩,by show Sm.length-(j+1)<Sm.length-j;omega,⟨an rfl rfl,an rfl rfl,trivial⟩,⟨an rfl rfl,trivial⟩⟩
   have hyes:aW ses ah ⟨q1,q2,q3⟩=⟨q1,q2,max q3 ah⟩:=by unfold aW;rw [if_pos ⟨hs1,hs2⟩]
   rw [hyes]at hset;have hroom:Aj.Room gs (0+j*3+2) 1:=⟨cc,_,_,h8,by omega,.inl rfl⟩;conv=>lhs;whnf
   repeat(first|refine aq j0 ?_|refine af htop ?_|refine af r3 ?_|refine au hD rfl ?_
          conv=>lhs;whnf)
   refine(hD _).2 ⟨hroom,fun A9 hP=> ?_⟩
   have hmx:(bif true then bif decide (q3<ah)then ah else q3 else bif decide (ah<q3)then ah else q3)=max q3 ah:=by
    by_cases h9:q3<ah
    ·simp only [h9,decide_true,cond_true];omega
    ·simp only [h9,decide_false,cond_true,cond_false];omega
   have hP:Aj.Put A9 gs (0+j*3+2) [.int .i64 (max q3 ah)]:=by rw [←hmx];exact hP
   obtain⟨hR9,hK9⟩:=hRj.Es (k:=j) (by omega) (i:=2) (by omega) (w:= .int .i64 (max q3 ah)) (x':=⟨q1,q2,max q3 ah⟩) (by rw [hLj,←hx];rfl) hP;rw [hset]at hR9;conv=>lhs;whnf
   exact(hD _).2 ⟨(⟨j+1,A9⟩:RaS),⟨⟨by show j+1≤Sm.length;omega,hR9,hKj.trans hK9⟩,⟨av (k:=j) (by omega),trivial⟩,trivial,rfl⟩,by show Sm.length-(j+1)<Sm.length-j;omega,⟨an rfl rfl,an rfl rfl,trivial⟩,⟨an rfl rfl,trivial⟩⟩
  ·have e:j=Sm.length:=by
     have hlt2:¬(j:Int)<(Sm.length:Int):=hlt2;omega
   rw [e,List.take_length,List.drop_length,List.append_nil]at hRj
   have hend:jB.post (⟨N,S,B,O,r⟩,.mk ⟨zxid,kind,ses,ah,xid,dtime,path,data,owner,ver,cver,tmo,err,cfg,mem⟩ parts,C) [] A (.tuple #[]) Aj:=by
    show dF A B O r (dN N _) (dM S _) Aj
    rw [←hdd,dN,if_pos hr,dM,if_pos hr,hN1,hN2];dsimp only;rw [←hN0,←hNe,←hSms];exact⟨Bm,Om,⟨l,vn,_,gn,gs,hl,hRj⟩,hSm.trans ⟨hKj.bk,hKj.dom,hKj.own,aa.Sub.refl _,fun _ _ h=> .inl h⟩⟩
   conv=>lhs;whnf
   exact(hD _).2 hend
 by_cases h5:kind=5
 ·rw [if_neg h4,if_pos h5]at hsd
  conv=>lhs;whnf
  refine aI h4 ?_;conv=>lhs;whnf
  refine bP h5 ?_;conv=>lhs;whnf
  refine(hD _).2 ⟨(⟨Nk,S,Bk,Ok,r⟩,owner),⟨rfl,hRk,by show S.length≤1000000;omega⟩,fun v Am hq=> ?_⟩;have hq:∃O',bC Am Bk O' r Nk (gL S owner)∧Kept Ak Ok Am O':=hq;obtain⟨Om,hRm,hKm⟩:=hq;obtain⟨Bm,hBm⟩:∃Bm,Bm=Bk:=⟨_,rfl⟩;have hSm:=hstep hKm;rw [←hBm]at hSm hRm;obtain⟨Sm,hSms⟩:∃Sm,Sm=kR S dd:=⟨_,rfl⟩;rw [←hsd,←hSms]at hRm
  have hSml:Sm.length≤800001:=by
   have:=oT S dd;rw [hSms];omega
  conv=>lhs;whnf
  obtain⟨l,vn,vs',gn,gs,hl,h⟩:=hRm;obtain⟨_,ao,c,hvs,hc,hz1,hz2,hz3⟩:=h.srow;subst hvs;refine(hD _).2 ⟨oR Am Bm Om r l Sm vn (.slice ao Sm.length c) gn gs (aW ses ah),⟨(⟨0,Am⟩:RaS),⟨Nat.zero_le _,by rw [List.take_zero,List.drop_zero];exact h,Kept.refl _ _⟩,⟨rfl,trivial⟩,trivial,rfl⟩,fun(sg:RaS) hG=>⟨⟨trivial,trivial⟩,trivial,?_⟩⟩;obtain⟨j,Aj⟩:=sg;obtain⟨hj,hRj,hKj⟩:j≤Sm.length∧fB Aj Bm Om r l ((Sm.take j).map (aW ses ah)++Sm.drop j) vn (.slice ao Sm.length c) gn gs∧Kept Am Om Aj Om:=hG;have htop:Aj.rd r 1 1=some [.slice ao Sm.length c]:=hRj.top.rd (o:=1) (n:=1) (by show 1+1≤2;omega);conv=>lhs;whnf
  repeat(refine af htop ?_
         conv=>lhs;whnf)
  refine ab (fun hlt2=> ?_) (fun hlt2=> ?_)
  ·have hjl:j<Sm.length:=by
     have hlt2:(j:Int)<(Sm.length:Int):=hlt2;omega
   have j0:(0:Int)≤(j:Int)∧(j:Int)<(Sm.length:Int):=by omega
   have hLl:=lP (aW ses ah) Sm j;have hLj:=ra (aW ses ah) hjl;have hset:=oJ (aW ses ah) hjl
   have hnext:aW ses ah Sm[j]=Sm[j]→fB Aj Bm Om r l ((Sm.take (j+1)).map (aW ses ah)++Sm.drop (j+1)) vn (.slice ao Sm.length c) gn gs:=fun e=>by
    rw [←hset,e,←hLj,List.set_getElem_self];exact hRj
   obtain⟨⟨q1,q2,q3⟩,hx⟩:∃x,x=Sm[j]:=⟨_,rfl⟩
   obtain⟨e9,cc,h8,h9,h10⟩:ao=some ⟨gs,0,none⟩∧∃cc,Aj.blk gs=some (.cells cc 83 (0,0))∧((Sm.take j).map (aW ses ah)++Sm.drop j).length*3≤cc.size∧cc.toList.take (((Sm.take j).map (aW ses ah)++Sm.drop j).length*3)=((Sm.take j).map (aW ses ah)++Sm.drop j).flatMap br:=by
    obtain⟨_,ao9,c9,e9,_,_,_,h6⟩:=hRj.srow;obtain⟨h7,hh⟩:=h6 (by omega);injection e9 with e9
    exact⟨e9.trans h7,hh⟩
   subst e9
   have hrow:Aj.rd gs (0+j*3) 3=some [.int .i64 q1,.int .i64 q2,.int .i64 q3]:=by
    have h11:Aj.rd gs 0 (((Sm.take j).map (aW ses ah)++Sm.drop j).length*3)=some (((Sm.take j).map (aW ses ah)++Sm.drop j).flatMap br):=by rw [rd_mk h8 (by omega),List.drop_zero,h10]
    have h12:=fQ (enc:=br) (fun _=>rfl) h11 j (by omega) rfl;rw [hLj,←hx]at h12;exact h12
   have r1:Aj.rd gs (0+j*3) 1=some [.int .i64 q1]:=cU hrow (i:=0) (m:=1) (by omega);have r3:Aj.rd gs (0+j*3+2) 1=some [.int .i64 q3]:=cU hrow (i:=2) (m:=1) (by omega);rw [←hx]at hnext hset;conv=>lhs;whnf
   refine ab (fun hs1=> ?_) (fun hs1=> ?_);rotate_left
   ·have hsame:aW ses ah ⟨q1,q2,q3⟩=⟨q1,q2,q3⟩:=by unfold aW;rw [if_neg fun h=>hs1 h.1]
    conv=>lhs;whnf
    exact(hD _).2 ⟨(⟨j+1,Aj⟩:RaS),⟨⟨by show j+1≤Sm.length;omega,hnext hsame,hKj⟩,⟨av (k:=j) (by omega),trivial⟩,trivial,rfl⟩,by show Sm.length-(j+1)<Sm.length-j;omega,⟨an rfl rfl,an rfl rfl,trivial⟩,⟨an rfl rfl,trivial⟩⟩
   conv=>lhs;whnf
   repeat(first|refine aq j0 ?_|refine af htop ?_|refine af r1 ?_
          conv=>lhs;whnf)
   refine ab (fun hs2=> ?_) (fun hs2=> ?_);rotate_left
   ·have hsame:aW ses ah ⟨q1,q2,q3⟩=⟨q1,q2,q3⟩:=by unfold aW;rw [if_neg fun h=>hs2 h.2]
    conv=>lhs;whnf
    exact(hD _).2 ⟨(⟨j+1,Aj⟩:RaS),⟨⟨by show j+1≤Sm.length;omega,hnext hsame,hKj⟩,⟨av (k:=j) (by omega),trivial⟩,trivial,rfl⟩,by show Sm.length-(j+1)<Sm.length-j;omega,⟨an rfl rfl,an rfl rfl,trivial⟩,⟨an rfl rfl,trivial⟩⟩
   have hyes:aW ses ah ⟨q1,q2,q3⟩=⟨q1,q2,max q3 ah⟩:=by unfold aW;rw [if_pos ⟨hs1,hs2⟩]
   rw [hyes]at hset;have hroom:Aj.Room gs (0+j*3+2) 1:=⟨cc,_,_,h8,by omega,.inl rfl⟩;conv=>lhs;whnf
   repeat(first|refine aq j0 ?_|refine af htop ?_|refine af r3 ?_|refine au hD rfl ?_
          conv=>lhs;whnf)
   refine(hD _).2 ⟨hroom,fun A9 hP=> ?_⟩
   have hmx:(bif true then bif decide (q3<ah)then ah else q3 else bif decide (ah<q3)then ah else q3)=max q3 ah:=by
    by_cases h9:q3<ah
    ·simp only [h9,decide_true,cond_true];omega
    ·simp only [h9,decide_false,cond_true,cond_false];omega
   have hP:Aj.Put A9 gs (0+j*3+2) [.int .i64 (max q3 ah)]:=by rw [←hmx];exact hP
   obtain⟨hR9,hK9⟩:=hRj.Es (k:=j) (by omega) (i:=2) (by omega) (w:= .int .i64 (max q3 ah)) (x':=⟨q1,q2,max q3 ah⟩) (by rw [hLj,←hx];rfl) hP;rw [hset]at hR9;conv=>lhs;whnf
   exact(hD _).2 ⟨(⟨j+1,A9⟩:RaS),⟨⟨by show j+1≤Sm.length;omega,hR9,hKj.trans hK9⟩,⟨av (k:=j) (by omega),trivial⟩,trivial,rfl⟩,by show Sm.length-(j+1)<Sm.length-j;omega,⟨an rfl rfl,an rfl rfl,trivial⟩,⟨an rfl rfl,trivial⟩⟩
  ·have e:j=Sm.length:=by
     have hlt2:¬(j:Int)<(Sm.length:Int):=hlt2;omega
   rw [e,List.take_length,List.drop_length,List.append_nil]at hRj
   have hend:jB.post (⟨N,S,B,O,r⟩,.mk ⟨zxid,kind,ses,ah,xid,dtime,path,data,owner,ver,cver,tmo,err,cfg,mem⟩ parts,C) [] A (.tuple #[]) Aj:=by
    show dF A B O r (dN N _) (dM S _) Aj
    rw [←hdd,dN,if_pos hr,dM,if_pos hr,hN1,hN2];dsimp only;rw [←hN0,←hNe,←hSms];exact⟨Bm,Om,⟨l,vn,_,gn,gs,hl,hRj⟩,hSm.trans ⟨hKj.bk,hKj.dom,hKj.own,aa.Sub.refl _,fun _ _ h=> .inl h⟩⟩
   conv=>lhs;whnf
   exact(hD _).2 hend
 ·rw [if_neg h4,if_neg h5]at hsd
  obtain⟨Am,hAm⟩:∃Am,Am=Ak:=⟨_,rfl⟩;obtain⟨Bm,hBm⟩:∃Bm,Bm=Bk:=⟨_,rfl⟩;obtain⟨Om,hOm⟩:∃Om,Om=Ok:=⟨_,rfl⟩;subst hAm hBm hOm;obtain⟨Sm,hSms⟩:∃Sm,Sm=kR S dd:=⟨_,rfl⟩;have hRm:=hRk;have hSm:=hSk;rw [←hsd,←hSms]at hRm
  have hSml:Sm.length≤800001:=by
   have:=oT S dd;rw [hSms];omega
  conv=>lhs;whnf
  refine aI h4 ?_;conv=>lhs;whnf
  refine aI h5 ?_;conv=>lhs;whnf
  obtain⟨l,vn,vs',gn,gs,hl,h⟩:=hRm;obtain⟨_,ao,c,hvs,hc,hz1,hz2,hz3⟩:=h.srow;subst hvs;refine(hD _).2 ⟨oR Am Bm Om r l Sm vn (.slice ao Sm.length c) gn gs (aW ses ah),⟨(⟨0,Am⟩:RaS),⟨Nat.zero_le _,by rw [List.take_zero,List.drop_zero];exact h,Kept.refl _ _⟩,⟨rfl,trivial⟩,trivial,rfl⟩,fun(sg:RaS) hG=>⟨⟨trivial,trivial⟩,trivial,?_⟩⟩;obtain⟨j,Aj⟩:=sg;obtain⟨hj,hRj,hKj⟩:j≤Sm.length∧fB Aj Bm Om r l ((Sm.take j).map (aW ses ah)++Sm.drop j) vn (.slice ao Sm.length c) gn gs∧Kept Am Om Aj Om:=hG;have htop:Aj.rd r 1 1=some [.slice ao Sm.length c]:=hRj.top.rd (o:=1) (n:=1) (by show 1+1≤2;omega);conv=>lhs;whnf
  repeat(refine af htop ?_
         conv=>lhs;whnf)
  refine ab (fun hlt2=> ?_) (fun hlt2=> ?_)
  ·have hjl:j<Sm.length:=by
     have hlt2:(j:Int)<(Sm.length:Int):=hlt2;omega
   have j0:(0:Int)≤(j:Int)∧(j:Int)<(Sm.length:Int):=by omega
   have hLl:=lP (aW ses ah) Sm j;have hLj:=ra (aW ses ah) hjl;have hset:=oJ (aW ses ah) hjl
   have hnext:aW ses ah Sm[j]=Sm[j]→fB Aj Bm Om r l ((Sm.take (j+1)).map (aW ses ah)++Sm.drop (j+1)) vn (.slice ao Sm.length c) gn gs:=fun e=>by
    rw [←hset,e,←hLj,List.set_getElem_self];exact hRj
   obtain⟨⟨q1,q2,q3⟩,hx⟩:∃x,x=Sm[j]:=⟨_,rfl⟩
   obtain⟨e9,cc,h8,h9,h10⟩:ao=some ⟨gs,0,none⟩∧∃cc,Aj.blk gs=some (.cells cc 83 (0,0))∧((Sm.take j).map (aW ses ah)++Sm.drop j).length*3≤cc.size∧cc.toList.take (((Sm.take j).map (aW ses ah)++Sm.drop j).length*3)=((Sm.take j).map (aW ses ah)++Sm.drop j).flatMap br:=by
    obtain⟨_,ao9,c9,e9,_,_,_,h6⟩:=hRj.srow;obtain⟨h7,hh⟩:=h6 (by omega);injection e9 with e9
    exact⟨e9.trans h7,hh⟩
   subst e9
   have hrow:Aj.rd gs (0+j*3) 3=some [.int .i64 q1,.int .i64 q2,.int .i64 q3]:=by
    have h11:Aj.rd gs 0 (((Sm.take j).map (aW ses ah)++Sm.drop j).length*3)=some (((Sm.take j).map (aW ses ah)++Sm.drop j).flatMap br):=by rw [rd_mk h8 (by omega),List.drop_zero,h10]
    have h12:=fQ (enc:=br) (fun _=>rfl) h11 j (by omega) rfl;rw [hLj,←hx]at h12;exact h12
   have r1:Aj.rd gs (0+j*3) 1=some [.int .i64 q1]:=cU hrow (i:=0) (m:=1) (by omega);have r3:Aj.rd gs (0+j*3+2) 1=some [.int .i64 q3]:=cU hrow (i:=2) (m:=1) (by omega);rw [←hx]at hnext hset;conv=>lhs;whnf
   refine ab (fun hs1=> ?_) (fun hs1=> ?_);rotate_left
   ·have hsame:aW ses ah ⟨q1,q2,q3⟩=⟨q1,q2,q3⟩:=by unfold aW;rw [if_neg fun h=>hs1 h.1]
    conv=>lhs;whnf
    exact(hD _).2 ⟨(⟨j+1,Aj⟩:RaS),⟨⟨by show j+1≤Sm.length;omega,hnext hsame,hKj⟩,⟨av (k:=j) (by omega),trivial⟩,trivial,rfl⟩,by show Sm.length-(j+1)<Sm.length-j;omega,⟨an rfl rfl,an rfl rfl,trivial⟩,⟨an rfl rfl,trivial⟩⟩
   conv=>lhs;whnf
   repeat(first|refine aq j0 ?_|refine af htop ?_|refine af r1 ?_
          conv=>lhs;whnf)
   refine ab (fun hs2=> ?_) (fun hs2=> ?_);rotate_left
   ·have hsame:aW ses ah ⟨q1,q2,q3⟩=⟨q1,q2,q3⟩:=by unfold aW;rw [if_neg fun h=>hs2 h.2]
    conv=>lhs;whnf
    exact(hD _).2 ⟨(⟨j+1,Aj⟩:RaS),⟨⟨by show j+1≤Sm.length;omega,hnext hsame,hKj⟩,⟨av (k:=j) (by omega),trivial⟩,trivial,rfl⟩,by show Sm.length-(j+1)<Sm.length-j;omega,⟨an rfl rfl,an rfl rfl,trivial⟩,⟨an rfl rfl,trivial⟩⟩
   have hyes:aW ses ah ⟨q1,q2,q3⟩=⟨q1,q2,max q3 ah⟩:=by unfold aW;rw [if_pos ⟨hs1,hs2⟩]
   rw [hyes]at hset;have hroom:Aj.Room gs (0+j*3+2) 1:=⟨cc,_,_,h8,by omega,.inl rfl⟩;conv=>lhs;whnf
   repeat(first|refine aq j0 ?_|refine af htop ?_|refine af r3 ?_|refine au hD rfl ?_
          conv=>lhs;whnf)
   refine(hD _).2 ⟨hroom,fun A9 hP=> ?_⟩
   have hmx:(bif true then bif decide (q3<ah)then ah else q3 else bif decide (ah<q3)then ah else q3)=max q3 ah:=by
    by_cases h9:q3<ah
    ·simp only [h9,decide_true,cond_true];omega
    ·simp only [h9,decide_false,cond_true,cond_false];omega
   have hP:Aj.Put A9 gs (0+j*3+2) [.int .i64 (max q3 ah)]:=by rw [←hmx];exact hP
   obtain⟨hR9,hK9⟩:=hRj.Es (k:=j) (by omega) (i:=2) (by omega) (w:= .int .i64 (max q3 ah)) (x':=⟨q1,q2,max q3 ah⟩) (by rw [hLj,←hx];rfl) hP;rw [hset]at hR9;conv=>lhs;whnf
   exact(hD _).2 ⟨(⟨j+1,A9⟩:RaS),⟨⟨by show j+1≤Sm.length;omega,hR9,hKj.trans hK9⟩,⟨av (k:=j) (by omega),trivial⟩,trivial,rfl⟩,by show Sm.length-(j+1)<Sm.length-j;omega,⟨an rfl rfl,an rfl rfl,trivial⟩,⟨an rfl rfl,trivial⟩⟩
  ·have e:j=Sm.length:=by
     have hlt2:¬(j:Int)<(Sm.length:Int):=hlt2;omega
   rw [e,List.take_length,List.drop_length,List.append_nil]at hRj
   have hend:jB.post (⟨N,S,B,O,r⟩,.mk ⟨zxid,kind,ses,ah,xid,dtime,path,data,owner,ver,cver,tmo,err,cfg,mem⟩ parts,C) [] A (.tuple #[]) Aj:=by
    show dF A B O r (dN N _) (dM S _) Aj
    rw [←hdd,dN,if_pos hr,dM,if_pos hr,hN1,hN2];dsimp only;rw [←hN0,←hNe,←hSms];exact⟨Bm,Om,⟨l,vn,_,gn,gs,hl,hRj⟩,hSm.trans ⟨hKj.bk,hKj.dom,hKj.own,aa.Sub.refl _,fun _ _ h=> .inl h⟩⟩
   conv=>lhs;whnf
   exact(hD _).2 hend
def mR:List aC:= [⟨fR, [],⟨0,0,0,0,0,0,0,0,0,0⟩⟩]
def alRef:TypeId→Bool:=fun t=>Nat.beq t 63||Nat.beq t 67
def EJ:aL:=⟨Unit,fun _ vs _=>vs= [],
 fun _ _ A v A'=>∃r O,v= .pointer (some ⟨r,0,none⟩)∧bC A' aa.void O r mR []∧A.Sub A'∧∀k,O k→A.blk k=none⟩
theorem rnew_ok:FOk Tryz.prog 5 EJ:=by
 refine sN mixed alRef fun _ vs A hp=> ?_
 obtain rfl:vs= []:=hp;refine⟨noC,noL,60,aj _,ak _,fun blk os out tape D hD=> ?_⟩;conv=>lhs;whnf
 refine(hD _).2 fun g A1 hN1=> ?_
 have hN1:A.New A1 g #[.string fR,.slice none 0 0,.int .i64 0,.int .i64 0,.int .i64 0,.int .i64 0,.int .i64 0,.int .i64 0,.int .i64 0,.int .i64 0,.int .i64 0,.int .i64 0] 63:=hN1;conv=>lhs;whnf
 refine(hD _).2 fun r A2 hN2=> ?_
 have hN2:A1.New A2 r #[.slice (some ⟨g,0,none⟩) 1 1,.slice none 0 0] 67:=hN2;have gr:g≠r:=fun e=>by subst e;have:=hN2.none_;rw [hN1.at_]at this;cases this
 have hg2:=hN2.sub _ _ hN1.at_
 have hR:fB A2 aa.void (fun k=>k=r∨k=g) r [((⟨fR, [],⟨0,0,0,0,0,0,0,0,0,0⟩⟩:aC),.slice none 0 0)] [] (.slice (some ⟨g,0,none⟩) 1 1) (.slice none 0 0) g 0:=
  { top:=aG.new hN2
    nrow:=⟨rfl,some ⟨g,0,none⟩,1,rfl,Nat.le_refl _,fun h=>(by cases h),fun a h=>(by injection h with h;subst h;rfl),fun _=>⟨rfl,_,hg2,by show 1*12≤12;omega,rfl⟩⟩
    srow:=fA.nil _ _ _ _
    data:=fun x hx=>by
     simp only [List.mem_singleton]at hx;subst hx;exact⟨Sl.nil _ _,by simp⟩
    sub:=fun k o hk=>(by cases hk)
    own:=⟨.inl rfl,fun _=> .inr rfl,fun h=>absurd h (by simp)⟩
    off:=fun _ _=>rfl
    live:=fun k hk=>by
     rcases hk with rfl|rfl
     ·exact⟨_,hN2.at_⟩
     ·exact⟨_,hg2⟩
    ne:=⟨fun _=>gr,fun h=>absurd h (by simp),fun _ h=>absurd h (by simp)⟩ }
 have hend:EJ.post () [] A (.pointer (some ⟨r,0,none⟩)) A2:=by
  refine⟨r,_,rfl,⟨_,_,_,_,_,rfl,hR⟩,hN1.sub.trans hN2.sub,fun k hk=> ?_⟩;rcases hk with rfl|rfl
  ·have:=hN2.none_
   rw [hN1.other k (Ne.symm gr)]at this;exact this
  ·exact hN1.none_
 conv=>lhs;whnf
 exact(hD _).2 hend
theorem Ap{P:Program}(hm:P.follows .mixedOrders=true){C:FuncId→Option CT}(hC:aF P C){Λ:jQ}(hΛ:fe P Λ){n:Nat}{f:FuncId}(hk:∀w:World,ua P C Λ n f [] ⟨.e,0,uB w⟩ (fun r _=>isT r)=true):
  FOk P f ⟨Unit,fun _ vs _=>vs= [],fun _ _ A v A'=>A'=A∧v= .bool true⟩:=by
 intro _ vs A w hA hvs;simp only at hvs;subst hvs
 have R:ba (fun _=>⟨0,0,0⟩) ⟨.e,0,uB w⟩ w:=by
  refine⟨rfl,rfl,rfl,fun k o hk=>hk,fun b B hb=> ?_,fun b b' B B' hb=> ?_,fun b B hb=> ?_,fun k o hk=>(by cases hk),fun b B hb=> ?_,fun k o hk=>(by cases hk)⟩<;>(rw [T.eE]at hb;cases hb)
 refine(kL hm hC hΛ n f [] _ _ (hk w) _ w R (fun x hx=>by cases hx)).mono (fun v w' ⟨z,h',ρ',hz,hv,hl,R',_,_,hle⟩=> ?_) fun _ _ h=>h
 have old:∀k o,w.heap[k]? =some o→w'.heap[k]? =some o:=fun k o hk=>R'.mem k o (hle.1 k o hk)
 refine⟨A,⟨rfl,?_⟩,R'.os.trans hle.2.1,R'.out.trans hle.2.2.1,R'.tape.trans hle.2.2.2,fun k hk hlt=> ?_,fun k o hk=>old k o (hA k o hk),fun k o ho=> .inl ⟨o,ho⟩⟩
 ·rw [hv]
  cases z with
  |v x=>cases x with
   |bool b=>simp only [isT]at hz;subst hz;rfl
   |_=>simp [isT]at hz
  |_=>simp [isT]at hz
 ·have h0:w.heap[k]? =some w.heap[k]:=Array.getElem?_eq_getElem hlt
  rw [old k _ h0,h0]
theorem Ec(w:World):ua Tryz.prog C0 noL 400 7 [] ⟨.e,0,uB w⟩ (fun r _=>isT r)=true:=by kernel_rfl
def GI:aL:=⟨Unit,fun _ vs _=>vs= [],fun _ _ A v A'=>A'=A∧v= .bool true⟩
theorem GH:FOk Tryz.prog 7 GI:=Ap mixed tA (ak _) Ec
end
end Go.Proofs.YtphigpccfbfnoaaGreatDoor
namespace Go.Proofs.YtphigpccfbfnoaaGreatDoor
open Go.Sx Go.RowKit
noncomputable section
theorem ti{A:aa}{w:World}(hA:∀k o,A.blk k=some o→w.heap[k]? =some o){v:Value}{bs:List UInt8}(h:SlB A v bs):(convert 26 9 v).run Tryz.prog w= .ok (.string ⟨bs.toArray⟩) w:=by
 obtain⟨⟨ao,c,rfl,hc,_,h1,h2,h3⟩,_⟩:=h;rcases Nat.eq_zero_or_pos bs.length with hn|hn
 ·obtain rfl:bs= []:=List.length_eq_zero_iff.1 hn
  rw [show([]:List UInt8).length=0 from rfl,run_convert_bytes_string w 26 9 5 _ 0 c Tryz.underlying26 Tryz.underlying5 Tryz.underlying9]
  cases ao<;>simp [Conv.bytesToString,loadCells]
  all_goals rfl
 ·obtain⟨g,o,rfl,hr⟩:=Sl.at_ hc h1 h2 h3 hn
  have hx:(bs.map fun b=>(b.toNat:Int)).length=bs.length:=List.length_map _
  have hcell:∀i,i<bs.length→w.cell? ⟨g,o+i,none⟩=some (.int .u8 ((bs.map fun b=>(b.toNat:Int)).getD i 0)):=fun i hi=>by
   have h9:=qU hr i hi rfl;rw [A.rdeq]at h9;unfold zF at h9
   split at h9
   ·rename_i cc tt fz hb
    split at h9
    ·injection h9 with h9
     unfold World.cell?;rw [hA _ _ hb];simp only [Option.isSome_none,Bool.false_eq_true,if_false];have h10:((cc.toList.drop (o+i*1)).take 1)[0]? =([bv bs[i]])[0]? :=by rw [h9]
     rw [List.getElem?_take,if_pos (by omega),List.getElem?_drop,Nat.mul_one,Nat.add_zero]at h10;rw [←Array.getElem?_toList,h10];simp [bv,hi]
    ·cases h9
   ·cases h9
  have:=run_convert_bytes_arg (P:=Tryz.prog) w 26 5 Tryz.underlying26 Tryz.underlying5 g o bs.length c _ hx hcell 9 Tryz.underlying9;rw [this]
  have e:strOfNums (bs.map fun b=>(b.toNat:Int))=⟨bs.toArray⟩:=by
   have hm:∀l:List UInt8,l.map ((fun n:Int=>UInt8.ofNat n.toNat) ∘ fun b:UInt8=>(b.toNat:Int))=l:=fun l=>by
    induction l with
    |nil=>rfl
    |cons b l ih=>rw [List.map_cons,ih,Function.comp_apply,Int.toNat_natCast,UInt8.ofNat_toNat]
   unfold strOfNums;rw [List.map_map,hm]
  rw [e]
theorem DS(v1 v2:Value)(t1 t2:ByteArray)(w:World)(h1:(convert 26 9 v1).run Tryz.prog w= .ok (.string t1) w)(h2:(convert 26 9 v2).run Tryz.prog w= .ok (.string t2) w):
  Calls Tryz.prog 54 #[v1,v2] w fun e w'=>e= .returned (.bool (t1.toList==t2.toList))∧w'=w:=by
 go_enter Tryz.func54,Tryz.ntmps54
 go_wp2
 go_ret
 exact⟨rfl,rfl⟩
def equalS:aL:=⟨List UInt8×List UInt8,fun g vs A=>∃x y,vs= [x,y]∧SlB A x g.1∧SlB A y g.2,fun g _ A v A'=>A'=A∧v= .bool (decide (g.1=g.2))⟩
theorem F8:FOk Tryz.prog 54 equalS:=by
 intro⟨xs,ys⟩ vs A w hA hp;obtain⟨x,y,rfl,hx,hy⟩:∃x y,vs= [x,y]∧SlB A x xs∧SlB A y ys:=hp;refine fx Tryz.func54 ⟨by kernel_rfl,by kernel_rfl⟩ ?_;intro cs;obtain⟨e,w',fr,⟨k1,k2⟩,k3⟩:=DS x y _ _ w (ti hA hx) (ti hA hy) cs;subst k2;refine⟨e,w',fr,⟨_,k1,A,⟨rfl,?_⟩,rfl,rfl,rfl,fun _ _ _=>rfl,hA,fun k o ho=> .inl ⟨o,ho⟩⟩,k3⟩;congr 1;rw [Lib.toList_data,Lib.toList_data]
 by_cases h:xs=ys
 ·subst h;simp
 ·simp [h]
end
end Go.Proofs.YtphigpccfbfnoaaGreatDoor
