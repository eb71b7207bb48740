/-
  Parts of the proof: IhA
-/
import Derived.Test.YtmmlhdiejkknnaaGreatDoorG14
import Derived.Test.YtmmlhdiejkknnaaGreatDoorG15
import Derived.Test.YtmmlhdiejkknnaaGreatDoorG16
set_option maxRecDepth 100000
set_option maxHeartbeats 0
namespace Go.Proofs.YtmmlhdiejkknnaaGreatDoor
open Go.Sx Go.RowKit
noncomputable section
open Classical
def zh:FuncId→Option CT:=bQ [aM 202 yY,aM 204 yV,aM 205 s0,aM 209 jJ,aM 206 ij,aM 207 wS,aM 208 sZ,aM 211 mT,aM 63 tV] noC
theorem qb:aI Tryz.prog zh:=aD (aA _) (fun x hx=>by
 simp only [List.mem_cons,List.not_mem_nil,or_false]at hx;rcases hx with rfl|rfl|rfl|rfl|rfl|rfl|rfl|rfl|rfl
 ·exact au wunf_ok
 ·exact au yU
 ·exact au Ck
 ·exact au sY
 ·exact au ni
 ·exact au Cj
 ·exact au z8
 ·exact au BI
 ·exact au D0)
def zi:fl:=ic Tryz.prog zh noL 60 [(132,0),(132,4)]
theorem xB:cZ Tryz.prog zi:=bg mixed qb (az _) _ _
def td:FuncId→Option CT:=fun f=>bif Nat.beq f 73 then some (pB Tryz.prog zh zi 60 73)else zh f
theorem wY:aI Tryz.prog td:=by
 intro f ct h args h0 K hk ρ w H hargs;unfold td at h
 cases h1:Nat.beq f 73 with
 |true=>
  rw [h1]at h;have:=Nat.eq_of_beq_eq_true h1;subst this;simp only [cond_true,Option.some.injEq]at h;subst h;exact mW mixed qb xB hk H hargs
 |false=>
  rw [h1]at h;exact qb f ct h args h0 K hk ρ w H hargs
def al8:TypeId→Bool:=fun t=>Nat.beq t 120
def xA(A1:aa)(r:Nat)(B:aa)(m:Nat)(st:bt)(sl:List (Nat×SV)):fj:=
 { γ:=IhG,G:=fun s=>s.k≤m∧aB A1 s.A r∧RdG aH B s.A r (bh s.k st).2∧dO A1 s.A s.L s.xs∧s.xs.map (·.1)=(bh s.k st).1,
   keepS:= [],keepB:= [0,1,2,3],sl:=fun s=>(35,.v (.int .i64 s.k))::sl,bl:=fun s=> [(4,.cells [.v (.slice (cq s.base) s.k s.c),.v (.slice none 0 0),.v (.int .i64 0),.v (.slice none 0 0),.v (.int .i64 0),.v (.int .i64 0)] 0 (129+1))],ar:=fun s=>s.A,mu:=fun s=>m-s.k }
def CV(A1:aa)(r:Nat)(B:aa)(m:Nat)(st:bt)(nv:Value)(sl:List (Nat×SV)):fj:=
 { γ:=Nat×aa×(Option (Nat×Nat)×Nat),G:=fun s=>s.1≤m∧aB A1 s.2.1 r∧RdG aH B s.2.1 r (bO s.1 st).2∧br A1 s.2.1 3 105 s.1 (.slice (cq s.2.2.1) s.1 s.2.2.2) ((bO s.1 st).1.flatMap cz),
   keepS:= [],keepB:= [0,1,2,3],sl:=fun s=>(83,.v (.int .i64 s.1))::sl,bl:=fun s=> [(4,.cells [.v nv,.v (.slice (cq s.2.2.1) s.1 s.2.2.2),.v (.int .i64 0),.v (.slice none 0 0),.v (.int .i64 0),.v (.int .i64 0)] 0 (129+1))],ar:=fun s=>s.2.1,mu:=fun s=>m-s.1 }
theorem iget_ok:FOk Tryz.prog 15 zE:=by
 refine oO mixed al8 fun(l:List UInt8) vs A hp=> ?_
 obtain⟨x,rfl,hX,hlen⟩:∃x,vs= [x]∧SlB A x l∧l.length≤900000000:=hp;obtain⟨ax,cx,hxf⟩:=hX.1.form;subst hxf;refine⟨td,noL,60,wY,az _,fun blk os out tape D hD=> ?_⟩;conv=>lhs;whnf
 refine(hD _).2 ⟨l,⟨_,rfl,hX,hlen⟩,fun v A1 hq=> ?_⟩;obtain⟨s1,hno1,hok1⟩:A.Sub A1∧(il l=none→v= .tuple #[.slice none 0 0,.int .i64 0,.int .i64 4])∧∀p n,il l=some (p,n)→∃y,v= .tuple #[y,.int .i64 (n:Nat),.int .i64 0]∧SlB (A1.minus A) y p:=hq
 have hgI:ja l=match il l with
  |none=>none
  |some (p,n)=>if n=l.length∧(dL (some p)).1=1 then eX (dL (some p)).2 else none:=rfl
 have hbad:∀A',A.Sub A'→ja l=none→zE.post l [] A (.tuple #[.slice none 0 0,.slice none 0 0,.agg #[.int .i64 0,.slice none 0 0],.int .i64 0,.int .i64 0,.int .i64 4]) A':=fun A' h1 h2=>⟨h1,fun _=>rfl,fun ns ss ver ms f t h=>(by rw [h2]at h;cases h)⟩
 cases hu:il l with
 |none=>
  have hv:=hno1 hu;subst hv;have hend:=hbad A1 s1 (by rw [hgI,hu]);conv=>lhs;whnf
  repeat(first|refine aj hD rfl ?_
         conv=>lhs;whnf)
  exact(hD _).2 hend
 |some pn=>
  obtain⟨p,n⟩:=pn;rw [hu]at hgI;have hgI:ja l=if n=l.length∧(dL (some p)).1=1 then eX (dL (some p)).2 else none:=hgI
  have hy:=hok1 p n hu;obtain⟨y,hv,hB⟩:=hy;obtain⟨ay,cy,hyf⟩:=hB.1.form;subst hyf;subst hv
  have hpl:p.length≤l.length:=by
   have hu:=hu;unfold il at hu
   split at hu
   ·cases hu
   ·injection hu with hu
    injection hu with hu _
    rw [←hu,List.length_take,List.length_drop];omega
  clear hno1 hok1;conv=>lhs;whnf
  repeat(first|refine aj hD rfl ?_
         conv=>lhs;whnf)
  refine dS (fun q0=> ?_) (fun q0=> ?_);rotate_left
  ·have q0:n≠l.length:=fun e=>q0 (by rw [e])
   have hend:=hbad A1 s1 (by rw [hgI];exact if_neg fun h=>q0 h.1);conv=>lhs;whnf
   repeat(first|refine aj hD rfl ?_
          conv=>lhs;whnf)
   exact(hD _).2 hend
  have hnl:n=l.length:=by
   have q0:(n:Int)=(l.length:Int):=q0;omega
  conv=>lhs;whnf
  repeat(first|refine aj hD rfl ?_
         conv=>lhs;whnf)
  refine(hD _).2 ⟨p,⟨_,rfl,hB.sub (bk _ _)⟩,fun v A2 hq=> ?_⟩;obtain⟨s2,r,hv,hr1,B,hR⟩:A1.Sub A2∧∃r,v= .pointer (some ⟨r,0,none⟩)∧A1.blk r=none∧∃D,RdG aH D A2 r (some p):=hq;subst hv;have hr:A.blk r=none:=gA s1 hr1;have hA2:A.Sub A2:=s1.trans s2;conv=>lhs;whnf
  repeat(first|refine aj hD rfl ?_
         conv=>lhs;whnf)
  refine(hD _).2 ⟨(⟨r,some p,B⟩:RxG),⟨rfl,hR,by show p.length≤_;omega⟩,fun v A3 hq=> ?_⟩;obtain⟨hv,k3,hR3⟩:v=bv (dL (some p)).1∧aB A2 A3 r∧RdG aH B A3 r (dL (some p)).2:=hq;have hl3:=AS (some p);have hl3:bd (dL (some p)).2≤p.length:=hl3;generalize (dL (some p)).1=b1 at*;generalize (dL (some p)).2=t3 at*;subst hv;conv=>lhs;whnf
  repeat(first|refine aj hD rfl ?_
         conv=>lhs;whnf)
  refine dS (fun q1=> ?_) (fun q1=> ?_);rotate_left
  ·have hA3:=k3.sub hA2 hr
   have q1:b1≠1:=fun e=>q1 (by rw [e];rfl)
   have hend:=hbad A3 hA3 (by rw [hgI];exact if_neg fun h=>q1 h.2);conv=>lhs;whnf
   repeat(first|refine aj hD rfl ?_
          conv=>lhs;whnf)
   exact(hD _).2 hend
  have hb1:b1=1:=by
   have q1:(b1.toNat:Int)=1:=q1;exact UInt8.toNat_inj.1 (by show b1.toNat=1;omega)
  have hgI:ja l=eX t3:=by rw [hgI];exact if_pos ⟨hnl,hb1⟩
  conv=>lhs;whnf
  repeat(first|refine aj hD rfl ?_
         conv=>lhs;whnf)
  refine(hD _).2 ⟨((⟨r,t3,B⟩,500):RxG×Int),⟨rfl,hR3,by show bd t3≤_;omega,by show(0:Int)≤500;decide,by show(500:Int)≤_;decide⟩,fun v A4 hq=> ?_⟩;obtain⟨hv,k4,hR4⟩:v= .int .i64 (ah 500 t3).1∧aB A3 A4 r∧RdG aH B A4 r (ah 500 t3).2:=hq;have hn5:=ej (s:=t3) (show(0:Int)≤500 by decide);have hl4:=bU 500 t3;obtain⟨m,hm⟩:∃m:Nat,(ah 500 t3).1=m:=⟨(ah 500 t3).1.toNat,by omega⟩
  have hgN:eX t3=jZ (bh m (ah 500 t3).2).1 (bh m (ah 500 t3).2).2:=by
   unfold eX;rw [hm,Int.toNat_natCast]
  have hgNb:∀j,(bh j (ah 500 t3).2).2=none→j≤m→eX t3=none:=fun j h1 h2=>xT h1 (by rw [hm,Int.toNat_natCast];exact h2)
  rw [hm]at hv hn5;generalize (ah 500 t3).2=t4 at*;subst hv;conv=>lhs;whnf
  repeat(first|refine aj hD rfl ?_
         conv=>lhs;whnf)
  have hA4:A.Sub A4:=k4.sub (k3.sub hA2 hr) hr;obtain⟨or4,hor4⟩:=hR4.jM;have hr4:A4.blk r≠none:=by rw [hor4];simp
  have hG0:(xA A4 r B m t4 [(34,.v (.int .i64 m)),(7,.ptr 4 0),(6,.v (.pointer (some ⟨r,0,none⟩))),(2,.ptr 3 0)]).G ⟨0,A4,none,0,none, []⟩:=⟨Nat.zero_le _,aB.refl _ _,hR4,dO.nil _ _,rfl⟩;refine(hD _).2 ⟨xA A4 r B m t4 [(34,.v (.int .i64 m)),(7,.ptr 4 0),(6,.v (.pointer (some ⟨r,0,none⟩))),(2,.ptr 3 0)],⟨(⟨0,A4,none,0,none, []⟩:IhG),hG0,⟨rfl,rfl,rfl,rfl,rfl,trivial⟩,⟨rfl,trivial⟩,rfl⟩,fun(s:IhG) hG=>⟨⟨trivial,trivial,Nat.lt_succ_self 4,trivial,Nat.lt_succ_of_lt (Nat.lt_succ_self 3),trivial⟩,⟨Nat.lt_succ_self 4,⟨trivial,trivial,trivial,trivial,trivial,trivial,trivial⟩,trivial⟩,?_⟩⟩;clear hG0;obtain⟨k,A5,base,c,g,xs⟩:=s;obtain⟨hk,hK5,hR5,hrow,hxs⟩:k≤m∧aB A4 A5 r∧RdG aH B A5 r (bh k t4).2∧dO A4 A5 ⟨.slice (cq base) k c,k,c,g⟩ xs∧xs.map (·.1)=(bh k t4).1:=hG;have hsl5:=mD t4 k;have hA5:A.Sub A5:=hK5.sub hA4 hr;conv=>lhs;whnf
  refine af (fun hlt=> ?_) (fun hlt=> ?_)
  ·have hkm:k<m:=by
     have hlt:(k:Int)<(m:Int):=hlt;omega
   have hnext:bh (k+1) t4=((bh k t4).1++ [(gO (bh k t4).2).1],(gO (bh k t4).2).2):=rfl;generalize (bh k t4).1=ns0 at*;generalize (bh k t4).2=u0 at*;conv=>lhs;whnf
   repeat(first|refine aj hD rfl ?_
          conv=>lhs;whnf)
   refine(hD _).2 ⟨((⟨r,u0,B⟩,200):RxG×Int),⟨rfl,hR5,by show bd u0≤_;omega,by show(0:Int)≤200;decide,by show(200:Int)≤_;decide⟩,fun v B1 hq=> ?_⟩;obtain⟨hv,j1,R1⟩:v= .string ⟨(aZ 200 u0).1.toArray⟩∧aB A5 B1 r∧RdG aH B B1 r (aZ 200 u0).2:=hq;have hs1:=(gG 200 u0).1;have hnd:gO u0=(xU (aZ 200 u0).1 (aZ 1000 (aZ 200 u0).2).1 (aZ 1000 (aZ 200 u0).2).2,pIs 8 (aZ 1000 (aZ 200 u0).2).2):=rfl;generalize (aZ 200 u0).1=pth at*;generalize (aZ 200 u0).2=u1 at*;subst hv;conv=>lhs;whnf
   repeat(first|refine aj hD rfl ?_
          conv=>lhs;whnf)
   refine(hD _).2 ⟨((⟨r,u1,B⟩,1000):RxG×Int),⟨rfl,R1,by show bd u1≤_;omega,by show(0:Int)≤1000;decide,by show(1000:Int)≤_;decide⟩,fun v B2 hq=> ?_⟩;obtain⟨hdat,j2,R2⟩:SlB (B2.minus B1) v (aZ 1000 u1).1∧aB B1 B2 r∧RdG aH B B2 r (aZ 1000 u1).2:=hq;have hs2:=(gG 1000 u1).1;have hdl:=kn (most:=1000) (by decide) u1;obtain⟨ad,cd,hvf⟩:=hdat.1.form;generalize (aZ 1000 u1).1=dat at*;generalize (aZ 1000 u1).2=w0 at*;subst hvf;have hK52:aB A5 B2 r:=j1.trans j2
   have hlive1:∀j,B1.blk j=none→A4.blk j=none:=fun j hj=>by
    cases h4:A4.blk j with
    |none=>rfl
    |some o=>
     by_cases e:j=r
     ·obtain⟨o',ho⟩:=R1.jM
      rw [e,ho]at hj;cases hj
     ·rw [j1 j o (hK5 j o h4 e) e]at hj;cases hj
   have hrow1:=hrow.ck j1 hr4;have hrow2:=hrow1.ck j2 hr4;have hdat2:SlB (rE A4 B2 g) (.slice ad dat.length cd) dat:=dat_new hdat hlive1 fun j hj=>hrow1.row.live hj
   clear hrow1 hdat hlive1;have hnd:gO u0=(⟨⟨pth.toArray⟩,dat,⟨pI 0 w0,pI 1 w0,pI 2 w0,pI 3 w0,pI 4 w0,pI 5 w0,pI 6 w0,pI 7 w0,dat.length,0⟩⟩,pIs 8 w0):=hnd;conv=>lhs;whnf
   repeat(first|refine aj hD rfl ?_
          conv=>lhs;whnf)
   refine(hD _).2 fun gl C0 hNl=> ?_
   have hNl:B2.New C0 gl (List.replicate 8 (Value.int .i64 0)).toArray 120:=hNl
   have hgr:gl≠r:=fun e=>by
    obtain⟨o',ho⟩:=R2.jM;have h7:=hNl.none_;rw [e,ho]at h7;cases h7
   have hgB:B.blk gl=none:=gA R2.jT hNl.none_;have hKC0:aB B2 C0 r:=aB.qv hNl.sub r;have RC0:=R2.ck hNl.sub;have hcl0:aE C0 gl [.int .i64 0,.int .i64 0,.int .i64 0,.int .i64 0,.int .i64 0,.int .i64 0,.int .i64 0,.int .i64 0]:=⟨_,_,_,hNl.at_,.inl rfl,rfl⟩;have hgl2:=hNl.none_;clear hNl;conv=>lhs;whnf
   repeat(first|refine aj hD rfl ?_
          conv=>lhs;whnf)
   refine(hD _).2 ⟨(⟨r,pIs 0 w0,B⟩:RxG),⟨rfl,RC0,by show bd (pIs 0 w0)≤_;have:=bX w0 0;omega⟩,fun v B3 hq=> ?_⟩;obtain⟨hv,j3,R3⟩:v= .int .i64 (pI 0 w0)∧aB C0 B3 r∧RdG aH B B3 r (pIs 1 w0):=hq;generalize pI 0 w0=i0 at*;subst hv;have hcx3:=hcl0.sub fun o ho=>j3 gl o ho hgr
   conv=>lhs;whnf
   repeat(first|refine aj hD rfl ?_
          conv=>lhs;whnf)
   refine(hD _).2 ⟨hcx3.room (by show 0+1≤8;omega),fun C1 hP=> ?_⟩;have hP:B3.Put C1 gl 0 [.int .i64 i0]:=hP;have hcl1:aE C1 gl [.int .i64 i0,.int .i64 0,.int .i64 0,.int .i64 0,.int .i64 0,.int .i64 0,.int .i64 0,.int .i64 0]:=hcx3.put hP (by show 0+1≤8;omega)
   have hKC1:aB B2 C1 r:=fun k o hk hkr=>by
    rw [hP.other k fun e=>by rw [e,hgl2]at hk;cases hk];exact j3 k o (hKC0 k o hk hkr) hkr
   have RC1:=R3.other (hP.sub R3.jT hgB) (hP.other r fun e=>hgr e.symm);clear hP hcx3 hcl0 hKC0 j3 R3 RC0;conv=>lhs;whnf
   repeat(first|refine aj hD rfl ?_
          conv=>lhs;whnf)
   refine(hD _).2 ⟨(⟨r,pIs 1 w0,B⟩:RxG),⟨rfl,RC1,by show bd (pIs 1 w0)≤_;have:=bX w0 1;omega⟩,fun v B4 hq=> ?_⟩;obtain⟨hv,j4,R4⟩:v= .int .i64 (pI 1 w0)∧aB C1 B4 r∧RdG aH B B4 r (pIs 2 w0):=hq;generalize pI 1 w0=i1 at*;subst hv;have hcx4:=hcl1.sub fun o ho=>j4 gl o ho hgr
   conv=>lhs;whnf
   repeat(first|refine aj hD rfl ?_
          conv=>lhs;whnf)
   refine(hD _).2 ⟨hcx4.room (by show 1+1≤8;omega),fun C2 hP=> ?_⟩;have hP:B4.Put C2 gl 1 [.int .i64 i1]:=hP;have hcl2:aE C2 gl [.int .i64 i0,.int .i64 i1,.int .i64 0,.int .i64 0,.int .i64 0,.int .i64 0,.int .i64 0,.int .i64 0]:=hcx4.put hP (by show 1+1≤8;omega)
   have hKC2:aB B2 C2 r:=fun k o hk hkr=>by
    rw [hP.other k fun e=>by rw [e,hgl2]at hk;cases hk];exact j4 k o (hKC1 k o hk hkr) hkr
   have RC2:=R4.other (hP.sub R4.jT hgB) (hP.other r fun e=>hgr e.symm);clear hP hcx4 hcl1 hKC1 j4 R4 RC1;conv=>lhs;whnf
   repeat(first|refine aj hD rfl ?_
          conv=>lhs;whnf)
   refine(hD _).2 ⟨(⟨r,pIs 2 w0,B⟩:RxG),⟨rfl,RC2,by show bd (pIs 2 w0)≤_;have:=bX w0 2;omega⟩,fun v B5 hq=> ?_⟩;obtain⟨hv,j5,R5⟩:v= .int .i64 (pI 2 w0)∧aB C2 B5 r∧RdG aH B B5 r (pIs 3 w0):=hq;generalize pI 2 w0=i2 at*;subst hv;have hcx5:=hcl2.sub fun o ho=>j5 gl o ho hgr
   conv=>lhs;whnf
   repeat(first|refine aj hD rfl ?_
          conv=>lhs;whnf)
   refine(hD _).2 ⟨hcx5.room (by show 2+1≤8;omega),fun C3 hP=> ?_⟩;have hP:B5.Put C3 gl 2 [.int .i64 i2]:=hP;have hcl3:aE C3 gl [.int .i64 i0,.int .i64 i1,.int .i64 i2,.int .i64 0,.int .i64 0,.int .i64 0,.int .i64 0,.int .i64 0]:=hcx5.put hP (by show 2+1≤8;omega)
   have hKC3:aB B2 C3 r:=fun k o hk hkr=>by
    rw [hP.other k fun e=>by rw [e,hgl2]at hk;cases hk];exact j5 k o (hKC2 k o hk hkr) hkr
   have RC3:=R5.other (hP.sub R5.jT hgB) (hP.other r fun e=>hgr e.symm);clear hP hcx5 hcl2 hKC2 j5 R5 RC2;conv=>lhs;whnf
   repeat(first|refine aj hD rfl ?_
          conv=>lhs;whnf)
   refine(hD _).2 ⟨(⟨r,pIs 3 w0,B⟩:RxG),⟨rfl,RC3,by show bd (pIs 3 w0)≤_;have:=bX w0 3;omega⟩,fun v B6 hq=> ?_⟩;obtain⟨hv,j6,R6⟩:v= .int .i64 (pI 3 w0)∧aB C3 B6 r∧RdG aH B B6 r (pIs 4 w0):=hq;generalize pI 3 w0=i3 at*;subst hv;have hcx6:=hcl3.sub fun o ho=>j6 gl o ho hgr
   conv=>lhs;whnf
   repeat(first|refine aj hD rfl ?_
          conv=>lhs;whnf)
   refine(hD _).2 ⟨hcx6.room (by show 3+1≤8;omega),fun C4 hP=> ?_⟩;have hP:B6.Put C4 gl 3 [.int .i64 i3]:=hP;have hcl4:aE C4 gl [.int .i64 i0,.int .i64 i1,.int .i64 i2,.int .i64 i3,.int .i64 0,.int .i64 0,.int .i64 0,.int .i64 0]:=hcx6.put hP (by show 3+1≤8;omega)
   have hKC4:aB B2 C4 r:=fun k o hk hkr=>by
    rw [hP.other k fun e=>by rw [e,hgl2]at hk;cases hk];exact j6 k o (hKC3 k o hk hkr) hkr
   have RC4:=R6.other (hP.sub R6.jT hgB) (hP.other r fun e=>hgr e.symm);clear hP hcx6 hcl3 hKC3 j6 R6 RC3;conv=>lhs;whnf
   repeat(first|refine aj hD rfl ?_
          conv=>lhs;whnf)
   refine(hD _).2 ⟨(⟨r,pIs 4 w0,B⟩:RxG),⟨rfl,RC4,by show bd (pIs 4 w0)≤_;have:=bX w0 4;omega⟩,fun v B7 hq=> ?_⟩;obtain⟨hv,j7,R7⟩:v= .int .i64 (pI 4 w0)∧aB C4 B7 r∧RdG aH B B7 r (pIs 5 w0):=hq;generalize pI 4 w0=i4 at*;subst hv;have hcx7:=hcl4.sub fun o ho=>j7 gl o ho hgr
   conv=>lhs;whnf
   repeat(first|refine aj hD rfl ?_
          conv=>lhs;whnf)
   refine(hD _).2 ⟨hcx7.room (by show 4+1≤8;omega),fun C5 hP=> ?_⟩;have hP:B7.Put C5 gl 4 [.int .i64 i4]:=hP;have hcl5:aE C5 gl [.int .i64 i0,.int .i64 i1,.int .i64 i2,.int .i64 i3,.int .i64 i4,.int .i64 0,.int .i64 0,.int .i64 0]:=hcx7.put hP (by show 4+1≤8;omega)
   have hKC5:aB B2 C5 r:=fun k o hk hkr=>by
    rw [hP.other k fun e=>by rw [e,hgl2]at hk;cases hk];exact j7 k o (hKC4 k o hk hkr) hkr
   have RC5:=R7.other (hP.sub R7.jT hgB) (hP.other r fun e=>hgr e.symm);clear hP hcx7 hcl4 hKC4 j7 R7 RC4;conv=>lhs;whnf
   repeat(first|refine aj hD rfl ?_
          conv=>lhs;whnf)
   refine(hD _).2 ⟨(⟨r,pIs 5 w0,B⟩:RxG),⟨rfl,RC5,by show bd (pIs 5 w0)≤_;have:=bX w0 5;omega⟩,fun v B8 hq=> ?_⟩;obtain⟨hv,j8,R8⟩:v= .int .i64 (pI 5 w0)∧aB C5 B8 r∧RdG aH B B8 r (pIs 6 w0):=hq;generalize pI 5 w0=i5 at*;subst hv;have hcx8:=hcl5.sub fun o ho=>j8 gl o ho hgr
   conv=>lhs;whnf
   repeat(first|refine aj hD rfl ?_
          conv=>lhs;whnf)
   refine(hD _).2 ⟨hcx8.room (by show 5+1≤8;omega),fun C6 hP=> ?_⟩;have hP:B8.Put C6 gl 5 [.int .i64 i5]:=hP;have hcl6:aE C6 gl [.int .i64 i0,.int .i64 i1,.int .i64 i2,.int .i64 i3,.int .i64 i4,.int .i64 i5,.int .i64 0,.int .i64 0]:=hcx8.put hP (by show 5+1≤8;omega)
   have hKC6:aB B2 C6 r:=fun k o hk hkr=>by
    rw [hP.other k fun e=>by rw [e,hgl2]at hk;cases hk];exact j8 k o (hKC5 k o hk hkr) hkr
   have RC6:=R8.other (hP.sub R8.jT hgB) (hP.other r fun e=>hgr e.symm);clear hP hcx8 hcl5 hKC5 j8 R8 RC5;conv=>lhs;whnf
   repeat(first|refine aj hD rfl ?_
          conv=>lhs;whnf)
   refine(hD _).2 ⟨(⟨r,pIs 6 w0,B⟩:RxG),⟨rfl,RC6,by show bd (pIs 6 w0)≤_;have:=bX w0 6;omega⟩,fun v B9 hq=> ?_⟩;obtain⟨hv,j9,R9⟩:v= .int .i64 (pI 6 w0)∧aB C6 B9 r∧RdG aH B B9 r (pIs 7 w0):=hq;generalize pI 6 w0=i6 at*;subst hv;have hcx9:=hcl6.sub fun o ho=>j9 gl o ho hgr
   conv=>lhs;whnf
   repeat(first|refine aj hD rfl ?_
          conv=>lhs;whnf)
   refine(hD _).2 ⟨hcx9.room (by show 6+1≤8;omega),fun C7 hP=> ?_⟩;have hP:B9.Put C7 gl 6 [.int .i64 i6]:=hP;have hcl7:aE C7 gl [.int .i64 i0,.int .i64 i1,.int .i64 i2,.int .i64 i3,.int .i64 i4,.int .i64 i5,.int .i64 i6,.int .i64 0]:=hcx9.put hP (by show 6+1≤8;omega)
   have hKC7:aB B2 C7 r:=fun k o hk hkr=>by
    rw [hP.other k fun e=>by rw [e,hgl2]at hk;cases hk];exact j9 k o (hKC6 k o hk hkr) hkr
   have RC7:=R9.other (hP.sub R9.jT hgB) (hP.other r fun e=>hgr e.symm);clear hP hcx9 hcl6 hKC6 j9 R9 RC6;conv=>lhs;whnf
   repeat(first|refine aj hD rfl ?_
          conv=>lhs;whnf)
   refine(hD _).2 ⟨(⟨r,pIs 7 w0,B⟩:RxG),⟨rfl,RC7,by show bd (pIs 7 w0)≤_;have:=bX w0 7;omega⟩,fun v B10 hq=> ?_⟩;obtain⟨hv,j10,R10⟩:v= .int .i64 (pI 7 w0)∧aB C7 B10 r∧RdG aH B B10 r (pIs 8 w0):=hq;generalize pI 7 w0=i7 at*;subst hv;have hcx10:=hcl7.sub fun o ho=>j10 gl o ho hgr
   conv=>lhs;whnf
   repeat(first|refine aj hD rfl ?_
          conv=>lhs;whnf)
   refine(hD _).2 ⟨hcx10.room (by show 7+1≤8;omega),fun C8 hP=> ?_⟩;have hP:B10.Put C8 gl 7 [.int .i64 i7]:=hP;have hcl8:aE C8 gl [.int .i64 i0,.int .i64 i1,.int .i64 i2,.int .i64 i3,.int .i64 i4,.int .i64 i5,.int .i64 i6,.int .i64 i7]:=hcx10.put hP (by show 7+1≤8;omega)
   have hKC8:aB B2 C8 r:=fun k o hk hkr=>by
    rw [hP.other k fun e=>by rw [e,hgl2]at hk;cases hk];exact j10 k o (hKC7 k o hk hkr) hkr
   have RC8:=R10.other (hP.sub R10.jT hgB) (hP.other r fun e=>hgr e.symm);clear hP hcx10 hcl7 hKC7 j10 R10 RC7;conv=>lhs;whnf
   repeat(first|refine aj hD rfl ?_
          conv=>lhs;whnf)
   have hrd:=fun(q:Nat) (hq:q+1≤8)=>hcl8.rd (o:=q) (n:=1) hq
   have e0:C8.rd gl 0 1=some [.int .i64 i0]:=hrd 0 (by decide);have e1:C8.rd gl 1 1=some [.int .i64 i1]:=hrd 1 (by decide);have e2:C8.rd gl 2 1=some [.int .i64 i2]:=hrd 2 (by decide);have e3:C8.rd gl 3 1=some [.int .i64 i3]:=hrd 3 (by decide);have e4:C8.rd gl 4 1=some [.int .i64 i4]:=hrd 4 (by decide);have e5:C8.rd gl 5 1=some [.int .i64 i5]:=hrd 5 (by decide);have e6:C8.rd gl 6 1=some [.int .i64 i6]:=hrd 6 (by decide);have e7:C8.rd gl 7 1=some [.int .i64 i7]:=hrd 7 (by decide);have hK2x:aB B2 C8 r:=hKC8;have hK5x:aB A5 C8 r:=hK52.trans hK2x;have hK4x:aB A4 C8 r:=hK5.trans hK5x;have hAx:A.Sub C8:=hK4x.sub hA4 hr;have hrowx:=hrow2.ck hK2x hr4;have hdatx:=wo hdat2 hK2x hr4;have RC8':=RC8;obtain⟨v10,htop10, -, -, -, -⟩:=RC8';have rg:C8.rd r 1 1=some [.bool (aH (pIs 8 w0))]:=htop10.rd (o:=1) (n:=1) (by show 1+1≤2;omega);clear hrow2 hdat2 htop10
   by_cases hst:pIs 8 w0=none
   ·rw [hst]at rg
    have rg:C8.rd r 1 1=some [.bool false]:=rg
    have hN0:ja l=none:=by
     rw [hgI];refine hgNb (k+1) ?_ hkm;rw [hnext,hnd];exact hst
    repeat(first|refine ai rg ?_|refine aj hD rfl ?_
           conv=>lhs;whnf)
    have hend:=hbad C8 hAx (hN0);conv=>lhs;whnf
    repeat(first|refine aj hD rfl ?_
           conv=>lhs;whnf)
    exact(hD _).2 hend
   have hsm:∃u2,pIs 8 w0=some u2:=Option.ne_none_iff_exists'.1 hst;obtain⟨u2,hst⟩:=hsm;rw [hst]at rg hnd RC8;have rg:C8.rd r 1 1=some [.bool true]:=rg
   repeat(first|refine ai rg ?_|refine ai e0 ?_|refine ai e1 ?_|refine ai e2 ?_|refine ai e3 ?_|refine ai e4 ?_|refine ai e5 ?_|refine ai e6 ?_|refine ai e7 ?_|refine aj hD rfl ?_
          conv=>lhs;whnf)
   refine(hD _).2 fun ge B11 hN=> ?_
   have hN:C8.New B11 ge #[.string ⟨pth.toArray⟩,.slice ad dat.length cd,.int .i64 i0,.int .i64 i1,.int .i64 i2,.int .i64 i3,.int .i64 i4,.int .i64 i5,.int .i64 i6,.int .i64 i7,.int .i64 dat.length,.int .i64 0] 94:=hN;have hrow11:=hrowx.ck (aB.qv hN.sub r) hr4;have hdat11:=wo hdatx (aB.qv hN.sub r) hr4;have hap:=hrow11.row.app;obtain⟨base',hvb,hbase,hG,hcont⟩:=hap
   have eb:base=base':=by
    injection hvb with eb _ _
    exact fO eb
   subst eb;have hPd:=hG 1 120 (by omega) (by show k+1≤1000000000;omega) (by omega);have hy11:B11.rd ge 0 (1*12)=some [.string ⟨pth.toArray⟩,.slice ad dat.length cd,.int .i64 i0,.int .i64 i1,.int .i64 i2,.int .i64 i3,.int .i64 i4,.int .i64 i5,.int .i64 i6,.int .i64 i7,.int .i64 dat.length,.int .i64 0]:=hN.rd (o:=0) (n:=1*12) (by show 0+1*12≤12;omega)
   have hlive11:∀j,B11.blk j=none→A4.blk j=none:=fun j hj=>by
    cases h4:A4.blk j with
    |none=>rfl
    |some o=>
     by_cases e:j=r
     ·obtain⟨o',ho⟩:=RC8.jM
      rw [e,hN.sub r o' ho]at hj;cases hj
     ·rw [hN.sub j o (hK4x j o h4 e)]at hj;cases hj
   rcases hbase with rfl|⟨gx,ox,rfl⟩<;>(conv=>lhs;whnf)
   all_goals
    repeat(first|refine aj hD rfl ?_
           conv=>lhs;whnf)
    refine(hD _).2 ⟨_, [.string ⟨pth.toArray⟩,.slice ad dat.length cd,.int .i64 i0,.int .i64 i1,.int .i64 i2,.int .i64 i3,.int .i64 i4,.int .i64 i5,.int .i64 i6,.int .i64 i7,.int .i64 dat.length,.int .i64 0],hPd.rd,hy11,rfl,fun v hv=>by
     simp only [List.mem_cons,List.not_mem_nil,or_false]at hv
     rcases hv with rfl|rfl|rfl|rfl|rfl|rfl|rfl|rfl|rfl|rfl|rfl|rfl<;>rfl,?_,hPd.cap,rfl,hPd.none_,fun g' o' he' hle' _=>hPd.room 12 rfl g' o' he' hle',fun v9 B12 hAp=> ?_⟩
    ·show k+1≤9223372036854775807
     omega
    ·have hc9:=hcont 1 [.string ⟨pth.toArray⟩,.slice ad dat.length cd,.int .i64 i0,.int .i64 i1,.int .i64 i2,.int .i64 i3,.int .i64 i4,.int .i64 i5,.int .i64 i6,.int .i64 i7,.int .i64 dat.length,.int .i64 0] v9 B12 rfl (by omega) hAp
     obtain⟨L9,q1,q2,q3,q4,q5, -⟩:=hc9;have hap9:=q3.app;obtain⟨b9,hb9, -⟩:=hap9;have hrow12:=dO.more (x:=((⟨⟨pth.toArray⟩,dat,⟨i0,i1,i2,i3,i4,i5,i6,i7,dat.length,0⟩⟩:aO),.slice ad dat.length cd)) hrow11 hdat11 hlive11 q3 q4 q5;obtain⟨vL,nL,cL,gL⟩:=L9;have q1:vL=v9:=q1;have q2:nL=k+1:=q2;have hb9:vL= .slice (cq b9) nL cL:=hb9;subst q2;subst hb9;subst q1;have hgr:∀j,g=some j→A4.blk j=none:=hrow11.new;have hK12:aB A4 B12 r:=fun j o hj hjr=>q5 j o (hN.sub j o (hK4x j o hj hjr)) fun e=>(by rw [hgr j e]at hj;cases hj)
     have hr12:B12.blk r=B11.blk r:=by
      obtain⟨o',ho⟩:=RC8.jM;rw [q5 r o' (hN.sub r o' ho) fun e=>hr4 (hgr r e),hN.sub r o' ho]
     have hBs:B.Sub B12:=fun j o hj=>q5 j o (hN.sub j o (RC8.jT j o hj)) fun e=>(by have h7:=hgr j e;rw [hR4.jT j o hj]at h7;cases h7)
     have R12:=(RC8.ck hN.sub).other hBs hr12
     have hGn:(xA A4 r B m t4 [(34,.v (.int .i64 m)),(7,.ptr 4 0),(6,.v (.pointer (some ⟨r,0,none⟩))),(2,.ptr 3 0)]).G ⟨k+1,B12,b9,cL,gL,xs++ [((⟨⟨pth.toArray⟩,dat,⟨i0,i1,i2,i3,i4,i5,i6,i7,dat.length,0⟩⟩:aO),.slice ad dat.length cd)]⟩:=by
      refine⟨hkm,hK12,?_,hrow12,?_⟩
      ·show RdG aH B B12 r (bh (k+1) t4).2
       rw [hnext,hnd];exact R12
      ·show List.map (fun(y:aO×Value)=>y.1) (xs++ [_])=(bh (k+1) t4).1
       rw [hnext,hnd,List.map_append,hxs];rfl
     conv=>lhs;whnf
     repeat(first|refine aj hD rfl ?_
            conv=>lhs;whnf)
     exact(hD _).2 ⟨(⟨k+1,B12,b9,cL,gL,_⟩:IhG),⟨hGn,⟨bf (by omega),rfl,rfl,rfl,rfl,trivial⟩,⟨rfl,trivial⟩,rfl⟩,by show m-(k+1)<m-k;omega,trivial,⟨dr rfl rfl,dr rfl rfl,dr rfl rfl,dr rfl rfl,trivial⟩⟩
  ·have hkm:k=m:=by
     have hlt:¬(k:Int)<(m:Int):=hlt;omega
   subst hkm
   have hxl:xs.length=k:=by
    have h:=qs t4 k;rw [←hxs,List.length_map]at h;exact h
   have hsh:oh xs:=fun y hy=>by
    have h:=mE t4 k y.1 (by rw [←hxs];exact List.mem_map.2 ⟨y,hy,rfl⟩);omega
   have hgJ:ja l=jZ (xs.map (·.1)) (bh k t4).2:=by rw [hgI,hgN,hxs]
   clear hgN hgNb hxs;generalize (bh k t4).2=t5 at*;conv=>lhs;whnf
   repeat(first|refine aj hD rfl ?_
          conv=>lhs;whnf)
   refine(hD _).2 ⟨((⟨r,t5,B⟩,200):RxG×Int),⟨rfl,hR5,by show bd t5≤_;omega,by show(0:Int)≤200;decide,by show(200:Int)≤_;decide⟩,fun v A6 hq=> ?_⟩;obtain⟨hv,k6,hR6⟩:v= .int .i64 (ah 200 t5).1∧aB A5 A6 r∧RdG aH B A6 r (ah 200 t5).2:=hq;have hn2:=ej (s:=t5) (show(0:Int)≤200 by decide);have hl6:=bU 200 t5;obtain⟨n2,hm2⟩:∃n2:Nat,(ah 200 t5).1=n2:=⟨(ah 200 t5).1.toNat,by omega⟩
   have hgS:ja l=mh (xs.map (·.1)) (bO n2 (ah 200 t5).2).1 (bO n2 (ah 200 t5).2).2:=by
    rw [hgJ];unfold jZ;rw [hm2,Int.toNat_natCast]
   have hgSb:∀j,(bO j (ah 200 t5).2).2=none→j≤n2→ja l=none:=fun j h1 h2=>by
    rw [hgJ];exact Ao _ h1 (by rw [hm2,Int.toNat_natCast];exact h2)
   rw [hm2]at hv hn2;clear hgJ hm2;generalize (ah 200 t5).2=t6 at*;subst hv;have hK46:aB A4 A6 r:=hK5.trans k6;have hrow6:=hrow.ck k6 hr4;have hA6:A.Sub A6:=k6.sub hA5 hr
   have hlive6:∀j,A6.blk j=none→A4.blk j=none:=fun j hj=>by
    cases h4:A4.blk j with
    |none=>rfl
    |some o=>
     by_cases e:j=r
     ·obtain⟨o',ho⟩:=hR6.jM
      rw [e,ho]at hj;cases hj
     ·rw [hK46 j o h4 e]at hj;cases hj
   obtain⟨or6,hor6⟩:=hR6.jM;have hr6:A6.blk r≠none:=by rw [hor6];simp
   conv=>lhs;whnf
   repeat(first|refine aj hD rfl ?_
          conv=>lhs;whnf)
   have hG1:(CV A6 r B n2 t6 (.slice (cq base) k c) [(82,.v (.int .i64 n2)),(7,.ptr 4 0),(6,.v (.pointer (some ⟨r,0,none⟩))),(2,.ptr 3 0)]).G ((0,A6,none,0):Nat×aa×(Option (Nat×Nat)×Nat)):=⟨Nat.zero_le _,aB.refl _ _,hR6,br.nil _ _ _ _⟩;refine(hD _).2 ⟨CV A6 r B n2 t6 (.slice (cq base) k c) [(82,.v (.int .i64 n2)),(7,.ptr 4 0),(6,.v (.pointer (some ⟨r,0,none⟩))),(2,.ptr 3 0)],⟨((0,A6,none,0):Nat×aa×(Option (Nat×Nat)×Nat)),hG1,⟨rfl,rfl,rfl,rfl,rfl,trivial⟩,⟨rfl,trivial⟩,rfl⟩,fun(s:Nat×aa×(Option (Nat×Nat)×Nat)) hG=>⟨⟨trivial,trivial,Nat.lt_succ_self 4,trivial,Nat.lt_succ_of_lt (Nat.lt_succ_self 3),trivial⟩,⟨Nat.lt_succ_self 4,⟨trivial,trivial,trivial,trivial,trivial,trivial,trivial⟩,trivial⟩,?_⟩⟩;clear hG1;obtain⟨j,A7,bs,cs⟩:=s;obtain⟨hj,hK7,hR7,hgrow⟩:j≤n2∧aB A6 A7 r∧RdG aH B A7 r (bO j t6).2∧br A6 A7 3 105 j (.slice (cq bs) j cs) ((bO j t6).1.flatMap cz):=hG;have hsl7:=oG t6 j;have hA7:A.Sub A7:=hK7.sub hA6 hr;conv=>lhs;whnf
   refine af (fun hlt2=> ?_) (fun hlt2=> ?_)
   ·have hjn:j<n2:=by
      have hlt2:(j:Int)<(n2:Int):=hlt2;omega
    have hnext:bO (j+1) t6=((bO j t6).1++ [(tF (bO j t6).2).1],(tF (bO j t6).2).2):=rfl;generalize (bO j t6).1=ss0 at*;generalize (bO j t6).2=u0 at*;have hnd:tF u0=(⟨pI 0 u0,pI 1 u0,pI 2 u0⟩,pIs 3 u0):=rfl;conv=>lhs;whnf
    repeat(first|refine aj hD rfl ?_
           conv=>lhs;whnf)
    refine(hD _).2 ⟨(⟨r,pIs 0 u0,B⟩:RxG),⟨rfl,hR7,by show bd (pIs 0 u0)≤_;have:=bX u0 0;omega⟩,fun v B1 hq=> ?_⟩;obtain⟨hv,j1,R1⟩:v= .int .i64 (pI 0 u0)∧aB A7 B1 r∧RdG aH B B1 r (pIs 1 u0):=hq;generalize pI 0 u0=i0 at*;subst hv;conv=>lhs;whnf
    repeat(first|refine aj hD rfl ?_
           conv=>lhs;whnf)
    refine(hD _).2 ⟨(⟨r,pIs 1 u0,B⟩:RxG),⟨rfl,R1,by show bd (pIs 1 u0)≤_;have:=bX u0 1;omega⟩,fun v B2 hq=> ?_⟩;obtain⟨hv,j2,R2⟩:v= .int .i64 (pI 1 u0)∧aB B1 B2 r∧RdG aH B B2 r (pIs 2 u0):=hq;generalize pI 1 u0=i1 at*;subst hv;conv=>lhs;whnf
    repeat(first|refine aj hD rfl ?_
           conv=>lhs;whnf)
    refine(hD _).2 ⟨(⟨r,pIs 2 u0,B⟩:RxG),⟨rfl,R2,by show bd (pIs 2 u0)≤_;have:=bX u0 2;omega⟩,fun v B3 hq=> ?_⟩;obtain⟨hv,j3,R3⟩:v= .int .i64 (pI 2 u0)∧aB B2 B3 r∧RdG aH B B3 r (pIs 3 u0):=hq;generalize pI 2 u0=i2 at*;subst hv;have hK73:aB A7 B3 r:=j1.trans (j2.trans j3);have hK63:aB A6 B3 r:=hK7.trans hK73;have hgrow3:=br.DX hgrow hK73 hr6;have hA3x:A.Sub B3:=hK63.sub hA6 hr;have R3':=R3;obtain⟨v10,htop10, -, -, -, -⟩:=R3';have rg:B3.rd r 1 1=some [.bool (aH (pIs 3 u0))]:=htop10.rd (o:=1) (n:=1) (by show 1+1≤2;omega);clear htop10 hgrow;conv=>lhs;whnf
    repeat(first|refine aj hD rfl ?_
           conv=>lhs;whnf)
    by_cases hst:pIs 3 u0=none
    ·rw [hst]at rg
     have rg:B3.rd r 1 1=some [.bool false]:=rg
     have hN0:ja l=none:=by
      refine hgSb (j+1) ?_ hjn;rw [hnext,hnd];exact hst
     repeat(first|refine ai rg ?_|refine aj hD rfl ?_
            conv=>lhs;whnf)
     have hend:=hbad B3 hA3x (hN0);conv=>lhs;whnf
     repeat(first|refine aj hD rfl ?_
            conv=>lhs;whnf)
     exact(hD _).2 hend
    have hsm:∃u2,pIs 3 u0=some u2:=Option.ne_none_iff_exists'.1 hst;obtain⟨u2,hst⟩:=hsm;rw [hst]at rg hnd R3;have rg:B3.rd r 1 1=some [.bool true]:=rg;have hf:=hgrow3.sJ;obtain⟨bs',cs',hvb,hbase, -, -⟩:=hf;injection hvb with e1 e2 e3
    have e1:=fO e1;subst e1;subst e3
    repeat(first|refine ai rg ?_|refine aj hD rfl ?_
           conv=>lhs;whnf)
    refine(hD _).2 fun ge B4 hN=> ?_
    have hN:B3.New B4 ge #[.int .i64 i0,.int .i64 i1,.int .i64 i2] 105:=hN;have hgrow4:=hgrow3.sub hN.sub;have hf9:=hgrow4.sJ;obtain⟨bs',cs',hvb, -,hP,hAp0⟩:=hf9;injection hvb with e1 e2 e3
    have e1:=fO e1;subst e1;subst e3
    have hPd:=hP 1 24 (by omega) (by omega);have hy4:B4.rd ge 0 (1*3)=some [.int .i64 i0,.int .i64 i1,.int .i64 i2]:=hN.rd (o:=0) (n:=1*3) (by show 0+1*3≤3;omega)
    have hlive4:∀q,B4.blk q=none→A6.blk q=none:=fun q hq=>by
     cases h4:A6.blk q with
     |none=>rfl
     |some o=>
      by_cases e:q=r
      ·obtain⟨o',ho⟩:=R3.jM
       rw [e,hN.sub r o' ho]at hq;cases hq
      ·rw [hN.sub q o (hK63 q o h4 e)]at hq;cases hq
    rcases hbase with rfl|⟨gx,rfl⟩<;>(conv=>lhs;whnf)
    all_goals
     repeat(first|refine aj hD rfl ?_
            conv=>lhs;whnf)
     refine(hD _).2 ⟨_, [.int .i64 i0,.int .i64 i1,.int .i64 i2],hPd.rd,hy4,rfl,fun v hv=>by
      simp only [List.mem_cons,List.not_mem_nil,or_false]at hv
      rcases hv with rfl|rfl|rfl<;>rfl,?_,hPd.cap,rfl,hPd.none_,fun g' o' he' hle' _=>hPd.room 3 rfl g' o' he' hle',fun v9 B5 hAp=> ?_⟩
     ·show j+1≤9223372036854775807
      omega
     ·have hc9:=hAp0 1 [.int .i64 i0,.int .i64 i1,.int .i64 i2] v9 B5 rfl hlive4 hAp
      obtain⟨hgrow5,hsame⟩:=hc9;have hf10:=hgrow5.sJ;obtain⟨b10,c10,hv10, -⟩:=hf10;subst hv10;have hr5:B5.blk r=B4.blk r:=hsame r or6 hor6
      have hB5:B.Sub B5:=fun q o hq=>by
       rw [hsame q o (hR6.jT q o hq)];exact hN.sub q o (R3.jT q o hq)
      have R5:=(R3.ck hN.sub).other hB5 hr5
      have hK65:aB A6 B5 r:=fun q o hq hqr=>by
       rw [hsame q o hq];exact hN.sub q o (hK63 q o hq hqr)
      have hgrow5:br A6 B5 3 105 (j+1) (.slice (cq b10) (j+1) c10) ((bO (j+1) t6).1.flatMap cz):=by
       rw [hnext,hnd];show br A6 B5 3 _ (j+1) _ ((ss0++ [(⟨i0,i1,i2⟩:bn)]).flatMap cz)
       have e:(ss0++ [(⟨i0,i1,i2⟩:bn)]).flatMap cz=ss0.flatMap cz++ [.int .i64 i0,.int .i64 i1,.int .i64 i2]:=by
        rw [List.flatMap_append];rfl
       rw [e];exact hgrow5
      have R5:RdG aH B B5 r (bO (j+1) t6).2:=by rw [hnext,hnd];exact R5
      conv=>lhs;whnf
      repeat(first|refine aj hD rfl ?_
             conv=>lhs;whnf)
      exact(hD _).2 ⟨((j+1,B5,b10,c10):Nat×aa×(Option (Nat×Nat)×Nat)),⟨⟨hjn,hK65,R5,hgrow5⟩,⟨bf (by omega),rfl,rfl,rfl,rfl,trivial⟩,⟨rfl,trivial⟩,rfl⟩,by show n2-(j+1)<n2-j;omega,trivial,⟨dr rfl rfl,dr rfl rfl,dr rfl rfl,dr rfl rfl,trivial⟩⟩
   ·have hjn:j=n2:=by
      have hlt2:¬(j:Int)<(n2:Int):=hlt2;omega
    subst hjn;clear hgSb;have hssl:(bO j t6).1.length=j:=sj t6 j;generalize (bO j t6).1=ss at*;generalize (bO j t6).2=t7 at*;conv=>lhs;whnf
    repeat(first|refine aj hD rfl ?_
           conv=>lhs;whnf)
    refine(hD _).2 ⟨((⟨r,t7,B⟩,1048576):RxG×Int),⟨rfl,hR7,by show bd t7≤_;omega,by show(0:Int)≤1048576;decide,by show(1048576:Int)≤_;decide⟩,fun v A8 hq=> ?_⟩;obtain⟨hdat,k8,hR8⟩:SlB (A8.minus A7) v (aZ 1048576 t7).1∧aB A7 A8 r∧RdG aH B A8 r (aZ 1048576 t7).2:=hq;have hs8:=(gG 1048576 t7).1;have hdl:=kn (most:=1048576) (by decide) t7;obtain⟨ad,cd,hvf⟩:=hdat.1.form
    have hgT1:nS (aZ 1048576 t7).1=none→ja l=none:=fun h=>by
     rw [hgS];unfold mh;rw [h]
    have hgT2:∀ver ms,nS (aZ 1048576 t7).1=some (ver,ms)→ja l=if pIs 2 (aZ 1048576 t7).2=some []∧fP (xs.map (·.1)) ss ver ms (pI 0 (aZ 1048576 t7).2) (pI 1 (aZ 1048576 t7).2)then some (xs.map (·.1),ss,ver,ms,pI 0 (aZ 1048576 t7).2,pI 1 (aZ 1048576 t7).2)else none:=fun ver ms h=>by
     rw [hgS];unfold mh;rw [h]
    clear hgS;generalize (aZ 1048576 t7).1=cf at*;generalize (aZ 1048576 t7).2=t8 at*;subst hvf;conv=>lhs;whnf
    repeat(first|refine aj hD rfl ?_
           conv=>lhs;whnf)
    refine(hD _).2 ⟨cf,⟨_,rfl,hdat.sub (bk _ _),by omega⟩,fun v A9 hq=> ?_⟩;obtain⟨s9,hno9,hok9⟩:A8.Sub A9∧(nS cf=none→v= .tuple #[.agg #[.int .i64 0,.slice none 0 0],.int .i64 4])∧∀ver ms,nS cf=some (ver,ms)→∃x,v= .tuple #[.agg #[.int .i64 ver,x],.int .i64 0]∧gq (A9.minus A8) x ms:=hq;have hA8:A.Sub A8:=k8.sub hA7 hr;have hR9:=hR8.ck s9
    by_cases hge:nS cf=none
    ·have hv:=hno9 hge
     subst hv;have hN0:=hgT1 hge;conv=>lhs;whnf
     repeat(first|refine aj hD rfl ?_
            conv=>lhs;whnf)
     refine(hD _).2 ⟨(⟨r,t8,B⟩:RxG),⟨rfl,hR9,by show bd t8≤_;omega⟩,fun v A10 hq=> ?_⟩;obtain⟨hv,k10,hR10⟩:v= .int .i64 (pI 0 t8)∧aB A9 A10 r∧RdG aH B A10 r (pIs 1 t8):=hq;generalize pI 0 t8=fr at*;subst hv;conv=>lhs;whnf
     repeat(first|refine aj hD rfl ?_
            conv=>lhs;whnf)
     refine(hD _).2 ⟨(⟨r,pIs 1 t8,B⟩:RxG),⟨rfl,hR10,by show bd (pIs 1 t8)≤_;have:=bX t8 1;omega⟩,fun v A11 hq=> ?_⟩;obtain⟨hv,k11,hR11⟩:v= .int .i64 (pI 1 t8)∧aB A10 A11 r∧RdG aH B A11 r (pIs 2 t8):=hq;generalize pI 1 t8=to at*;subst hv;have hA11:A.Sub A11:=k11.sub (k10.sub (hA8.trans s9) hr) hr;conv=>lhs;whnf
     repeat(first|refine aj hD rfl ?_
            conv=>lhs;whnf)
     have hend:=hbad A11 hA11 (hN0);conv=>lhs;whnf
     repeat(first|refine aj hD rfl ?_
            conv=>lhs;whnf)
     exact(hD _).2 hend
    ·have hx:=Option.ne_none_iff_exists'.1 hge
     obtain⟨⟨ver,ms⟩,hge⟩:=hx;have hx:=hok9 ver ms hge;obtain⟨vm,hv,hvm⟩:=hx;have hgT:=hgT2 ver ms hge;clear hgT1 hgT2 hno9 hok9;have hx:=hvm.1.form;obtain⟨am,cm,hf⟩:=hx;subst hf;subst hv;conv=>lhs;whnf
     repeat(first|refine aj hD rfl ?_
            conv=>lhs;whnf)
     refine(hD _).2 ⟨(⟨r,t8,B⟩:RxG),⟨rfl,hR9,by show bd t8≤_;omega⟩,fun v A10 hq=> ?_⟩;obtain⟨hv,k10,hR10⟩:v= .int .i64 (pI 0 t8)∧aB A9 A10 r∧RdG aH B A10 r (pIs 1 t8):=hq;generalize pI 0 t8=fr at*;subst hv;conv=>lhs;whnf
     repeat(first|refine aj hD rfl ?_
            conv=>lhs;whnf)
     refine(hD _).2 ⟨(⟨r,pIs 1 t8,B⟩:RxG),⟨rfl,hR10,by show bd (pIs 1 t8)≤_;have:=bX t8 1;omega⟩,fun v A11 hq=> ?_⟩;obtain⟨hv,k11,hR11⟩:v= .int .i64 (pI 1 t8)∧aB A10 A11 r∧RdG aH B A11 r (pIs 2 t8):=hq;generalize pI 1 t8=to at*;subst hv;have hA11:A.Sub A11:=k11.sub (k10.sub (hA8.trans s9) hr) hr;have hK71:aB A7 A11 r:=(k8.trans (aB.qv s9 r)).trans (k10.trans k11);have hK61:aB A6 A11 r:=hK7.trans hK71;have hrow11:=hrow6.ck hK61 hr4;have hgrow11:=br.DX hgrow hK71 hr6;have hnewA4:∀q,A4.blk q=none→A.blk q=none:=fun q hq=>gA hA4 hq
     have hND:eL (A11.minus A) (.slice (cq base) k c) xs:=hrow11.nodes hnewA4;have hSS:SlS (A11.minus A) (.slice (cq bs) j cs) ss:=⟨by rw [hssl];exact br.slM hgrow11 fun q hq=>gA hA6 hq,by rw [hssl];omega⟩
     have hMM:gq (A11.minus A) (.slice am ms.length cm) ms:=hvm.sub fun q o hq=>by
      obtain⟨h1,h2⟩:=cj hq;refine ku (gA hA8 h1) ?_
      have hqr:q≠r:=fun e=>by
       obtain⟨o',ho⟩:=hR8.jM;rw [e,ho]at h1;cases h1
      exact k11 q o (k10 q o h2 hqr) hqr
     conv=>lhs;whnf
     repeat(first|refine aj hD rfl ?_
            conv=>lhs;whnf)
     obtain⟨v11,htop,hDs,hDr,hSl11,hnil11⟩:=hR11;have r1:A11.rd r 1 1=some [.bool (aH (pIs 2 t8))]:=htop.rd (o:=1) (n:=1) (by show 1+1≤2;omega)
     by_cases hst:pIs 2 t8=none
     ·rw [hst]at r1
      have r1:A11.rd r 1 1=some [.bool false]:=r1
      have hN0:ja l=none:=by
       rw [hgT,if_neg]
       rintro⟨h,_⟩
       rw [hst]at h;cases h
      repeat(first|refine ai r1 ?_|refine aj hD rfl ?_
             conv=>lhs;whnf)
      have hend:=hbad A11 hA11 (hN0);conv=>lhs;whnf
      repeat(first|refine aj hD rfl ?_
             conv=>lhs;whnf)
      exact(hD _).2 hend
     have hsm:∃u2,pIs 2 t8=some u2:=Option.ne_none_iff_exists'.1 hst;obtain⟨l4,hst⟩:=hsm;rw [hst]at r1 htop hSl11 hgT;have hSl11:Sl B 1 l4.length v11 (l4.map bv):=hSl11;have hx:=hSl11.form;obtain⟨a4,c4,hf4⟩:=hx;subst hf4;have r1:A11.rd r 1 1=some [.bool true]:=r1;have r0:A11.rd r 0 1=some [.slice a4 l4.length c4]:=htop.rd (o:=0) (n:=1) (by show 0+1≤2;omega)
     have hln:l4.length=0∨∃q,l4.length=q+1:=by
      cases l4 with
      |nil=>exact .inl rfl
      |cons b0 l5=>exact .inr ⟨l5.length,rfl⟩
     rcases hln with hln|hln
     rotate_left
     ·obtain⟨q,hln⟩:=hln
      rw [hln]at r0
      have hN0:ja l=none:=by
       rw [hgT,if_neg]
       rintro⟨h,_⟩
       injection h with h
       rw [h]at hln
       cases hln
      repeat(first|refine ai r1 ?_|refine ai r0 ?_|refine aj hD rfl ?_
             conv=>lhs;whnf)
      have hend:=hbad A11 hA11 (hN0);conv=>lhs;whnf
      repeat(first|refine aj hD rfl ?_
             conv=>lhs;whnf)
      exact(hD _).2 hend
     have hl40:l4= []:=List.length_eq_zero_iff.1 hln;subst hl40;have r0:A11.rd r 0 1=some [.slice a4 0 c4]:=r0
     repeat(first|refine ai r1 ?_|refine ai r0 ?_|refine aj hD rfl ?_
            conv=>lhs;whnf)
     refine(hD _).2 ⟨(⟨xs,ss,ver,ms,fr,to⟩:ji),⟨_,_,_,rfl,⟨hND.1.sub (bk _ _),fun x hx=>(hND.2 x hx).sub (bk _ _)⟩,⟨hSS.1.sub (bk _ _),hSS.2⟩,hMM.sub (bk _ _),by show xs.length≤_;omega,hsh⟩,fun v A12 hq=> ?_⟩;have hq:A12=A11∧v= .bool (decide (ji.mk xs ss ver ms fr to).ok):=hq;have h9:=hq.1.symm;have hv:=hq.2;subst h9
     by_cases hok:fP (xs.map (·.1)) ss ver ms fr to
     ·have hv:v= .bool true:=hv.trans (zC (g:=⟨xs,ss,ver,ms,fr,to⟩) hok).symm
      subst hv
      have hend:zE.post l [] A (.tuple #[.slice (cq base) k c,.slice (cq bs) j cs,.agg #[.int .i64 ver,.slice am ms.length cm],.int .i64 fr,.int .i64 to,.int .i64 0]) A11:=by
       refine⟨hA11,fun h=> ?_,fun ns' ss' ver' ms' f' t' h=> ?_⟩
       ·rw [hgT,if_pos ⟨rfl,hok⟩]at h;cases h
       ·rw [hgT,if_pos ⟨rfl,hok⟩]at h
        injection h with h
        injection h with h1 h
        injection h with h2 h
        injection h with h3 h
        injection h with h4 h
        injection h with h5 h6
        subst h1;subst h2;subst h3;subst h4;subst h5;subst h6
        exact⟨xs,_,_,_,rfl,rfl,hND,hSS,hMM⟩
      conv=>lhs;whnf
      repeat(first|refine aj hD rfl ?_
             conv=>lhs;whnf)
      exact(hD _).2 hend
     ·have hv:v= .bool false:=hv.trans (D1 (g:=⟨xs,ss,ver,ms,fr,to⟩) hok).symm
      subst hv
      have hN0:ja l=none:=by
       rw [hgT,if_neg]
       rintro⟨_,h⟩
       exact hok h
      conv=>lhs;whnf
      repeat(first|refine aj hD rfl ?_
             conv=>lhs;whnf)
      have hend:=hbad A11 hA11 (hN0);conv=>lhs;whnf
      repeat(first|refine aj hD rfl ?_
             conv=>lhs;whnf)
      exact(hD _).2 hend
end
end Go.Proofs.YtmmlhdiejkknnaaGreatDoor
