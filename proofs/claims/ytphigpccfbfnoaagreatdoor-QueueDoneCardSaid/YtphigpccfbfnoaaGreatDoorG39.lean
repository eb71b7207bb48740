/-
  Parts of the proof: ApK TrJa TrK ApL
-/
import Derived.Test.YtphigpccfbfnoaaGreatDoorG38
import Derived.Test.YtphigpccfbfnoaaGreatDoorG32
import Derived.Test.YtphigpccfbfnoaaGreatDoorG30
import Derived.Test.YtphigpccfbfnoaaGreatDoorG37
set_option maxRecDepth 100000
set_option maxHeartbeats 0
namespace Go.Proofs.YtphigpccfbfnoaaGreatDoor
open Go.Sx Go.RowKit
noncomputable section
open Classical
structure RdG where
 t:Option Nat
 N:Option (List aC)
 kind:Int
 d:aB
 S:aa
def Ej(A A':aa)(r:ek)(v:Value):Prop:=A.Sub A'∧∃cs:List Value,v= .agg cs.toArray∧tZ A' r cs
theorem lL{A A':aa}{r:ek}{v:Value}(hs:A.Sub A')(hm:r.mem= [])(hp:r.parts= [])(hv:v= .agg (r.cells nlS nlS).toArray):Ej A A' r v:=
 ⟨hs,_,hv,_,_,rfl,by rw [hm];exact⟨Sl.nil _ _,by simp⟩,by rw [hp];exact Sl.nil _ _,by rw [hp];exact Nat.zero_le _⟩
def fS:aL:=⟨RdG,fun g vs A=>∃cs,vs= [mT g.t,.int .u8 g.kind,bx cs]∧wW A g.t g.N∧bj g.S g.d cs∧g.S.Sub A∧g.d.parts.length≤1000000,
 fun g _ A v A'=>Ej A A' (cO (cD g.N) g.kind g.d) v⟩
def rdnInv(A1:aa)(N:Option (List aC))(xid zxid:Int)(parts:List aB):dE:=
 { γ:=DgL,G:=fun s=>s.k≤parts.length∧A1.Sub s.A∧bq A1 s.A 22 46 s.k s.v (((parts.take s.k).map fun p:aB=>cN (cD N) p.h).flatMap dj.cells),
   keepS:= [0,5,6,7],keepB:= [0,1],sl:=fun s=> [(8,.v (.int .i64 s.k))],
   bl:=fun s=> [(2,.cells [.v (.int .u8 11),.v (.int .i64 xid),.v (.int .i64 zxid),.v (.int .i64 0),.v (.int .i64 0),.v (.int .i64 0),.v (.string ⟨#[]⟩),.v nlS,.v (.int .i64 0),.v (.int .i64 0),.v (.int .i64 0),.v (.int .i64 0),.v (.int .i64 0),.v (.int .i64 0),.v (.int .i64 0),.v (.int .i64 0),.v (.int .i64 0),.v (.int .i64 0),.v nlS,.v (.int .i64 0),.v nlS,.v s.v] 0 (46+1))],
   ar:=fun s=>s.A,mu:=fun s=>parts.length-s.k }
theorem wW.more{A A':aa}{t:Option Nat}{N:Option (List aC)}(h:wW A t N)(hs:A.Sub A'):wW A' t N:=by
 rcases h with h|⟨r,N',B,O,S,h1,h2,h3,h4⟩
 ·exact .inl h
 ·exact .inr ⟨r,N',B,O,S,h1,h2,h3.more hs,h4⟩
theorem zE:FOk Tryz.prog 12 fS:=by
 refine aS mixed fun⟨t,N,kind,⟨⟨zxid,dk,ses,ah,xid,dtime,path,data,owner,ver,cver,tmo,err,cfg,mem⟩,parts⟩,S⟩ vs A hp=> ?_
 obtain⟨cs,rfl,hT,hR,hS,hpl⟩:∃cs,vs= [mT t,.int .u8 kind,bx cs]∧wW A t N∧bj S (.mk ⟨zxid,dk,ses,ah,xid,dtime,path,data,owner,ver,cver,tmo,err,cfg,mem⟩ parts) cs∧S.Sub A∧parts.length≤1000000:=hp;rw [bj]at hR;dsimp only [bJ.cells]at hR;obtain⟨vd,vm,vp,rws,rfl,hpl9,hd1,hMm,hSp,hlen2,hRows⟩:=hR;obtain⟨a7,k7,rfl⟩:=hd1.1.form;obtain⟨⟨a14,k14,rfl,hc4,hl4,hm1,hm2,hm3⟩,hml⟩:=hMm;obtain⟨a15,k15,rfl,hc5, -,h51,h52,h53⟩:=hSp
 have hC:aF Tryz.prog (bu [aE 41 vu,aE 42 oU] noC):=az (aj _) (fun x hx=>by
  simp only [List.mem_cons,List.not_mem_nil,or_false]at hx;rcases hx with rfl|rfl
  ·exact ai xz
  ·exact ai EI)
 refine⟨_,da Tryz.prog _ noL 60 [(12,1)],60,hC,aH mixed hC (ak _) _ _,fun blk os' out tape D hD=> ?_⟩
 by_cases h9:dk=9
 ·subst h9
  have hend:fS.post ((⟨t,N,kind,.mk ⟨zxid,9,ses,ah,xid,dtime,path,data,owner,ver,cver,tmo,err,cfg,mem⟩ parts,S⟩:RdG)) [] A (.agg (ek.cells ⟨kind,xid,zxid,err,0,0,⟨#[]⟩,st0,0, [], []⟩ nlS nlS).toArray) A:=lL (aa.Sub.refl _) rfl rfl rfl;conv=>lhs;whnf
  repeat(first|refine au hD rfl ?_
         conv=>lhs;whnf)
  exact(hD _).2 hend
 by_cases hk1:kind=1∧dk=4
 ·obtain⟨rfl,rfl⟩:=hk1
  have hend:fS.post ((⟨t,N,1,.mk ⟨zxid,4,ses,ah,xid,dtime,path,data,owner,ver,cver,tmo,err,cfg,mem⟩ parts,S⟩:RdG)) [] A (.agg (ek.cells ⟨1,xid,zxid,0,zxid,tmo,⟨#[]⟩,st0,0, [], []⟩ nlS nlS).toArray) A:=lL (aa.Sub.refl _) rfl rfl rfl;conv=>lhs;whnf
  repeat(first|refine au hD rfl ?_
         conv=>lhs;whnf)
  exact(hD _).2 hend
 by_cases hk3:kind=3∧dk=1
 ·obtain⟨rfl,rfl⟩:=hk3
  obtain⟨⟨z1,z2,z3,z4,z5,z6,z7,z8,z9,z10⟩,hs⟩:∃s,cD N path=s:=⟨_,rfl⟩
  have hend:∀A2,A.Sub A2→fS.post ((⟨t,N,3,.mk ⟨zxid,1,ses,ah,xid,dtime,path,data,owner,ver,cver,tmo,err,cfg,mem⟩ parts,S⟩:RdG)) [] A (.agg (ek.cells ⟨3,xid,zxid,0,0,0,path,⟨z1,z2,z3,z4,z5,z6,z7,z8,z9,z10⟩,0, [], []⟩ nlS nlS).toArray) A2:=fun A2 h=>by
   rw [←hs];exact lL h rfl rfl rfl
  conv=>lhs;whnf
  repeat(first|refine au hD rfl ?_
         conv=>lhs;whnf)
  refine(hD _).2 ⟨(t,N,path),⟨rfl,hT⟩,fun v A2 hq=> ?_⟩;obtain⟨s2,hv⟩:A.Sub A2∧v= .agg (cD N path).cells.toArray:=hq;rw [hs]at hv;subst hv;conv=>lhs;whnf
  repeat(first|refine au hD rfl ?_
         conv=>lhs;whnf)
  exact(hD _).2 (hend A2 s2)
 by_cases hk5:kind=5∧dk=3
 ·obtain⟨rfl,rfl⟩:=hk5
  obtain⟨⟨z1,z2,z3,z4,z5,z6,z7,z8,z9,z10⟩,hs⟩:∃s,cD N path=s:=⟨_,rfl⟩
  have hend:∀A2,A.Sub A2→fS.post ((⟨t,N,5,.mk ⟨zxid,3,ses,ah,xid,dtime,path,data,owner,ver,cver,tmo,err,cfg,mem⟩ parts,S⟩:RdG)) [] A (.agg (ek.cells ⟨5,xid,zxid,0,0,0,⟨#[]⟩,⟨z1,z2,z3,z4,z5,z6,z7,z8,z9,z10⟩,0, [], []⟩ nlS nlS).toArray) A2:=fun A2 h=>by
   rw [←hs];exact lL h rfl rfl rfl
  conv=>lhs;whnf
  repeat(first|refine au hD rfl ?_
         conv=>lhs;whnf)
  refine(hD _).2 ⟨(t,N,path),⟨rfl,hT⟩,fun v A2 hq=> ?_⟩;obtain⟨s2,hv⟩:A.Sub A2∧v= .agg (cD N path).cells.toArray:=hq;rw [hs]at hv;subst hv;conv=>lhs;whnf
  repeat(first|refine au hD rfl ?_
         conv=>lhs;whnf)
  exact(hD _).2 (hend A2 s2)
 by_cases hk12:kind=12∧dk=7
 ·obtain⟨rfl,rfl⟩:=hk12
  have hsp:∀g o sp,a14=some ⟨g,o,some sp⟩→mem.length=0:=fun g o sp e=>by
   rcases Nat.eq_zero_or_pos k14 with h|h
   ·omega
   ·have:=hm2 _ e h
    cases this
  have hrd4:∀A1,A.Sub A1→∀g o,a14=some ⟨g,o,none⟩→(if mem.length=0 then some []else A1.rd g o (mem.length*4))=some (bD mem):=fun A1 h g o e=>by
   by_cases h0:mem.length=0
   ·rw [if_pos h0,List.length_eq_zero_iff.1 h0];rfl
   ·rw [if_neg h0]
    exact aJ (hS.trans h) (hm3 (by omega) _ e)
  have hfin:∀A1 v A2 (base:Option (Nat×Nat)),A.Sub A1→dC A1 base 0 0 4 97 [] (bD mem) mem.length v A2→fS.post ((⟨t,N,12,.mk ⟨zxid,7,ses,ah,xid,dtime,path,data,owner,ver,cver,tmo,err,cfg,mem⟩ parts,S⟩:RdG)) [] A (.agg (ek.cells ⟨12,xid,zxid,0,0,0,⟨#[]⟩,st0,cfg,mem, []⟩ v nlS).toArray) A2∧∃b c,v= .slice (aD b) mem.length c:=fun A1 v A2 base h1 ha=>by
   obtain⟨q1,q2⟩:=er h1 ha hl4;obtain⟨L,e1,e2,e3, -⟩:=yT h1 ha hl4;refine⟨⟨q1,_,rfl,_,_,rfl,⟨?_,hml⟩,Sl.nil _ _,Nat.zero_le _⟩,?_⟩
   ·have:=e3.sl
    rw [e1,e2]at this;exact this
   ·obtain⟨b,hb, -⟩:=e3.app
    rw [e1,e2]at hb;exact⟨b,_,hb⟩
  rcases a14 with _|⟨g4,o4,_|sp⟩<;>(conv=>lhs;whnf)
  all_goals
   repeat(first|refine au hD rfl ?_
          conv=>lhs;whnf)
   refine(hD _).2 fun g1 A1 hN=> ?_
   have s1:A.Sub A1:=hN.sub;conv=>lhs;whnf
   repeat(first|refine au hD rfl ?_
          conv=>lhs;whnf)
   refine(hD _).2 ⟨[],bD mem,rfl,?_,hl4,nW mem,by omega,?_,rfl,fun h=>(by cases h),fun _ _ _ h1 h2=> ?_,fun v A2 hA=> ?_⟩
   ·first
    |exact hrd4 A1 s1 _ _ rfl
    |(have h0:mem.length=0:=hsp _ _ _ rfl
      show(if mem.length=0 then some []else none)=_
      rw [if_pos h0,List.length_eq_zero_iff.1 h0];rfl)
    |(have h0:k14=0:=hm1 rfl
      have h1:mem.length=0:=by omega
      show(if mem.length=0 then some []else none)=_
      rw [if_pos h1,List.length_eq_zero_iff.1 h1];rfl)
   ·intro h0
    rw [ft h0];show mem.length*32≤_
    omega
   ·exfalso
    have:mem.length=0:=by omega
    exact h2 (by rw [List.length_eq_zero_iff.1 this];rfl)
   ·obtain⟨hend,b9,c9,hv9⟩:=hfin A1 v A2 _ s1 hA
    subst hv9;conv=>lhs;whnf
    repeat(first|refine au hD rfl ?_
           conv=>lhs;whnf)
    exact(hD _).2 hend
 by_cases hk11:kind=11∧dk=8
 ·obtain⟨rfl,rfl⟩:=hk11
  conv=>lhs;whnf
  repeat(first|refine au hD rfl ?_
         conv=>lhs;whnf)
  refine(hD _).2 ⟨rdnInv A N xid zxid parts,⟨(⟨0,A,nlS⟩:DgL),⟨Nat.zero_le _,aa.Sub.refl _,bq.nil _ _ _ _⟩,⟨rfl,trivial⟩,⟨rfl,trivial⟩,rfl⟩,fun(s:DgL) hG=>⟨⟨trivial,trivial⟩,⟨Nat.lt_succ_self 2,⟨trivial,trivial,trivial,trivial,trivial,trivial,trivial,trivial,trivial,trivial,trivial,trivial,trivial,trivial,trivial,trivial,trivial,trivial,trivial,trivial,trivial,trivial,trivial⟩,trivial⟩,?_⟩⟩;obtain⟨k,Ak,vk⟩:=s;obtain⟨hk,hsk,hGk⟩:k≤parts.length∧A.Sub Ak∧bq A Ak 22 46 k vk (((parts.take k).map fun p:aB=>cN (cD N) p.h).flatMap dj.cells):=hG;obtain⟨base,ck,hvk,hbase, -⟩:=hGk.form;subst hvk;conv=>lhs;whnf
  refine ab (fun hlt=> ?_) (fun hlt=> ?_);rotate_left
  ·have hke:k=parts.length:=by
     have hlt:¬((k:Int)<(parts.length:Int)):=hlt;omega
   subst hke;rw [List.take_length]at hGk
   have hend:fS.post ((⟨t,N,11,.mk ⟨zxid,8,ses,ah,xid,dtime,path,data,owner,ver,cver,tmo,err,cfg,mem⟩ parts,S⟩:RdG)) [] A (.agg (ek.cells ⟨11,xid,zxid,0,0,0,⟨#[]⟩,st0,0, [],parts.map fun p:aB=>cN (cD N) p.h⟩ nlS (.slice (aD base) parts.length ck)).toArray) Ak:=⟨hsk,_,rfl,_,_,rfl,⟨Sl.nil _ _,by show 0*32≤_;omega⟩,by
    have h9:=hGk.sl;show Sl Ak 22 (parts.map fun p:aB=>cN (cD N) p.h).length _ _
    rw [List.length_map];exact h9,by
    show(parts.map fun p:aB=>cN (cD N) p.h).length≤1000000
    rw [List.length_map]
    exact hpl⟩
   conv=>lhs;whnf
   repeat(first|refine au hD rfl ?_
          conv=>lhs;whnf)
   exact(hD _).2 hend
  have hlt:(k:Int)<(parts.length:Int):=hlt;have hkl:k<parts.length:=by omega
  have k0:(0:Int)≤(k:Int)∧(k:Int)<(parts.length:Int):=by omega
  obtain⟨g5,o5,rfl,hr5⟩:=Sl.at_ hc5 h51 h52 h53 (by omega);obtain⟨ck5,hck5,hdk5⟩:=fD hr5 hRows k hkl rfl;obtain⟨pd,hpk⟩:∃pd,parts[k]=pd:=⟨_,rfl⟩;rw [hpk]at hdk5;obtain⟨a17,l17,k17,a18,l18,k18,a19,l19,k19,hcf⟩:=hdk5.form;subst hcf;have r5:=aJ (hS.trans hsk) hck5;have hTk:=hT.more hsk;obtain⟨⟨pk,px,pp,⟨z1,z2,z3,z4,z5,z6,z7,z8,z9,z10⟩⟩,hs⟩:∃s,cN (cD N) pd.h=s:=⟨_,rfl⟩;conv=>lhs;whnf
  repeat(first|refine aq k0 ?_|refine af r5 ?_|refine au hD rfl ?_
         conv=>lhs;whnf)
  refine(hD _).2 ⟨(⟨t,N,pd.h⟩:RcG),⟨_,_,_,_,_,_,_,_,_,rfl,hTk⟩,fun v A2 hq=> ?_⟩;obtain⟨s2,hv⟩:Ak.Sub A2∧v= .agg (cN (cD N) pd.h).cells.toArray:=hq;rw [hs]at hv;subst hv;conv=>lhs;whnf
  repeat(first|refine aq k0 ?_|refine af r5 ?_|refine au hD rfl ?_
         conv=>lhs;whnf)
  refine(hD _).2 fun ge A8 hN8=> ?_
  have hN8:A2.New A8 ge (List.toArray [Value.int .u8 pk,.int .i64 px,.int .i64 0,.int .i64 0,.int .i64 0,.int .i64 0,.string pp,nlS,.int .i64 z1,.int .i64 z2,.int .i64 z3,.int .i64 z4,.int .i64 z5,.int .i64 z6,.int .i64 z7,.int .i64 z8,.int .i64 z9,.int .i64 z10,nlS,.int .i64 0,nlS,nlS]) 46:=hN8;have hG8:=(hGk.sub s2).sub hN8.sub;obtain⟨hPf,hAp9⟩:=hG8.fy;have hPd:=hPf 1 248 (by omega) (by omega)
  have hd7:∀j,A8.blk j=none→A.blk j=none:=fun j hj=>by
   cases h9:A.blk j with
   |none=>rfl
   |some o9=>
    rw [(hsk.trans (s2.trans hN8.sub)) j o9 h9]at hj
    cases hj
  have hrow9:A8.rd ge 0 (1*22)=some [Value.int .u8 pk,.int .i64 px,.int .i64 0,.int .i64 0,.int .i64 0,.int .i64 0,.string pp,nlS,.int .i64 z1,.int .i64 z2,.int .i64 z3,.int .i64 z4,.int .i64 z5,.int .i64 z6,.int .i64 z7,.int .i64 z8,.int .i64 z9,.int .i64 z10,nlS,.int .i64 0,nlS,nlS]:=hN8.rd (o:=0) (n:=1*22) (by show 0+1*22≤22;omega);have hrow9c:(cN (cD N) pd.h).cells= [Value.int .u8 pk,.int .i64 px,.int .i64 0,.int .i64 0,.int .i64 0,.int .i64 0,.string pp,nlS,.int .i64 z1,.int .i64 z2,.int .i64 z3,.int .i64 z4,.int .i64 z5,.int .i64 z6,.int .i64 z7,.int .i64 z8,.int .i64 z9,.int .i64 z10,nlS,.int .i64 0,nlS,nlS]:=by rw [hs];rfl
  rcases hbase with rfl|⟨gx,rfl⟩<;>(conv=>lhs;whnf)
  all_goals
   repeat(first|refine au hD rfl ?_
          conv=>lhs;whnf)
   refine(hD _).2 ⟨_, [Value.int .u8 pk,.int .i64 px,.int .i64 0,.int .i64 0,.int .i64 0,.int .i64 0,.string pp,nlS,.int .i64 z1,.int .i64 z2,.int .i64 z3,.int .i64 z4,.int .i64 z5,.int .i64 z6,.int .i64 z7,.int .i64 z8,.int .i64 z9,.int .i64 z10,nlS,.int .i64 0,nlS,nlS],hPd.rd,hrow9,rfl,fun v hv=>by
    simp only [List.mem_cons,List.not_mem_nil,or_false]at hv
    rcases hv with rfl|rfl|rfl|rfl|rfl|rfl|rfl|rfl|rfl|rfl|rfl|rfl|rfl|rfl|rfl|rfl|rfl|rfl|rfl|rfl|rfl|rfl<;>rfl,?_,hPd.cap,rfl,hPd.none_,fun g' o' he' hle' _=>hPd.room 22 rfl g' o' he' hle',fun v9 A7 hAp=> ?_⟩
   ·show k+1≤9223372036854775807
    omega
   ·obtain⟨hG7,hk7⟩:=hAp9 1 [Value.int .u8 pk,.int .i64 px,.int .i64 0,.int .i64 0,.int .i64 0,.int .i64 0,.string pp,nlS,.int .i64 z1,.int .i64 z2,.int .i64 z3,.int .i64 z4,.int .i64 z5,.int .i64 z6,.int .i64 z7,.int .i64 z8,.int .i64 z9,.int .i64 z10,nlS,.int .i64 0,nlS,nlS] v9 A7 rfl hd7 hAp
    obtain⟨b9,c9,hv9, -⟩:=hG7.form;subst hv9
    have hs7:A.Sub A7:=fun x o9 hx=>by
     rw [hk7 x o9 hx];exact(hsk.trans (s2.trans hN8.sub)) x o9 hx
    have hG7':bq A A7 22 46 (k+1) (.slice (aD b9) (k+1) c9) (((parts.take (k+1)).map fun p:aB=>cN (cD N) p.h).flatMap dj.cells):=by
     rw [List.take_succ_eq_append_getElem hkl,List.map_append,List.flatMap_append,hpk];rw [←hrow9c]at hG7;simpa using hG7
    conv=>lhs;whnf
    repeat(first|refine au hD rfl ?_
           conv=>lhs;whnf)
    exact(hD _).2 ⟨(⟨k+1,A7,.slice (aD b9) (k+1) c9⟩:DgL),⟨⟨hkl,hs7,hG7'⟩,⟨av (k:=k) (by omega),trivial⟩,⟨rfl,trivial⟩,rfl⟩,by show parts.length-(k+1)<parts.length-k;omega,⟨an rfl rfl,an rfl rfl,an rfl rfl,an rfl rfl,trivial⟩,⟨an rfl rfl,an rfl rfl,trivial⟩⟩
 have hdef:fS.post ((⟨t,N,kind,.mk ⟨zxid,dk,ses,ah,xid,dtime,path,data,owner,ver,cver,tmo,err,cfg,mem⟩ parts,S⟩:RdG)) [] A (.agg (ek.cells ⟨kind,xid,zxid,0,0,0,⟨#[]⟩,st0,0, [], []⟩ nlS nlS).toArray) A:=by
  have e:cO (cD N) kind (.mk ⟨zxid,dk,ses,ah,xid,dtime,path,data,owner,ver,cver,tmo,err,cfg,mem⟩ parts)=⟨kind,xid,zxid,0,0,0,⟨#[]⟩,st0,0, [], []⟩:=uR h9 hk1 hk3 hk5 hk12 hk11;show Ej A A (cO (cD N) kind (.mk ⟨zxid,dk,ses,ah,xid,dtime,path,data,owner,ver,cver,tmo,err,cfg,mem⟩ parts)) _
  rw [e];exact lL (aa.Sub.refl _) rfl rfl rfl
 by_cases e1:kind=1
 ·subst e1
  have n1:¬dk=4:=fun h=>hk1 ⟨rfl,h⟩
  conv=>lhs;whnf
  repeat(first|refine aI h9 ?_|refine aI n1 ?_|refine au hD rfl ?_
         conv=>lhs;whnf)
  exact(hD _).2 hdef
 by_cases e3:kind=3
 ·subst e3
  have n1:¬dk=1:=fun h=>hk3 ⟨rfl,h⟩
  conv=>lhs;whnf
  repeat(first|refine aI h9 ?_|refine aI n1 ?_|refine au hD rfl ?_
         conv=>lhs;whnf)
  exact(hD _).2 hdef
 by_cases e5:kind=5
 ·subst e5
  have n1:¬dk=3:=fun h=>hk5 ⟨rfl,h⟩
  conv=>lhs;whnf
  repeat(first|refine aI h9 ?_|refine aI n1 ?_|refine au hD rfl ?_
         conv=>lhs;whnf)
  exact(hD _).2 hdef
 by_cases e12:kind=12
 ·subst e12
  have n1:¬dk=7:=fun h=>hk12 ⟨rfl,h⟩
  conv=>lhs;whnf
  repeat(first|refine aI h9 ?_|refine aI n1 ?_|refine au hD rfl ?_
         conv=>lhs;whnf)
  exact(hD _).2 hdef
 by_cases e11:kind=11
 ·subst e11
  have n1:¬dk=8:=fun h=>hk11 ⟨rfl,h⟩
  conv=>lhs;whnf
  repeat(first|refine aI h9 ?_|refine aI n1 ?_|refine au hD rfl ?_
         conv=>lhs;whnf)
  exact(hD _).2 hdef
 conv=>lhs;whnf
 repeat(first|refine aI h9 ?_|refine aI e1 ?_|refine aI e3 ?_|refine aI e5 ?_|refine aI e12 ?_|refine aI e11 ?_|refine au hD rfl ?_
        conv=>lhs;whnf)
 exact(hD _).2 hdef
structure SeG where
 k:Nat
 A:aa
def seatInv(A2 B:aa)(O:Nat→Prop)(t m s:Nat)(ns:List (ByteArray×bn))(E:List (ByteArray×Nat×bn))(l:List bb):dE:=
 { γ:=SeG,G:=fun g=>g.k≤l.length∧di g.A B O t ⟨ns,cC (l.take g.k)⟩ m s E∧∀b,b≠s→g.A.blk b=A2.blk b,
   keepS:= [0,13,14],keepB:= [],sl:=fun g=> [(15,.v (.int .i64 g.k))],bl:=fun _=> [],ar:=fun g=>g.A,mu:=fun g=>l.length-g.k }
def EC:aL:=⟨TG×List bb×aa,fun g vs A=>∃x,vs= [.pointer (some ⟨g.1.t,0,none⟩),x]∧bz A g.1.B g.1.O g.1.t g.1.T∧SlS g.2.2 x g.2.1∧Aside A g.2.2 g.1.O,
 fun g _ A v A'=>v= .tuple #[]∧bf A g.1.B g.1.O g.1.t ⟨g.1.T.nodes,cC g.2.1⟩ A'⟩
theorem seat_ok:FOk Tryz.prog 47 EC:=by
 refine aS mixed fun⟨⟨T,B,O,t⟩,l,C⟩ vs A hp=> ?_
 obtain⟨x,rfl,⟨m,s,E,h⟩,⟨⟨ao,c,rfl,hc,_,ha1,ha2,ha3⟩,hll⟩,hAs⟩:∃x,vs= [.pointer (some ⟨t,0,none⟩),x]∧bz A B O t T∧SlS C x l∧Aside A C O:=hp;refine⟨noC,da Tryz.prog noC noL 60 [(47,0)],60,aj _,aH mixed (aj _) (ak _) _ _,fun blk os out tape D hD=> ?_⟩;have htop0:A.rd t 0 1=some [.map (some m)]:=h.top.rd (o:=0) (n:=1) (by show 0+1≤2;omega);conv=>lhs;whnf
 repeat(first|refine af htop0 ?_|refine au hD rfl ?_
        conv=>lhs;whnf)
 refine(hD _).2 fun s' A1 hs' hA1 hM1=> ?_
 have hs':A.blk s'=none:=hs';have hA1:∀k,k≠s'→A1.blk k=A.blk k:=hA1;obtain⟨ot,hot⟩:=h.live t h.own.1;have ts:t≠s':=fun e=>by rw [e,hs']at hot;cases hot
 have htop1:aG A1 t [.map (some m),.map (some s)]:=h.top.sub fun o ho=>by rw [hA1 t ts];exact ho
 conv=>lhs;whnf
 refine(hD _).2 ⟨htop1.room (o:=1) (n:=1) (by show 1+1≤2;omega),fun A2 hP2=> ?_⟩;have hP2:A1.Put A2 t 1 [.map (some s')]:=hP2;have htop2:aG A2 t [.map (some m),.map (some s')]:=htop1.put hP2 (by show 1+1≤2;omega);have hA2:∀k,k≠t→A2.blk k=A1.blk k:=hP2.other
 have live_ne:∀ {k:Nat},O k→k≠s':=fun {k} hk e=>by
  obtain⟨o,ho⟩:=h.live k hk;rw [e,hs']at ho;cases ho
 have hold:∀k,k≠t→k≠s'→A2.blk k=A.blk k:=fun k h1 h2=>by rw [hA2 k h1,hA1 k h2]
 have hBs:B.blk s'=none:=by
  cases hB:B.blk s' with
  |none=>rfl
  |some o=>have:=h.sub _ _ hB;rw [hs']at this;cases this
 have hR2:di A2 B (fun k=>O k∨k=s') t ⟨T.nodes,cC (l.take 0)⟩ m s' E:=
  { nodes:=h.nodes
    top:=htop2
    nmap:=h.nmap.sub fun o ho=>by rw [hold m (Ne.symm h.vg.1) (live_ne h.own.2.1)];exact ho
    smap:=hM1.sub fun o ho=>by rw [hA2 s' (Ne.symm ts)];exact ho
    cells:=fun e he=>(h.cells e he).mono (hold _ (h.ne.2 e he) (live_ne (h.own.2.2.2 e he))) (aa.Sub.refl _)
    keys:=h.keys
    ptrs:=h.ptrs
    skeys:=by simp [cC]
    sub:=fun k o hk=>by
     rw [hold k (fun e=>by subst e;rw [h.off _ h.own.1]at hk;cases hk) (fun e=>by subst e;rw [hBs]at hk;cases hk)];exact h.sub k o hk
    own:=⟨.inl h.own.1,.inl h.own.2.1,.inr rfl,fun e he=> .inl (h.own.2.2.2 e he)⟩
    off:=fun k hk=>by
     rcases hk with hk|rfl
     ·exact h.off k hk
     ·exact hBs
    live:=fun k hk=>by
     by_cases e:k=t
     ·subst e;exact htop2.dom
     ·rcases hk with hk|rfl
      ·rw [hold k e (live_ne hk)];exact h.live k hk
      ·rw [hA2 _ e]
       obtain⟨es,cl,h1,_⟩:=hM1;exact⟨_,h1⟩
    ne:=⟨live_ne h.own.2.1,h.ne.2⟩ }
 have hend:∀Ak,di Ak B (fun k=>O k∨k=s') t ⟨T.nodes,cC l⟩ m s' E→(∀b,b≠s'→Ak.blk b=A2.blk b)→EC.post (⟨T,B,O,t⟩,l,C) [.pointer (some ⟨t,0,none⟩),.slice ao l.length c] A (.tuple #[]) Ak:=fun Ak hR hk=>by
  refine⟨rfl,B,_,⟨m,s',E,hR⟩,fun k o hk' hO=> ?_,fun k hn=> ?_,fun k hO=> ?_,aa.Sub.refl _,fun k o hb=> .inl hb⟩
  ·have n1:k≠t:=fun e=>hO (e▸h.own.1)
   have n2:k≠s':=fun e=>by rw [e,hs']at hk';cases hk'
   rw [hk k n2,hold k n1 n2];exact hk'
  ·by_cases n2:k=s'
   ·rw [n2];exact hs'
   ·rw [hk k n2]at hn
    by_cases n1:k=t
    ·subst n1
     obtain⟨o,ho⟩:=htop2.dom;rw [ho]at hn;cases hn
    ·rw [hold k n1 n2]at hn;exact hn
  ·rcases hO with hO|rfl
   ·exact .inl hO
   ·exact .inr hs'
 conv=>lhs;whnf
 refine(hD _).2 ⟨seatInv A2 B (fun k=>O k∨k=s') t m s' T.nodes E l,⟨(⟨0,A2⟩:SeG),⟨Nat.zero_le _,hR2,fun _ _=>rfl⟩,⟨rfl,trivial⟩,trivial,rfl⟩,fun(sg:SeG) hG=>⟨⟨trivial,trivial⟩,trivial,?_⟩⟩;obtain⟨k,Ak⟩:=sg;obtain⟨hk,hR,hkeep⟩:k≤l.length∧di Ak B (fun k=>O k∨k=s') t ⟨T.nodes,cC (l.take k)⟩ m s' E∧∀b,b≠s'→Ak.blk b=A2.blk b:=hG;conv=>lhs;whnf
 refine ab (fun hlt=> ?_) (fun hlt=> ?_)<;>(conv=>lhs;whnf)
 ·have hlt:k<l.length:=by
    have hlt:(k:Int)<(l.length:Int):=hlt;omega
  obtain⟨g,o,rfl,hra⟩:=Sl.at_ hc ha1 ha2 ha3 (by omega);have hrow:=fQ (enc:=br) (fun _=>rfl) hra k hlt rfl
  have hCk:C.Sub Ak:=fun b o hb=>by
   have h1:=hAs.1 b o hb;have n2:b≠s':=fun e=>by rw [e,hs']at h1;cases h1
   rw [hkeep b n2,hold b (fun e=>hAs.2 b o hb (e▸h.own.1)) n2];exact h1
  have hrow:=aJ hCk hrow;obtain⟨⟨sa,sb,sc⟩,hsv⟩:∃x,x=l[k]:=⟨_,rfl⟩;rw [←hsv]at hrow;have hrow:Ak.rd g (o+k*3) 3=some [.int .i64 sa,.int .i64 sb,.int .i64 sc]:=hrow;have htk:l.take (k+1)=l.take k++ [⟨sa,sb,sc⟩]:=by rw [List.take_succ_eq_append_getElem hlt,←hsv]
  conv=>lhs;whnf
  refine fN (fun _ _=> ?_) (fun h=>by omega);conv=>lhs;whnf
  refine af hrow ?_;conv=>lhs;whnf
  have htopk:Ak.rd t 1 1=some [.map (some s')]:=hR.top.rd (o:=1) (n:=1) (by show 1+1≤2;omega);refine ab (fun h1=> ?_) (fun h1=> ?_)<;>(conv=>lhs;whnf)
  ·have hone:cC (l.take (k+1))=cH sa ⟨sa,sb,sc⟩ (cC (l.take k)):=by
     rw [htk,nD,fO,if_neg (by show ¬sa<1;omega)]
   repeat(first|refine af htopk ?_|refine au hD rfl ?_
          conv=>lhs;whnf)
   refine(hD _).2 ⟨_,hR.smap,dw eP sa _,fun A3 hm3 ho3=> ?_⟩;have hm3:bX A3 s' (Go.Sx.cA (.int .i64 sa) (eP ⟨sa,sb,sc⟩) (jh eP (cC (l.take k)))):=hm3;have ho3:∀b,b≠s'→A3.blk b=Ak.blk b:=ho3;rw [fw]at hm3;have hR3:=hR.sit ho3 hm3 (ei hR.skeys);conv=>lhs;whnf
   exact(hD _).2 ⟨(⟨k+1,A3⟩:SeG),⟨⟨by show k+1≤l.length;omega,by rw [hone];exact hR3,fun b hb=>(ho3 b hb).trans (hkeep b hb)⟩,⟨av (k:=k) (by omega),trivial⟩,trivial,rfl⟩,by show l.length-(k+1)<l.length-k;omega,⟨rfl,rfl,rfl,trivial⟩,trivial⟩
  ·have hone:cC (l.take (k+1))=cC (l.take k):=by
     rw [htk,nD,fO,if_pos (by show sa<1;omega)]
   exact(hD _).2 ⟨(⟨k+1,Ak⟩:SeG),⟨⟨by show k+1≤l.length;omega,by rw [hone];exact hR,hkeep⟩,⟨av (k:=k) (by omega),trivial⟩,trivial,rfl⟩,by show l.length-(k+1)<l.length-k;omega,⟨rfl,rfl,rfl,trivial⟩,trivial⟩
 ·have e:k=l.length:=by
    have hlt:¬(k:Int)<(l.length:Int):=hlt;omega
  subst e;rw [List.take_length]at hR;exact(hD _).2 (hend Ak hR hkeep)
abbrev strK(p:ByteArray):Value:= .string p
abbrev nodP(x:Nat×bn):Value:=gV x.1
structure CG where
 A:aa
 B:aa
 O:Nat→Prop
 sk:List (ByteArray×Nat×bn)
structure Cn(C W:aa)(i m t':Nat)(E:List (ByteArray×Nat×bn))(g:CG):Prop where
 walk:dG strK nodP C W g.A i m E g.sk
 tree:bz g.A g.B g.O t' ⟨bY g.sk, []⟩
 off:∀k,g.O k→C.blk k=none
 noti:¬g.O i
 bi:g.B.blk i=none
 fresh:∀k o,g.B.blk k=some o→C.blk k=none
def copyInv(C W:aa)(i m t':Nat)(E:List (ByteArray×Nat×bn)):dE:=
 { γ:=CG,G:=Cn C W i m t' E,keepS:= [0,3,14],keepB:= [],sl:=fun _=> [],bl:=fun _=> [],ar:=fun g=>g.A,mu:=fun g=>E.length-g.sk.length }
def Gq:aL:=⟨TG,fun g vs A=>vs= [.pointer (some ⟨g.t,0,none⟩)]∧bz A g.B g.O g.t g.T∧kC g.T∧g.T.aK.length≤1000000,
 fun g _ A v A'=>A.Sub A'∧∃t' B' O' E sk,v= .pointer (some ⟨t',0,none⟩)∧bz A' B' O' t' ⟨bY sk,cC (aU g.T)⟩∧(∀k,O' k→A.blk k=none)∧(∀k o,B'.blk k=some o→A.blk k=none)∧g.T.nodes=dv (·.2) E∧sk.Perm E⟩
theorem copy_ok:FOk Tryz.prog 14 Gq:=by
 refine sN mixed GO fun⟨T,B0,O0,t⟩ vs A hp=> ?_
 obtain⟨rfl,⟨m,s,E,h⟩,hok,hlen⟩:vs= [.pointer (some ⟨t,0,none⟩)]∧bz A B0 O0 t T∧kC T∧T.aK.length≤1000000:=hp
 have hCt:aF Tryz.prog (bu [aE 4 newS,aE 46 gQ,aE 48 lS,aE 47 EC] noC):=az (aj _) (fun x hx=>by
  simp only [List.mem_cons,List.not_mem_nil,or_false]at hx;rcases hx with rfl|rfl|rfl|rfl
  ·exact ai Fs
  ·exact ai jm
  ·exact ai qa
  ·exact ai seat_ok)
 refine⟨_,da Tryz.prog _ noL 60 [(14,0)],60,hCt,aH mixed hCt (ak _) _ _,fun blk os out tape D hD=> ?_⟩;have htop:A.rd t 0 1=some [.map (some m)]:=h.top.rd (o:=0) (n:=1) (by show 0+1≤2;omega);conv=>lhs;whnf
 repeat(first|refine af htop ?_|refine au hD rfl ?_
        conv=>lhs;whnf)
 refine(hD _).2 ⟨(),rfl,fun v A1 hq=> ?_⟩;obtain⟨t',O1,rfl,hT1,s1,hO1⟩:∃t' O1,v= .pointer (some ⟨t',0,none⟩)∧bz A1 aa.void O1 t' cg∧A.Sub A1∧∀k,O1 k→A.blk k=none:=hq;have htop1:=aJ s1 htop;conv=>lhs;whnf
 repeat(first|refine af htop1 ?_|refine au hD rfl ?_
        conv=>lhs;whnf)
 have hLE:fF gV (dv (·.1) E)=E.map fun e=>(strK e.1,nodP e.2):=by simp [fF,dv]
 have hnm:=h.nmap;rw [hLE]at hnm;have hnd:=mP (kv:=strK) (f:=nodP) (fun a b e=>by injection e) h.keys;refine(hD _).2 ⟨_,hnm.sub fun o ho=>s1 _ _ ho,hnd,fun i A2 hi hA2 hI=> ?_⟩;have hi:A1.blk i=none:=hi;have hA2:∀k,k≠i→A2.blk k=A1.blk k:=hA2;have hW:=dG.start' s1 (h.live m h.own.2.1) hi hA2 hI
 have hWd:∀k o,(aa.of fun k=>if k=i then A2.blk k else A.blk k).blk k=some o→k=i∨∃o',A.blk k=some o':=fun k o hk=>by
  have hk:(if k=i then A2.blk k else A.blk k)=some o:=hk
  by_cases e:k=i
  ·exact .inl e
  ·rw [if_neg e]at hk;exact .inr ⟨o,hk⟩
 generalize (aa.of fun k=>if k=i then A2.blk k else A.blk k)=W at hW hWd;conv=>lhs;whnf
 have hG0:Cn A W i m t' E ⟨A2,aa.void,O1, []⟩:=by
  have hni:¬O1 i:=fun hO=>by
   obtain⟨m1,s1',E1,h1⟩:=hT1;obtain⟨o,ho⟩:=h1.live i hO;rw [hi]at ho;cases ho
  exact⟨hW,hT1.frame (fun k hk=>hA2 k fun e=>hni (e▸hk)) (fun k o hk=>by cases hk),hO1,hni,rfl,fun k o hk=>by cases hk⟩
 refine(hD _).2 ⟨copyInv A W i m t' E,⟨(⟨A2,aa.void,O1, []⟩:CG),hG0,trivial,trivial,rfl⟩,fun(sg:CG) hG=>⟨trivial,trivial,?_⟩⟩;obtain⟨Ak,B,O,sk⟩:=sg;obtain⟨hw,hT,hoff,hni,hbi,hfr⟩:Cn A W i m t' E ⟨Ak,B,O,sk⟩:=hG;dsimp only at hw hT hoff hni hbi hfr;conv=>lhs;whnf
 refine(hD _).2 (.inl ⟨m,_,_,hw.it,fun e he hn A3 hA3 hI3 hent=> ?_,fun hall=> ?_⟩)
 ·obtain⟨⟨p,g,n⟩,hx,rfl,hns,hM3,hlt⟩:=hw.next he hn hA3 hI3
  have hA3:∀k,k≠i→A3.blk k=Ak.blk k:=hA3;have hent:A3.ent i=some (.tuple #[.string p,.pointer (some ⟨g,0,none⟩)]):=hent
  obtain⟨m',s',E',hR⟩:=hT.frame (A':=A3) (fun k hk=>hA3 k fun e=>hni (e▸hk)) (fun k o hk=>by
   rw [hA3 k fun e=>by subst e;rw [hbi]at hk;cases hk];obtain⟨m1,s1',E1,h1⟩:=hT
   exact h1.sub k o hk)
  have htop':A3.rd t' 0 1=some [.map (some m')]:=hR.top.rd (o:=0) (n:=1) (by show 0+1≤2;omega);obtain⟨vn,hc,hs⟩:=h.cells _ hx;obtain⟨aw,kw,rfl⟩:=hs.1.form;have hc3:aG A3 g (.slice aw n.data.length kw::n.stat.cells):=hc.sub fun o ho=>hM3.old _ _ ho
  have hs3:SlB A3 (.slice aw n.data.length kw) n.data:=(hs.sub h.sub).sub hM3.old;have hrd:A3.rd g 0 1=some [.slice aw n.data.length kw]:=hc3.rd (o:=0) (n:=1) (by show 0+1≤11;omega);have hrs:A3.rd g 1 10=some n.stat.cells:=hc3.rd (o:=1) (n:=10) (by show 1+10≤11;omega);conv=>lhs;whnf
  split
  rotate_left
  ·rename_i hv
   exact absurd (hent.symm.trans hv) (by simp)
  rename_i v hv;obtain rfl:=Option.some.inj (hent.symm.trans hv);conv=>lhs;whnf
  repeat(first|refine af htop' ?_|refine af hrd ?_|refine af hrs ?_|refine au hD rfl ?_
         conv=>lhs;whnf)
  refine(hD _).2 ⟨n.data,⟨_,rfl,hs3⟩,fun v A4 hq=> ?_⟩;obtain⟨s4,b4⟩:A3.Sub A4∧SlB (A4.minus A3) v n.data:=hq;obtain⟨ao,ko,rfl⟩:=b4.1.form;have htop4:=aJ s4 htop';have hrd4:=aJ s4 hrd;have hrs4:=aJ s4 hrs;conv=>lhs;whnf
  repeat(first|refine af htop4 ?_|refine af hrd4 ?_|refine af hrs4 ?_|refine au hD rfl ?_
         conv=>lhs;whnf)
  refine(hD _).2 fun g' A5 hN=> ?_
  have hN:A4.New A5 g' (.slice ao n.data.length ko::n.stat.cells).toArray 57:=hN;have htop5:=aJ hN.sub htop4;have hrd5:=aJ hN.sub hrd4;have hrs5:=aJ hN.sub hrs4;conv=>lhs;whnf
  repeat(first|refine af htop5 ?_|refine af hrd5 ?_|refine af hrs5 ?_|refine au hD rfl ?_
         conv=>lhs;whnf)
  have hm5:=hR.nmap.sub (A':=A5) fun o ho=>hN.sub _ _ (s4 _ _ ho)
  refine(hD _).2 ⟨_,hm5,gB gV p _,fun A6 hm6 ho6=> ?_⟩;obtain⟨B6,O6,hT6,hS6⟩:bf A3 B O t' ⟨cH p n (bY sk), []⟩ A6:=xg hR s4 hN (by rfl) b4 hm6 ho6;have hkeep:∀k o,A3.blk k=some o→¬O k→A6.blk k=some o:=hS6.bk
  have hOld:∀k o,W.blk k=some o→¬O k:=fun k o hk hO=>by
   rcases hWd k o hk with rfl|⟨o',ho'⟩
   ·exact hni hO
   ·rw [hoff k hO]at ho';cases ho'
  have hM6:dG strK nodP A W A6 i m E (sk++ [(p,g,n)]):=hM3.more fun k o hk=>by
   have h1:∃o',A3.blk k=some o':=by
    cases h3:A3.blk k with
    |some o'=>exact⟨o',rfl⟩
    |none=>have:=hM3.dom k h3;rw [hk]at this;cases this
   obtain⟨o',h1⟩:=h1;rw [h1];exact hkeep k o' h1 (hOld k o hk)
  obtain⟨oi,hoi⟩:∃o,A3.blk i=some o:=by
   cases h3:A3.blk i with
   |some o'=>exact⟨o',rfl⟩
   |none=>
    obtain⟨o,ho⟩:=hM3.iex;have:=hM3.dom i h3;rw [ho]at this;cases this
  have hnew:∀k,A3.blk k=none→A.blk k=none:=hM3.dom1
  have hG6:Cn A W i m t' E ⟨A6,B6,O6,sk++ [(p,g,n)]⟩:=by
   refine⟨hM6,by rw [th];exact hT6,fun k hk=> ?_,fun hk=> ?_,?_,fun k o hk=> ?_⟩
   ·rcases hS6.own k hk with h1|h1
    ·exact hoff k h1
    ·exact hnew k h1
   ·rcases hS6.own i hk with h1|h1
    ·exact hni h1
    ·rw [hoi]at h1;cases h1
   ·cases hb:B6.blk i with
    |none=>rfl
    |some o=>
     rcases hS6.new i o hb with h1|h1
     ·rw [hbi]at h1;cases h1
     ·rw [hoi]at h1;cases h1
   ·rcases hS6.new k o hk with h1|h1
    ·exact hfr k o h1
    ·exact hnew k h1
  conv=>lhs;whnf
  exact(hD _).2 ⟨(⟨A6,B6,O6,sk++ [(p,g,n)]⟩:CG),⟨hG6,trivial,trivial,rfl⟩,by show E.length-(sk++ [(p,g,n)]).length<E.length-sk.length;rw [List.length_append,List.length_singleton];omega,⟨rfl,rfl,rfl,trivial⟩,trivial⟩
 ·have hperm:sk.Perm E:=hw.done (fun a b e=>by injection e) h.keys hall
  have hTk:bz Ak B0 O0 t T:=bM ⟨m,s,E,h⟩ hw.old;have hdom:=hw.dom1;have hold:=hw.old;conv=>lhs;whnf
  refine(hD _).2 ⟨⟨T,B0,O0,t⟩,⟨rfl,hTk,hok,hlen⟩,fun v A7 hq=> ?_⟩;obtain⟨s7,hS⟩:Ak.Sub A7∧Sl (A7.minus Ak) 3 (aU T).length v ((aU T).flatMap br):=hq
  have hsl:(aU T).length≤140737488351232:=by
   rw [aU,List.length_map,eN,List.length_map];omega
  have hAs:Aside A7 (A7.minus Ak) O:=⟨eo _ _,fun k o hk hO=>by
   obtain⟨m1,s1',E1,h1⟩:=hT;obtain⟨o',ho'⟩:=h1.live k hO
   rw [cG _ ho']at hk;cases hk⟩
  obtain⟨a7,c7,rfl⟩:=hS.form;conv=>lhs;whnf
  refine(hD _).2 ⟨(⟨⟨bY sk, []⟩,B,O,t'⟩,aU T,A7.minus Ak),⟨_,rfl,bM hT s7,⟨hS,hsl⟩,hAs⟩,fun v A8 hq=> ?_⟩;obtain⟨rfl,B8,O8,hT8,hS8⟩:v= .tuple #[]∧bf A7 B O t' ⟨bY sk,cC (aU T)⟩ A8:=hq;have hA8:A.Sub A8:=hS8.stays (hold.trans s7) fun k o hk hO=>by rw [hoff k hO]at hk;cases hk
  have hdom7:∀k,A7.blk k=none→A.blk k=none:=fun k hk=>hdom k (by
   cases h8:Ak.blk k with
   |none=>rfl
   |some o=>rw [s7 k o h8]at hk;cases hk)
  have hend:Gq.post ⟨T,B0,O0,t⟩ [.pointer (some ⟨t,0,none⟩)] A (.pointer (some ⟨t',0,none⟩)) A8:=by
   refine⟨hA8,t',B8,O8,E,sk,rfl,hT8,fun k hk=> ?_,fun k o hk=> ?_,h.nodes,hperm⟩
   ·rcases hS8.own k hk with h1|h1
    ·exact hoff k h1
    ·exact hdom7 k h1
   ·rcases hS8.new k o hk with h1|h1
    ·exact hfr k o h1
    ·exact hdom7 k h1
  conv=>lhs;whnf
  exact(hD _).2 hend
theorem look_eq{T:aT}{N:List aC}{S:List bb}(h:RT T N S):cD (some N)=bE (some T):=by
 funext p
 show(gj N p).stat=bE (some T) p
 rw [rt_got h];unfold gotX bE
 cases hk:aM p T.nodes with
 |none=>simp only [hk];rfl
 |some n=>simp only [hk]
theorem look_nil:cD none=bE none:=rfl
theorem w5.rep{A A':aa}{r:ek}{v:Value}(h:w5 A A' r v)(hm:r.mem.length*32≤140737488351232)(hp:r.parts.length≤1000000):A.Sub A'∧∃cs:List Value,v= .agg cs.toArray∧tZ A' r cs:=by
 obtain⟨hs,lm,lp,hv,⟨h1,h2,h3⟩,_⟩:=h;refine⟨hs,_,hv,_,_,rfl,⟨?_,hm⟩,?_,hp⟩
 ·have h9:=h1.sl
  have hl:=h1.len
  have hn:lm.n=r.mem.length:=by
   rw [gY]at hl;omega
  rw [hn]at h9;exact h9
 ·have h9:=h2.sl
  rw [←h3]at h9;exact h9
theorem tZ.sub{A A':aa}{r:ek}{cs:List Value}(h:tZ A r cs)(hs:A.Sub A'):tZ A' r cs:=by
 obtain⟨vm,vp,h1,h2,h3,h4⟩:=h;exact⟨vm,vp,h1,⟨h2.1.sub hs,h2.2⟩,h3.sub hs,h4⟩
theorem pR(look:ByteArray→ec)(kind:Int)(d:aB):(cO look kind d).mem.length≤d.h.mem.length∧(cO look kind d).parts.length≤d.parts.length:=by
 unfold cO
 repeat' split
 all_goals first
  |exact⟨Nat.zero_le _,Nat.zero_le _⟩
  |exact⟨Nat.le_refl _,Nat.zero_le _⟩
  |(refine⟨Nat.zero_le _,?_⟩
    show(List.map _ _).length≤_
    rw [List.length_map]
    exact Nat.le_refl _)
def El:aL:=⟨aB×aa,fun g vs _=>∃cs,vs= [bx cs]∧bj g.2 g.1 cs,fun g _ A v A'=>A'=A∧∃b,v= .bool b∧(b=false→g.1.parts.length≤80∧g.1.h.mem.length≤100)⟩
theorem wide_ok:FOk Tryz.prog 6 El:=by
 refine aS mixed fun⟨⟨⟨zxid,dk,ses,ah,xid,dtime,path,data,owner,ver,cver,tmo,err,cfg,mem⟩,parts⟩,S⟩ vs A hp=> ?_
 obtain⟨cs,rfl,hR⟩:∃cs,vs= [bx cs]∧bj S (.mk ⟨zxid,dk,ses,ah,xid,dtime,path,data,owner,ver,cver,tmo,err,cfg,mem⟩ parts) cs:=hp;rw [bj]at hR;dsimp only [bJ.cells]at hR;obtain⟨vd,vm,vp,rws,rfl,hpl9,hd1,hMm,hSp,hlen2,hRows⟩:=hR;obtain⟨a7,k7,rfl⟩:=hd1.1.form;obtain⟨a14,k14,rfl⟩:=hMm.1.form;obtain⟨a15,k15,rfl⟩:=hSp.form;refine⟨noC,noL,60,aj _,ak _,fun blk os' out tape D hD=> ?_⟩;have hend:∀b,(b=false→parts.length≤80∧mem.length≤100)→El.post ((.mk ⟨zxid,dk,ses,ah,xid,dtime,path,data,owner,ver,cver,tmo,err,cfg,mem⟩ parts:aB),S) [] A (.bool b) A:=fun b h=>⟨rfl,b,rfl,h⟩
 conv=>lhs;whnf
 refine ab (fun h1=> ?_) (fun h1=> ?_)<;>(conv=>lhs;whnf)
 ·exact(hD _).2 (hend _ fun h=>by cases h)
 have h1:¬(80:Int)<(parts.length:Int):=h1
 repeat(first|refine au hD rfl ?_
        conv=>lhs;whnf)
 refine ab (fun h2=> ?_) (fun h2=> ?_)<;>(conv=>lhs;whnf)
 ·exact(hD _).2 (hend _ fun h=>by cases h)
 repeat(first|refine au hD rfl ?_
        conv=>lhs;whnf)
 exact(hD _).2 (hend _ fun h=>⟨by omega,by
  have h3:¬(100:Int)<(mem.length:Int):=of_decide_eq_false h
  omega⟩)
theorem ly{κ α:Type} [BEq κ]:∀(l m:List (κ×α)),(l.foldl (fun m e=>cH e.1 e.2 m) m).length≤m.length+l.length
 | [],m=>by simp
 |e::l,m=>by
  have h1:=ly l (cH e.1 e.2 m);have h2:=jI e.1 e.2 m;rw [List.foldl_cons,List.length_cons];omega
theorem kQ:∀(l:List bb) (m:List (Int×bb)),(l.foldl fO m).length≤m.length+l.length
 | [],m=>by simp
 |x::l,m=>by
  have h1:=kQ l (fO m x)
  have h2:(fO m x).length≤m.length+1:=by
   unfold fO
   split
   ·omega
   ·exact jI _ _ _
  rw [List.foldl_cons,List.length_cons];omega
theorem DX{T:aT}{E sk:List (ByteArray×Nat×bn)}(hE:T.nodes=dv (·.2) E)(hp:sk.Perm E){n m:Nat}(hn:T.nodes.length≤n)(hm:T.aK.length≤m):(bY sk).length≤n+1∧(cC (aU T)).length≤m:=by
 constructor
 ·have h1:bY sk=(dv (·.2) sk).foldl (fun m e=>cH e.1 e.2 m) cg.nodes:=by
    unfold bY dv;rw [List.foldl_map]
  have h2:=ly (dv (·.2) sk) cg.nodes;have h3:(dv (·.2) sk).length=T.nodes.length:=by rw [hE,dv,dv,List.length_map,List.length_map,hp.length_eq]
  have h4:cg.nodes.length=1:=rfl;rw [h1];omega
 ·have h2:=kQ (aU T) []
  rw [jT]at h2;show((aU T).foldl fO []).length≤m
  simp only [List.length_nil]at h2;omega
theorem xr{T U:aT}(h:TEq T U)(hT:TOk T)(hU:ND U):kC U:=fun e he=>by
 have h1:=(fJ hU.2).2 (show(e.1,e.2)∈U.aK from he);rw [←h.2]at h1;exact(hT.ses _ _ h1).1
theorem WhR.bk{A A':aa}{r:ek}{lm lp:LsD}(h:WhR A r lm lp)(hk:∀g o,lm.g=some g∨lp.g=some g→A.blk g=some o→A'.blk g=some o):WhR A' r lm lp:=
 ⟨h.1.bk fun g o hg ho=>hk g o (.inl hg) ho,h.2.1.bk fun g o hg ho=>hk g o (.inr hg) ho,h.2.2⟩
theorem WhR.rep{A:aa}{r:ek}{lm lp:LsD}(h:WhR A r lm lp)(hm:r.mem.length*32≤140737488351232)(hp:r.parts.length≤1000000):tZ A r (r.cells lm.v lp.v):=by
 obtain⟨h1,h2,h3⟩:=h;refine⟨_,_,rfl,⟨?_,hm⟩,?_,hp⟩
 ·have h9:=h1.sl
  have hl:=h1.len
  have hn:lm.n=r.mem.length:=by
   rw [gY]at hl;omega
  rw [hn]at h9;exact h9
 ·have h9:=h2.sl
  rw [←h3]at h9;exact h9
theorem bC.stays{A A' B:aa}{O:Nat→Prop}{r:Nat}{N:List aC}{S:List bb}(h:bC A B O r N S)(hk:∀k o,A.blk k=some o→A'.blk k=some o):bC A' B O r N S:=h.more hk
theorem mw{E W X:aa}{ga gb:Nat}{r:ek}{lmA lpA lmB lpB:LsD}(hWA:WhR W r lmA lpA)(hWB:WhR W r lmB lpB)(hE:E.Sub W)(eA:∀g,lmA.g=some g∨lpA.g=some g→E.blk g=none)(eB:∀g,lmB.g=some g∨lpB.g=some g→E.blk g=none)
  (dA:jq lmA lpA) (dB:jq lmB lpB) (dAB:∀g,lmA.g=some g∨lpA.g=some g→lmB.g≠some g∧lpB.g≠some g) (hX:W.Sub X) (ha:X.blk ga=some (.cells (r.cells lmA.v lpA.v).toArray 46 (0,0))) (hb:X.blk gb=some (.cells (r.cells lmB.v lpB.v).toArray 46 (0,0)))
  (hga:W.blk ga=none) (hgb:W.blk gb=none) (hne:ga≠gb) (hp:r.parts.length≤1000) (hm:r.mem.length≤1000):
  AV X r ⟨.slice (some ⟨ga,0,none⟩) 1 1,1,1,some ga⟩ lmA lpA∧AV X r ⟨.slice (some ⟨gb,0,none⟩) 1 1,1,1,some gb⟩ lmB lpB∧E.Sub X∧
  (∀l∈ [(⟨.slice (some ⟨ga,0,none⟩) 1 1,1,1,some ga⟩:LsD),lpA,⟨.slice (some ⟨gb,0,none⟩) 1 1,1,1,some gb⟩,lpB,lmA,lmB],∀b,l.g=some b→E.blk b=none)∧
  (([(⟨.slice (some ⟨ga,0,none⟩) 1 1,1,1,some ga⟩:LsD),lpA,⟨.slice (some ⟨gb,0,none⟩) 1 1,1,1,some gb⟩,lpB]++ [lmA,lmB]).filter il).Pairwise jq:=by
 have en:∀g,W.blk g=none→E.blk g=none:=fun g hg=>by
  cases h:E.blk g with
  |none=>rfl
  |some o=>rw [hE g o h]at hg;cases hg
 have mn:∀ {lm lp:LsD},WhR W r lm lp→lm.n≤1000:=fun {lm lp} h=>by
  have hl:=h.1.len;rw [gY]at hl;omega
 have live:∀ {lm lp:LsD},WhR W r lm lp→∀g,lm.g=some g∨lp.g=some g→∃o,W.blk g=some o:=fun {lm lp} h g hg=>hg.elim (fun h1=>h.1.live h1) fun h1=>h.2.1.live h1
 have nw:∀ {g0:Nat} {v:Value} {l lm lp:LsD},W.blk g0=none→WhR W r lm lp→(l=lm∨l=lp)→jq ⟨v,1,1,some g0⟩ l:=fun {g0 v l lm lp} h0 hW hl g hg hlg=>by
  have hg:some g0=some g:=hg;injection hg with hg
  subst hg;obtain⟨o,ho⟩:=live hW g0 (hl.elim (fun e=> .inl (by rw [←e];exact hlg)) fun e=> .inr (by rw [←e];exact hlg));rw [h0]at ho;cases ho
 have top:∀ {g0:Nat} {lm lp:LsD},WhR W r lm lp→X.blk g0=some (.cells (r.cells lm.v lp.v).toArray 46 (0,0))→AV X r ⟨.slice (some ⟨g0,0,none⟩) 1 1,1,1,some g0⟩ lm lp:=fun {g0 lm lp} hW h0=>
  ⟨.inr ⟨g0,rfl,rfl,by show 0<1;omega,⟨⟨_,h0,rfl,rfl⟩,Nat.le_refl _,rfl⟩⟩,rfl,hW.bk fun g o _ ho=>hX g o ho,hp,mn hW⟩
 refine⟨top hWA ha,top hWB hb,hE.trans hX,fun l hl b hb9=> ?_,?_⟩
 ·simp only [List.mem_cons,List.not_mem_nil,or_false]at hl
  rcases hl with rfl|rfl|rfl|rfl|rfl|rfl
  ·have hb9:some ga=some b:=hb9
   injection hb9 with hb9
   rw [←hb9];exact en _ hga
  ·exact eA b (.inr hb9)
  ·have hb9:some gb=some b:=hb9
   injection hb9 with hb9
   rw [←hb9];exact en _ hgb
  ·exact eB b (.inr hb9)
  ·exact eA b (.inl hb9)
  ·exact eB b (.inl hb9)
 ·refine List.Pairwise.filter _ ?_
  have gab:jq (⟨.slice (some ⟨ga,0,none⟩) 1 1,1,1,some ga⟩:LsD) ⟨.slice (some ⟨gb,0,none⟩) 1 1,1,1,some gb⟩:=fun g h1 h2=>by
   have h1:some ga=some g:=h1;have h2:some gb=some g:=h2;injection h1 with h1
   injection h2 with h2
   exact hne (h1.trans h2.symm)
  have x1:jq lpA lpB:=fun g h1=>(dAB g (.inr h1)).2
  have x2:jq lpA lmB:=fun g h1=>(dAB g (.inr h1)).1
  have x3:jq lmA lpB:=fun g h1=>(dAB g (.inl h1)).2
  have x4:jq lmA lmB:=fun g h1=>(dAB g (.inl h1)).1
  simp only [List.cons_append,List.nil_append,List.pairwise_cons,List.mem_cons,List.not_mem_nil,or_false,forall_eq_or_imp,forall_eq,List.Pairwise.nil,and_true,false_implies,implies_true];exact⟨⟨nw hga hWA (.inr rfl),gab,nw hga hWB (.inr rfl),nw hga hWA (.inl rfl),nw hga hWB (.inl rfl)⟩,⟨(nw hgb hWA (.inr rfl)).symm,x1,dA.symm,x2⟩,⟨nw hgb hWB (.inr rfl),nw hgb hWA (.inl rfl),nw hgb hWB (.inl rfl)⟩,⟨x3.symm,dB.symm⟩,x4⟩
end
end Go.Proofs.YtphigpccfbfnoaaGreatDoor
