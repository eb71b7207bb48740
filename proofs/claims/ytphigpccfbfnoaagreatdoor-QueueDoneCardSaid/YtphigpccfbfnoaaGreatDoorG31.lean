/-
  Parts of the proof: ApI SgA SfA
-/
import Derived.Test.YtphigpccfbfnoaaGreatDoorG30
import Derived.Test.YtphigpccfbfnoaaGreatDoorG24
import Derived.Test.YtphigpccfbfnoaaGreatDoorG15
import Derived.Shelf.SlSortCmp.NoneTotal
import Derived.Test.YtphigpccfbfnoaaGreatDoorG17
set_option maxRecDepth 100000
set_option maxHeartbeats 0
namespace Go.Proofs.YtphigpccfbfnoaaGreatDoor
open Go.Sx Go.RowKit
noncomputable section
open Classical
def cN(look:ByteArray→ec)(h:bJ):dj:=
 if h.kind=1 then⟨3,0,h.path,look h.path⟩else if h.kind=3 then⟨5,0,⟨#[]⟩,look h.path⟩else if h.kind=2 then⟨4,0,⟨#[]⟩,st0⟩else⟨0,0,⟨#[]⟩,st0⟩
structure StG where
 bt:Nat
 t:Option Nat
 T:Option aT
 p:ByteArray
def rh:aL:=⟨StG,fun g vs A=>vs= [.string g.p,.pointer (some ⟨g.bt,0,none⟩)]∧aG A g.bt [mT g.t]∧tx A g.t g.T,fun g _ A v A'=>A.Sub A'∧v= .agg (bE g.T g.p).cells.toArray⟩
def alPt:TypeId→Bool:=fun t=>Nat.beq t 33
theorem zo:FOk Tryz.prog 38 rh:=by
 refine sN mixed alPt fun⟨bt,t,T,p⟩ vs A hp=> ?_
 obtain⟨rfl,hc,hT⟩:vs= [.string p,.pointer (some ⟨bt,0,none⟩)]∧aG A bt [mT t]∧tx A t T:=hp
 have hC:aF Tryz.prog (bu [aE 39 getOS] noC):=az (aj _) (fun x hx=>by
  simp only [List.mem_singleton]at hx
  subst hx;exact ai getO_ok)
 refine⟨_,noL,60,hC,ak _,fun blk os' out tape D hD=> ?_⟩;have r1:A.rd bt 0 1=some [mT t]:=hc.rd (o:=0) (n:=1) (by show 0+1≤1;omega);obtain⟨⟨s1,s2,s3,s4,s5,s6,s7,s8,s9,s10⟩,hs⟩:∃s,bE T p=s:=⟨_,rfl⟩;conv=>lhs;whnf
 repeat(first|refine af r1 ?_|refine au hD rfl ?_
        conv=>lhs;whnf)
 refine(hD _).2 ⟨(t,T,p),⟨rfl,hT⟩,fun v A1 hq=> ?_⟩;obtain⟨hs1,q,ad,ld,cd,b,hv⟩:A.Sub A1∧∃(q:ByteArray) (ad:Option Addr) (ld cd:Nat) (b:Bool),v= .tuple #[.agg (.string q:: .slice ad ld cd::(bE T p).cells).toArray,.bool b]:=hq;rw [hs]at hv;subst hv;have hend:rh.post (⟨bt,t,T,p⟩:StG) [] A (.agg (ec.cells ⟨s1,s2,s3,s4,s5,s6,s7,s8,s9,s10⟩).toArray) A1:=⟨hs1,by show _=Value.agg (bE T p).cells.toArray;rw [hs]⟩;conv=>lhs;whnf
 repeat(first|refine af r1 ?_|refine au hD rfl ?_
        conv=>lhs;whnf)
 exact(hD _).2 hend
theorem zZ{A1 A:aa}{es n:Nat}{e:TypeId}{v:Value}{cs:List Value}(h:bq A1 A es e n v cs):∃L:LsD,L.v=v∧L.n=n∧LsR A es e L cs∧∀g,L.g=some g→A1.blk g=none:=by
 obtain⟨hl,⟨rfl,rfl⟩|⟨g,nc,c,rfl,hn,hpos,hg,hb,hsz,ht⟩⟩:=h
 ·exact⟨nlL,rfl,rfl,.inl ⟨rfl,rfl,rfl,List.length_eq_zero_iff.1 (by rw [hl];simp),none,rfl⟩,fun _ h=>by cases h⟩
 ·exact⟨⟨_,n,nc,some g⟩,rfl,rfl,.inr ⟨g,rfl,rfl,hpos,⟨⟨c,hb,hsz,ht⟩,hn,hl⟩⟩,fun g' h=>by
   have h:some g=some g':=h;injection h with h
   rw [←h]
   exact hg⟩
structure DgL where
 k:Nat
 A:aa
 v:Value
def dnInv(A1:aa)(T:Option aT)(xid zxid:Int)(parts:List aB):dE:=
 { γ:=DgL,G:=fun s=>s.k≤parts.length∧A1.Sub s.A∧bq A1 s.A 22 46 s.k s.v (((parts.take s.k).map fun p:aB=>cN (bE T) p.h).flatMap dj.cells),
   keepS:= [3,5,6,7,8,95,96],keepB:= [0,1],sl:=fun s=> [(97,.v (.int .i64 s.k))],
   bl:=fun s=> [(2,.cells [.v (.int .u8 11),.v (.int .i64 xid),.v (.int .i64 zxid),.v (.int .i64 0),.v (.int .i64 0),.v (.int .i64 0),.v (.string ⟨#[]⟩),.v nlS,.v (.int .i64 0),.v (.int .i64 0),.v (.int .i64 0),.v (.int .i64 0),.v (.int .i64 0),.v (.int .i64 0),.v (.int .i64 0),.v (.int .i64 0),.v (.int .i64 0),.v (.int .i64 0),.v nlS,.v (.int .i64 0),.v nlS,.v s.v] 0 (46+1))],
   ar:=fun s=>s.A,mu:=fun s=>parts.length-s.k }
def cO(look:ByteArray→ec)(kind:Int)(d:aB):ek:=
 if d.h.kind=9 then⟨kind,d.h.xid,d.h.zxid,d.h.err,0,0,⟨#[]⟩,st0,0, [], []⟩
 else if kind=1∧d.h.kind=4 then⟨kind,d.h.xid,d.h.zxid,0,d.h.zxid,d.h.tmo,⟨#[]⟩,st0,0, [], []⟩
 else if kind=3∧d.h.kind=1 then⟨kind,d.h.xid,d.h.zxid,0,0,0,d.h.path,look d.h.path,0, [], []⟩
 else if kind=5∧d.h.kind=3 then⟨kind,d.h.xid,d.h.zxid,0,0,0,⟨#[]⟩,look d.h.path,0, [], []⟩
 else if kind=12∧d.h.kind=7 then⟨kind,d.h.xid,d.h.zxid,0,0,0,⟨#[]⟩,st0,d.h.cfg,d.h.mem, []⟩
 else if kind=11∧d.h.kind=8 then⟨kind,d.h.xid,d.h.zxid,0,0,0,⟨#[]⟩,st0,0, [],d.parts.map fun p=>cN look p.h⟩
 else⟨kind,d.h.xid,d.h.zxid,0,0,0,⟨#[]⟩,st0,0, [], []⟩
theorem uR{look:ByteArray→ec}{kind:Int}{d:aB}(h9:¬d.h.kind=9)(h1:¬(kind=1∧d.h.kind=4))(h3:¬(kind=3∧d.h.kind=1))(h5:¬(kind=5∧d.h.kind=3))(h12:¬(kind=12∧d.h.kind=7))(h11:¬(kind=11∧d.h.kind=8)):
  cO look kind d=⟨kind,d.h.xid,d.h.zxid,0,0,0,⟨#[]⟩,st0,0, [], []⟩:=by
 unfold cO;rw [if_neg h9,if_neg h1,if_neg h3,if_neg h5,if_neg h12,if_neg h11]
structure DnG where
 t:Option Nat
 T:Option aT
 kind:Int
 d:aB
 S:aa
def w5(A A':aa)(r:ek)(v:Value):Prop:=A.Sub A'∧∃lm lp:LsD,v= .agg (r.cells lm.v lp.v).toArray∧WhR A' r lm lp∧(∀g,lm.g=some g→A.blk g=none)∧(∀g,lp.g=some g→A.blk g=none)∧jq lm lp
theorem whr_nil(A:aa){r:ek}(hm:r.mem= [])(hp:r.parts= []):WhR A r nlL nlL:=by
 unfold WhR;rw [hm,hp];exact⟨.inl ⟨rfl,rfl,rfl,rfl,none,rfl⟩,.inl ⟨rfl,rfl,rfl,rfl,none,rfl⟩,rfl⟩
theorem oE{A A':aa}{r:ek}{v:Value}(hs:A.Sub A')(hm:r.mem= [])(hp:r.parts= [])(hv:v= .agg (r.cells nlS nlS).toArray):w5 A A' r v:=
 ⟨hs,nlL,nlL,hv,whr_nil A' hm hp,fun _ h=>(by cases h),fun _ h=>(by cases h),fun _ h=>(by cases h)⟩
def iu:aL:=⟨DnG,fun g vs A=>∃cs,vs= [mT g.t,.int .u8 g.kind,bx cs]∧tx A g.t g.T∧bj g.S g.d cs∧g.S.Sub A∧g.d.parts.length≤1000000,
 fun g _ A v A'=>w5 A A' (cO (bE g.T) g.kind g.d) v⟩
theorem DV:FOk Tryz.prog 11 iu:=by
 refine sN mixed alPt fun⟨t,T,kind,⟨⟨zxid,dk,ses,ah,xid,dtime,path,data,owner,ver,cver,tmo,err,cfg,mem⟩,parts⟩,S⟩ vs A hp=> ?_
 obtain⟨cs,rfl,hT,hR,hS,hpl⟩:∃cs,vs= [mT t,.int .u8 kind,bx cs]∧tx A t T∧bj S (.mk ⟨zxid,dk,ses,ah,xid,dtime,path,data,owner,ver,cver,tmo,err,cfg,mem⟩ parts) cs∧S.Sub A∧parts.length≤1000000:=hp;rw [bj]at hR;dsimp only [bJ.cells]at hR;obtain⟨vd,vm,vp,rws,rfl,hpl,hd1,hMm,hSp,hlen2,hRows⟩:=hR;obtain⟨a7,k7,rfl⟩:=hd1.1.form;obtain⟨a14,k14,rfl⟩:=hMm.1.form;obtain⟨a15,k15,rfl,hc5, -,h51,h52,h53⟩:=hSp
 have hC:aF Tryz.prog (bu [aE 38 rh,aE 40 pS] noC):=az (aj _) (fun x hx=>by
  simp only [List.mem_cons,List.not_mem_nil,or_false]at hx;rcases hx with rfl|rfl
  ·exact ai zo
  ·exact ai yU)
 refine⟨_,da Tryz.prog _ noL 60 [(11,1)],60,hC,aH mixed hC (ak _) _ _,fun blk os' out tape D hD=> ?_⟩;conv=>lhs;whnf
 refine(hD _).2 fun bt A1 hN1=> ?_
 have hN1:A.New A1 bt #[mT t] 33:=hN1;have hcb:aG A1 bt [mT t]:=aG.new hN1;have s1:=hN1.sub
 have hT1:tx A1 t T:=by
  rcases hT with h|⟨t',T',B,O,h1,h2,h3,h4⟩
  ·exact .inl h
  ·exact .inr ⟨t',T',B,O,h1,h2,bM h3 s1,h4⟩
 by_cases h9:dk=9
 ·subst h9
  have hend:iu.post ((⟨t,T,kind,.mk ⟨zxid,9,ses,ah,xid,dtime,path,data,owner,ver,cver,tmo,err,cfg,mem⟩ parts,S⟩:DnG)) [] A (.agg (ek.cells ⟨kind,xid,zxid,err,0,0,⟨#[]⟩,st0,0, [], []⟩ nlS nlS).toArray) A1:=oE s1 rfl rfl rfl;conv=>lhs;whnf
  repeat(first|refine au hD rfl ?_
         conv=>lhs;whnf)
  exact(hD _).2 hend
 by_cases hk1:kind=1∧dk=4
 ·obtain⟨rfl,rfl⟩:=hk1
  have hend:iu.post ((⟨t,T,1,.mk ⟨zxid,4,ses,ah,xid,dtime,path,data,owner,ver,cver,tmo,err,cfg,mem⟩ parts,S⟩:DnG)) [] A (.agg (ek.cells ⟨1,xid,zxid,0,zxid,tmo,⟨#[]⟩,st0,0, [], []⟩ nlS nlS).toArray) A1:=oE s1 rfl rfl rfl;conv=>lhs;whnf
  repeat(first|refine au hD rfl ?_
         conv=>lhs;whnf)
  exact(hD _).2 hend
 by_cases hk3:kind=3∧dk=1
 ·obtain⟨rfl,rfl⟩:=hk3
  obtain⟨⟨z1,z2,z3,z4,z5,z6,z7,z8,z9,z10⟩,hs⟩:∃s,bE T path=s:=⟨_,rfl⟩
  have hend:∀A2,A1.Sub A2→iu.post ((⟨t,T,3,.mk ⟨zxid,1,ses,ah,xid,dtime,path,data,owner,ver,cver,tmo,err,cfg,mem⟩ parts,S⟩:DnG)) [] A (.agg (ek.cells ⟨3,xid,zxid,0,0,0,path,⟨z1,z2,z3,z4,z5,z6,z7,z8,z9,z10⟩,0, [], []⟩ nlS nlS).toArray) A2:=fun A2 h=>by
   rw [←hs];exact oE (s1.trans h) rfl rfl rfl
  conv=>lhs;whnf
  repeat(first|refine au hD rfl ?_
         conv=>lhs;whnf)
  refine(hD _).2 ⟨(⟨bt,t,T,path⟩:StG),⟨rfl,hcb,hT1⟩,fun v A2 hq=> ?_⟩;obtain⟨s2,hv⟩:A1.Sub A2∧v= .agg (bE T path).cells.toArray:=hq;rw [hs]at hv;subst hv;conv=>lhs;whnf
  repeat(first|refine au hD rfl ?_
         conv=>lhs;whnf)
  exact(hD _).2 (hend A2 s2)
 by_cases hk5:kind=5∧dk=3
 ·obtain⟨rfl,rfl⟩:=hk5
  obtain⟨⟨z1,z2,z3,z4,z5,z6,z7,z8,z9,z10⟩,hs⟩:∃s,bE T path=s:=⟨_,rfl⟩
  have hend:∀A2,A1.Sub A2→iu.post ((⟨t,T,5,.mk ⟨zxid,3,ses,ah,xid,dtime,path,data,owner,ver,cver,tmo,err,cfg,mem⟩ parts,S⟩:DnG)) [] A (.agg (ek.cells ⟨5,xid,zxid,0,0,0,⟨#[]⟩,⟨z1,z2,z3,z4,z5,z6,z7,z8,z9,z10⟩,0, [], []⟩ nlS nlS).toArray) A2:=fun A2 h=>by
   rw [←hs];exact oE (s1.trans h) rfl rfl rfl
  conv=>lhs;whnf
  repeat(first|refine au hD rfl ?_
         conv=>lhs;whnf)
  refine(hD _).2 ⟨(⟨bt,t,T,path⟩:StG),⟨rfl,hcb,hT1⟩,fun v A2 hq=> ?_⟩;obtain⟨s2,hv⟩:A1.Sub A2∧v= .agg (bE T path).cells.toArray:=hq;rw [hs]at hv;subst hv;conv=>lhs;whnf
  repeat(first|refine au hD rfl ?_
         conv=>lhs;whnf)
  exact(hD _).2 (hend A2 s2)
 by_cases hk12:kind=12∧dk=7
 ·obtain⟨rfl,rfl⟩:=hk12
  have hm1:kD A1 (.slice a14 mem.length k14) mem:=⟨hMm.1.sub (hS.trans s1),hMm.2⟩;conv=>lhs;whnf
  repeat(first|refine au hD rfl ?_
         conv=>lhs;whnf)
  refine(hD _).2 ⟨mem,⟨_,rfl,hm1⟩,fun v A2 hq=> ?_⟩;obtain⟨s2,L,hv,hLn,hL,hL0⟩:A1.Sub A2∧∃L:LsD,L.v=v∧L.n=mem.length∧LsR A2 4 97 L (bD mem)∧∀b,L.g=some b→A1.blk b=none:=hq;have hLform:=hL.app;obtain⟨base,hbv, -⟩:=hLform;rw [hv]at hbv
  have hend:iu.post ((⟨t,T,12,.mk ⟨zxid,7,ses,ah,xid,dtime,path,data,owner,ver,cver,tmo,err,cfg,mem⟩ parts,S⟩:DnG)) [] A (.agg (ek.cells ⟨12,xid,zxid,0,0,0,⟨#[]⟩,st0,cfg,mem, []⟩ v nlS).toArray) A2:=⟨s1.trans s2,L,nlL,by rw [hv];rfl,⟨hL,.inl ⟨rfl,rfl,rfl,rfl,none,rfl⟩,rfl⟩,fun g hg=>(by
   cases h:A.blk g with
   |none=>rfl
   |some o'=>
    have:=hL0 g hg;rw [s1 g o' h]at this
    cases this),fun _ h=>(by cases h),fun g _ h=>(by cases h)⟩
  rw [hbv]at hend;subst hbv;conv=>lhs;whnf
  repeat(first|refine au hD rfl ?_
         conv=>lhs;whnf)
  exact(hD _).2 hend
 by_cases hk11:kind=11∧dk=8
 ·obtain⟨rfl,rfl⟩:=hk11
  conv=>lhs;whnf
  repeat(first|refine au hD rfl ?_
         conv=>lhs;whnf)
  refine(hD _).2 ⟨dnInv A1 T xid zxid parts,⟨(⟨0,A1,nlS⟩:DgL),⟨Nat.zero_le _,aa.Sub.refl _,bq.nil _ _ _ _⟩,⟨rfl,trivial⟩,⟨rfl,trivial⟩,rfl⟩,fun(s:DgL) hG=>⟨⟨trivial,trivial⟩,⟨Nat.lt_succ_self 2,⟨trivial,trivial,trivial,trivial,trivial,trivial,trivial,trivial,trivial,trivial,trivial,trivial,trivial,trivial,trivial,trivial,trivial,trivial,trivial,trivial,trivial,trivial,trivial⟩,trivial⟩,?_⟩⟩;obtain⟨k,Ak,vk⟩:=s;obtain⟨hk,hsk,hGk⟩:k≤parts.length∧A1.Sub Ak∧bq A1 Ak 22 46 k vk (((parts.take k).map fun p:aB=>cN (bE T) p.h).flatMap dj.cells):=hG;obtain⟨base,ck,hvk,hbase, -⟩:=hGk.form;subst hvk;conv=>lhs;whnf
  refine ab (fun hlt=> ?_) (fun hlt=> ?_);rotate_left
  ·have hke:k=parts.length:=by
     have hlt:¬((k:Int)<(parts.length:Int)):=hlt;omega
   subst hke;rw [List.take_length]at hGk;obtain⟨L,hLv,hLn,hLr,hL0⟩:=zZ hGk
   have hend:iu.post ((⟨t,T,11,.mk ⟨zxid,8,ses,ah,xid,dtime,path,data,owner,ver,cver,tmo,err,cfg,mem⟩ parts,S⟩:DnG)) [] A (.agg (ek.cells ⟨11,xid,zxid,0,0,0,⟨#[]⟩,st0,0, [],parts.map fun p:aB=>cN (bE T) p.h⟩ nlS (.slice (aD base) parts.length ck)).toArray) Ak:=⟨s1.trans hsk,nlL,L,by rw [hLv];rfl,⟨.inl ⟨rfl,rfl,rfl,rfl,none,rfl⟩,hLr,by rw [hLn];exact List.length_map _⟩,fun _ h=>(by cases h),fun g hg=>(by
    cases h:A.blk g with
    |none=>rfl
    |some o'=>
     have:=hL0 g hg;rw [s1 g o' h]at this
     cases this),fun g h _=>(by cases h)⟩
   conv=>lhs;whnf
   repeat(first|refine au hD rfl ?_
          conv=>lhs;whnf)
   exact(hD _).2 hend
  have hlt:(k:Int)<(parts.length:Int):=hlt;have hkl:k<parts.length:=by omega
  have k0:(0:Int)≤(k:Int)∧(k:Int)<(parts.length:Int):=by omega
  obtain⟨g5,o5,rfl,hr5⟩:=Sl.at_ hc5 h51 h52 h53 (by omega);obtain⟨ck5,hck5,hdk5⟩:=fD hr5 hRows k hkl rfl;obtain⟨pd,hpk⟩:∃pd,parts[k]=pd:=⟨_,rfl⟩;rw [hpk]at hdk5;obtain⟨⟨pz,pk,pses,pturn,pxid,ptime,ppath,pdata,powner,pver,pcver,ptmo,perr,pcfg,pmem⟩,pparts⟩:=pd;obtain⟨a17,l17,k17,a18,l18,k18,a19,l19,k19,hcf⟩:=hdk5.form;subst hcf;have r5:=aJ (hS.trans (s1.trans hsk)) hck5;have hcbk:aG Ak bt [mT t]:=hcb.sub fun _ ho=>hsk _ _ ho
  have hTk:tx Ak t T:=by
   rcases hT1 with h|⟨t',T',B,O,h1,h2,h3,h4⟩
   ·exact .inl h
   ·exact .inr ⟨t',T',B,O,h1,h2,bM h3 hsk,h4⟩
  obtain⟨⟨z1,z2,z3,z4,z5,z6,z7,z8,z9,z10⟩,hs⟩:∃s,bE T ppath=s:=⟨_,rfl⟩
  by_cases p1:pk=1
  ·subst p1
   conv=>lhs;whnf
   repeat(first|refine aq k0 ?_|refine af r5 ?_|refine au hD rfl ?_
          conv=>lhs;whnf)
   refine(hD _).2 ⟨(⟨bt,t,T,ppath⟩:StG),⟨rfl,hcbk,hTk⟩,fun v A2 hq=> ?_⟩;obtain⟨s2,hv⟩:Ak.Sub A2∧v= .agg (bE T ppath).cells.toArray:=hq;rw [hs]at hv;subst hv
   have hrow9c:(cN (bE T) (aB.mk ⟨pz,1,pses,pturn,pxid,ptime,ppath,pdata,powner,pver,pcver,ptmo,perr,pcfg,pmem⟩ pparts).h).cells= [Value.int .u8 3,.int .i64 0,.int .i64 0,.int .i64 0,.int .i64 0,.int .i64 0,.string ppath,nlS,.int .i64 z1,.int .i64 z2,.int .i64 z3,.int .i64 z4,.int .i64 z5,.int .i64 z6,.int .i64 z7,.int .i64 z8,.int .i64 z9,.int .i64 z10,nlS,.int .i64 0,nlS,nlS]:=by
    show dj.cells (cN (bE T) ⟨pz,1,pses,pturn,pxid,ptime,ppath,pdata,powner,pver,pcver,ptmo,perr,pcfg,pmem⟩)=_
    unfold cN;rw [if_pos rfl,hs];rfl
   conv=>lhs;whnf
   repeat(first|refine au hD rfl ?_
          conv=>lhs;whnf)
   refine(hD _).2 fun ge A8 hN8=> ?_
   have hN8:A2.New A8 ge (List.toArray [Value.int .u8 3,.int .i64 0,.int .i64 0,.int .i64 0,.int .i64 0,.int .i64 0,.string ppath,nlS,.int .i64 z1,.int .i64 z2,.int .i64 z3,.int .i64 z4,.int .i64 z5,.int .i64 z6,.int .i64 z7,.int .i64 z8,.int .i64 z9,.int .i64 z10,nlS,.int .i64 0,nlS,nlS]) 46:=hN8;have hG8:=(hGk.sub s2).sub hN8.sub;obtain⟨hPf,hAp9⟩:=hG8.fy;have hPd:=hPf 1 248 (by omega) (by omega)
   have hd7:∀j,A8.blk j=none→A1.blk j=none:=fun j hj=>by
    cases h9:A1.blk j with
    |none=>rfl
    |some o9=>
     rw [(hsk.trans (s2.trans hN8.sub)) j o9 h9]at hj
     cases hj
   have hrow9:A8.rd ge 0 (1*22)=some [Value.int .u8 3,.int .i64 0,.int .i64 0,.int .i64 0,.int .i64 0,.int .i64 0,.string ppath,nlS,.int .i64 z1,.int .i64 z2,.int .i64 z3,.int .i64 z4,.int .i64 z5,.int .i64 z6,.int .i64 z7,.int .i64 z8,.int .i64 z9,.int .i64 z10,nlS,.int .i64 0,nlS,nlS]:=hN8.rd (o:=0) (n:=1*22) (by show 0+1*22≤22;omega);rcases hbase with rfl|⟨gx,rfl⟩<;>(conv=>lhs;whnf)
   all_goals
    refine(hD _).2 ⟨_, [Value.int .u8 3,.int .i64 0,.int .i64 0,.int .i64 0,.int .i64 0,.int .i64 0,.string ppath,nlS,.int .i64 z1,.int .i64 z2,.int .i64 z3,.int .i64 z4,.int .i64 z5,.int .i64 z6,.int .i64 z7,.int .i64 z8,.int .i64 z9,.int .i64 z10,nlS,.int .i64 0,nlS,nlS],hPd.rd,hrow9,rfl,fun v hv=>by
     simp only [List.mem_cons,List.not_mem_nil,or_false]at hv
     rcases hv with rfl|rfl|rfl|rfl|rfl|rfl|rfl|rfl|rfl|rfl|rfl|rfl|rfl|rfl|rfl|rfl|rfl|rfl|rfl|rfl|rfl|rfl<;>rfl,?_,hPd.cap,rfl,hPd.none_,fun g' o' he' hle' _=>hPd.room 22 rfl g' o' he' hle',fun v9 A7 hAp=> ?_⟩
    ·show k+1≤9223372036854775807
     omega
    ·obtain⟨hG7,hk7⟩:=hAp9 1 [Value.int .u8 3,.int .i64 0,.int .i64 0,.int .i64 0,.int .i64 0,.int .i64 0,.string ppath,nlS,.int .i64 z1,.int .i64 z2,.int .i64 z3,.int .i64 z4,.int .i64 z5,.int .i64 z6,.int .i64 z7,.int .i64 z8,.int .i64 z9,.int .i64 z10,nlS,.int .i64 0,nlS,nlS] v9 A7 rfl hd7 hAp
     obtain⟨b9,c9,hv9, -⟩:=hG7.form;subst hv9
     have hs7:A1.Sub A7:=fun x o9 hx=>by
      rw [hk7 x o9 hx];exact(hsk.trans (s2.trans hN8.sub)) x o9 hx
     have hG7':bq A1 A7 22 46 (k+1) (.slice (aD b9) (k+1) c9) (((parts.take (k+1)).map fun p:aB=>cN (bE T) p.h).flatMap dj.cells):=by
      rw [List.take_succ_eq_append_getElem hkl,List.map_append,List.flatMap_append,hpk];rw [←hrow9c]at hG7;simpa using hG7
     conv=>lhs;whnf
     repeat(first|refine au hD rfl ?_
            conv=>lhs;whnf)
     exact(hD _).2 ⟨(⟨k+1,A7,.slice (aD b9) (k+1) c9⟩:DgL),⟨⟨hkl,hs7,hG7'⟩,⟨av (k:=k) (by omega),trivial⟩,⟨rfl,trivial⟩,rfl⟩,by show parts.length-(k+1)<parts.length-k;omega,⟨an rfl rfl,an rfl rfl,an rfl rfl,an rfl rfl,an rfl rfl,an rfl rfl,an rfl rfl,trivial⟩,⟨an rfl rfl,an rfl rfl,trivial⟩⟩
  by_cases p3:pk=3
  ·subst p3
   conv=>lhs;whnf
   repeat(first|refine aq k0 ?_|refine af r5 ?_|refine au hD rfl ?_
          conv=>lhs;whnf)
   refine(hD _).2 ⟨(⟨bt,t,T,ppath⟩:StG),⟨rfl,hcbk,hTk⟩,fun v A2 hq=> ?_⟩;obtain⟨s2,hv⟩:Ak.Sub A2∧v= .agg (bE T ppath).cells.toArray:=hq;rw [hs]at hv;subst hv
   have hrow9c:(cN (bE T) (aB.mk ⟨pz,3,pses,pturn,pxid,ptime,ppath,pdata,powner,pver,pcver,ptmo,perr,pcfg,pmem⟩ pparts).h).cells= [Value.int .u8 5,.int .i64 0,.int .i64 0,.int .i64 0,.int .i64 0,.int .i64 0,.string ⟨#[]⟩,nlS,.int .i64 z1,.int .i64 z2,.int .i64 z3,.int .i64 z4,.int .i64 z5,.int .i64 z6,.int .i64 z7,.int .i64 z8,.int .i64 z9,.int .i64 z10,nlS,.int .i64 0,nlS,nlS]:=by
    show dj.cells (cN (bE T) ⟨pz,3,pses,pturn,pxid,ptime,ppath,pdata,powner,pver,pcver,ptmo,perr,pcfg,pmem⟩)=_
    unfold cN;rw [if_neg (show ¬((3:Int)=1)by decide),if_pos rfl,hs];rfl
   conv=>lhs;whnf
   repeat(first|refine au hD rfl ?_
          conv=>lhs;whnf)
   refine(hD _).2 fun ge A8 hN8=> ?_
   have hN8:A2.New A8 ge (List.toArray [Value.int .u8 5,.int .i64 0,.int .i64 0,.int .i64 0,.int .i64 0,.int .i64 0,.string ⟨#[]⟩,nlS,.int .i64 z1,.int .i64 z2,.int .i64 z3,.int .i64 z4,.int .i64 z5,.int .i64 z6,.int .i64 z7,.int .i64 z8,.int .i64 z9,.int .i64 z10,nlS,.int .i64 0,nlS,nlS]) 46:=hN8;have hG8:=(hGk.sub s2).sub hN8.sub;obtain⟨hPf,hAp9⟩:=hG8.fy;have hPd:=hPf 1 248 (by omega) (by omega)
   have hd7:∀j,A8.blk j=none→A1.blk j=none:=fun j hj=>by
    cases h9:A1.blk j with
    |none=>rfl
    |some o9=>
     rw [(hsk.trans (s2.trans hN8.sub)) j o9 h9]at hj
     cases hj
   have hrow9:A8.rd ge 0 (1*22)=some [Value.int .u8 5,.int .i64 0,.int .i64 0,.int .i64 0,.int .i64 0,.int .i64 0,.string ⟨#[]⟩,nlS,.int .i64 z1,.int .i64 z2,.int .i64 z3,.int .i64 z4,.int .i64 z5,.int .i64 z6,.int .i64 z7,.int .i64 z8,.int .i64 z9,.int .i64 z10,nlS,.int .i64 0,nlS,nlS]:=hN8.rd (o:=0) (n:=1*22) (by show 0+1*22≤22;omega);rcases hbase with rfl|⟨gx,rfl⟩<;>(conv=>lhs;whnf)
   all_goals
    refine(hD _).2 ⟨_, [Value.int .u8 5,.int .i64 0,.int .i64 0,.int .i64 0,.int .i64 0,.int .i64 0,.string ⟨#[]⟩,nlS,.int .i64 z1,.int .i64 z2,.int .i64 z3,.int .i64 z4,.int .i64 z5,.int .i64 z6,.int .i64 z7,.int .i64 z8,.int .i64 z9,.int .i64 z10,nlS,.int .i64 0,nlS,nlS],hPd.rd,hrow9,rfl,fun v hv=>by
     simp only [List.mem_cons,List.not_mem_nil,or_false]at hv
     rcases hv with rfl|rfl|rfl|rfl|rfl|rfl|rfl|rfl|rfl|rfl|rfl|rfl|rfl|rfl|rfl|rfl|rfl|rfl|rfl|rfl|rfl|rfl<;>rfl,?_,hPd.cap,rfl,hPd.none_,fun g' o' he' hle' _=>hPd.room 22 rfl g' o' he' hle',fun v9 A7 hAp=> ?_⟩
    ·show k+1≤9223372036854775807
     omega
    ·obtain⟨hG7,hk7⟩:=hAp9 1 [Value.int .u8 5,.int .i64 0,.int .i64 0,.int .i64 0,.int .i64 0,.int .i64 0,.string ⟨#[]⟩,nlS,.int .i64 z1,.int .i64 z2,.int .i64 z3,.int .i64 z4,.int .i64 z5,.int .i64 z6,.int .i64 z7,.int .i64 z8,.int .i64 z9,.int .i64 z10,nlS,.int .i64 0,nlS,nlS] v9 A7 rfl hd7 hAp
     obtain⟨b9,c9,hv9, -⟩:=hG7.form;subst hv9
     have hs7:A1.Sub A7:=fun x o9 hx=>by
      rw [hk7 x o9 hx];exact(hsk.trans (s2.trans hN8.sub)) x o9 hx
     have hG7':bq A1 A7 22 46 (k+1) (.slice (aD b9) (k+1) c9) (((parts.take (k+1)).map fun p:aB=>cN (bE T) p.h).flatMap dj.cells):=by
      rw [List.take_succ_eq_append_getElem hkl,List.map_append,List.flatMap_append,hpk];rw [←hrow9c]at hG7;simpa using hG7
     conv=>lhs;whnf
     repeat(first|refine au hD rfl ?_
            conv=>lhs;whnf)
     exact(hD _).2 ⟨(⟨k+1,A7,.slice (aD b9) (k+1) c9⟩:DgL),⟨⟨hkl,hs7,hG7'⟩,⟨av (k:=k) (by omega),trivial⟩,⟨rfl,trivial⟩,rfl⟩,by show parts.length-(k+1)<parts.length-k;omega,⟨an rfl rfl,an rfl rfl,an rfl rfl,an rfl rfl,an rfl rfl,an rfl rfl,an rfl rfl,trivial⟩,⟨an rfl rfl,an rfl rfl,trivial⟩⟩
  by_cases p2:pk=2
  ·subst p2
   conv=>lhs;whnf
   repeat(first|refine aq k0 ?_|refine af r5 ?_|refine au hD rfl ?_
          conv=>lhs;whnf)
   have hrow9c:(cN (bE T) (aB.mk ⟨pz,2,pses,pturn,pxid,ptime,ppath,pdata,powner,pver,pcver,ptmo,perr,pcfg,pmem⟩ pparts).h).cells= [Value.int .u8 4,.int .i64 0,.int .i64 0,.int .i64 0,.int .i64 0,.int .i64 0,.string ⟨#[]⟩,nlS,.int .i64 0,.int .i64 0,.int .i64 0,.int .i64 0,.int .i64 0,.int .i64 0,.int .i64 0,.int .i64 0,.int .i64 0,.int .i64 0,nlS,.int .i64 0,nlS,nlS]:=by
    show dj.cells (cN (bE T) ⟨pz,2,pses,pturn,pxid,ptime,ppath,pdata,powner,pver,pcver,ptmo,perr,pcfg,pmem⟩)=_
    unfold cN;rw [if_neg (show ¬((2:Int)=1)by decide),if_neg (show ¬((2:Int)=3)by decide),if_pos rfl];rfl
   refine(hD _).2 fun ge A8 hN8=> ?_
   have hN8:Ak.New A8 ge (List.toArray [Value.int .u8 4,.int .i64 0,.int .i64 0,.int .i64 0,.int .i64 0,.int .i64 0,.string ⟨#[]⟩,nlS,.int .i64 0,.int .i64 0,.int .i64 0,.int .i64 0,.int .i64 0,.int .i64 0,.int .i64 0,.int .i64 0,.int .i64 0,.int .i64 0,nlS,.int .i64 0,nlS,nlS]) 46:=hN8;have hG8:=hGk.sub hN8.sub;obtain⟨hPf,hAp9⟩:=hG8.fy;have hPd:=hPf 1 248 (by omega) (by omega)
   have hd7:∀j,A8.blk j=none→A1.blk j=none:=fun j hj=>by
    cases h9:A1.blk j with
    |none=>rfl
    |some o9=>
     rw [(hsk.trans hN8.sub) j o9 h9]at hj
     cases hj
   have hrow9:A8.rd ge 0 (1*22)=some [Value.int .u8 4,.int .i64 0,.int .i64 0,.int .i64 0,.int .i64 0,.int .i64 0,.string ⟨#[]⟩,nlS,.int .i64 0,.int .i64 0,.int .i64 0,.int .i64 0,.int .i64 0,.int .i64 0,.int .i64 0,.int .i64 0,.int .i64 0,.int .i64 0,nlS,.int .i64 0,nlS,nlS]:=hN8.rd (o:=0) (n:=1*22) (by show 0+1*22≤22;omega);rcases hbase with rfl|⟨gx,rfl⟩<;>(conv=>lhs;whnf)
   all_goals
    refine(hD _).2 ⟨_, [Value.int .u8 4,.int .i64 0,.int .i64 0,.int .i64 0,.int .i64 0,.int .i64 0,.string ⟨#[]⟩,nlS,.int .i64 0,.int .i64 0,.int .i64 0,.int .i64 0,.int .i64 0,.int .i64 0,.int .i64 0,.int .i64 0,.int .i64 0,.int .i64 0,nlS,.int .i64 0,nlS,nlS],hPd.rd,hrow9,rfl,fun v hv=>by
     simp only [List.mem_cons,List.not_mem_nil,or_false]at hv
     rcases hv with rfl|rfl|rfl|rfl|rfl|rfl|rfl|rfl|rfl|rfl|rfl|rfl|rfl|rfl|rfl|rfl|rfl|rfl|rfl|rfl|rfl|rfl<;>rfl,?_,hPd.cap,rfl,hPd.none_,fun g' o' he' hle' _=>hPd.room 22 rfl g' o' he' hle',fun v9 A7 hAp=> ?_⟩
    ·show k+1≤9223372036854775807
     omega
    ·obtain⟨hG7,hk7⟩:=hAp9 1 [Value.int .u8 4,.int .i64 0,.int .i64 0,.int .i64 0,.int .i64 0,.int .i64 0,.string ⟨#[]⟩,nlS,.int .i64 0,.int .i64 0,.int .i64 0,.int .i64 0,.int .i64 0,.int .i64 0,.int .i64 0,.int .i64 0,.int .i64 0,.int .i64 0,nlS,.int .i64 0,nlS,nlS] v9 A7 rfl hd7 hAp
     obtain⟨b9,c9,hv9, -⟩:=hG7.form;subst hv9
     have hs7:A1.Sub A7:=fun x o9 hx=>by
      rw [hk7 x o9 hx];exact(hsk.trans hN8.sub) x o9 hx
     have hG7':bq A1 A7 22 46 (k+1) (.slice (aD b9) (k+1) c9) (((parts.take (k+1)).map fun p:aB=>cN (bE T) p.h).flatMap dj.cells):=by
      rw [List.take_succ_eq_append_getElem hkl,List.map_append,List.flatMap_append,hpk];rw [←hrow9c]at hG7;simpa using hG7
     conv=>lhs;whnf
     repeat(first|refine au hD rfl ?_
            conv=>lhs;whnf)
     exact(hD _).2 ⟨(⟨k+1,A7,.slice (aD b9) (k+1) c9⟩:DgL),⟨⟨hkl,hs7,hG7'⟩,⟨av (k:=k) (by omega),trivial⟩,⟨rfl,trivial⟩,rfl⟩,by show parts.length-(k+1)<parts.length-k;omega,⟨an rfl rfl,an rfl rfl,an rfl rfl,an rfl rfl,an rfl rfl,an rfl rfl,an rfl rfl,trivial⟩,⟨an rfl rfl,an rfl rfl,trivial⟩⟩
  conv=>lhs;whnf
  repeat(first|refine aq k0 ?_|refine af r5 ?_|refine aI p1 ?_|refine aI p3 ?_|refine aI p2 ?_|refine au hD rfl ?_
         conv=>lhs;whnf)
  have hrow9c:(cN (bE T) (aB.mk ⟨pz,pk,pses,pturn,pxid,ptime,ppath,pdata,powner,pver,pcver,ptmo,perr,pcfg,pmem⟩ pparts).h).cells= [Value.int .u8 0,.int .i64 0,.int .i64 0,.int .i64 0,.int .i64 0,.int .i64 0,.string ⟨#[]⟩,nlS,.int .i64 0,.int .i64 0,.int .i64 0,.int .i64 0,.int .i64 0,.int .i64 0,.int .i64 0,.int .i64 0,.int .i64 0,.int .i64 0,nlS,.int .i64 0,nlS,nlS]:=by
   show dj.cells (cN (bE T) ⟨pz,pk,pses,pturn,pxid,ptime,ppath,pdata,powner,pver,pcver,ptmo,perr,pcfg,pmem⟩)=_
   unfold cN;rw [if_neg p1,if_neg p3,if_neg p2];rfl
  refine(hD _).2 fun ge A8 hN8=> ?_
  have hN8:Ak.New A8 ge (List.toArray [Value.int .u8 0,.int .i64 0,.int .i64 0,.int .i64 0,.int .i64 0,.int .i64 0,.string ⟨#[]⟩,nlS,.int .i64 0,.int .i64 0,.int .i64 0,.int .i64 0,.int .i64 0,.int .i64 0,.int .i64 0,.int .i64 0,.int .i64 0,.int .i64 0,nlS,.int .i64 0,nlS,nlS]) 46:=hN8;have hG8:=hGk.sub hN8.sub;obtain⟨hPf,hAp9⟩:=hG8.fy;have hPd:=hPf 1 248 (by omega) (by omega)
  have hd7:∀j,A8.blk j=none→A1.blk j=none:=fun j hj=>by
   cases h9:A1.blk j with
   |none=>rfl
   |some o9=>
    rw [(hsk.trans hN8.sub) j o9 h9]at hj
    cases hj
  have hrow9:A8.rd ge 0 (1*22)=some [Value.int .u8 0,.int .i64 0,.int .i64 0,.int .i64 0,.int .i64 0,.int .i64 0,.string ⟨#[]⟩,nlS,.int .i64 0,.int .i64 0,.int .i64 0,.int .i64 0,.int .i64 0,.int .i64 0,.int .i64 0,.int .i64 0,.int .i64 0,.int .i64 0,nlS,.int .i64 0,nlS,nlS]:=hN8.rd (o:=0) (n:=1*22) (by show 0+1*22≤22;omega);rcases hbase with rfl|⟨gx,rfl⟩<;>(conv=>lhs;whnf)
  all_goals
   refine(hD _).2 ⟨_, [Value.int .u8 0,.int .i64 0,.int .i64 0,.int .i64 0,.int .i64 0,.int .i64 0,.string ⟨#[]⟩,nlS,.int .i64 0,.int .i64 0,.int .i64 0,.int .i64 0,.int .i64 0,.int .i64 0,.int .i64 0,.int .i64 0,.int .i64 0,.int .i64 0,nlS,.int .i64 0,nlS,nlS],hPd.rd,hrow9,rfl,fun v hv=>by
    simp only [List.mem_cons,List.not_mem_nil,or_false]at hv
    rcases hv with rfl|rfl|rfl|rfl|rfl|rfl|rfl|rfl|rfl|rfl|rfl|rfl|rfl|rfl|rfl|rfl|rfl|rfl|rfl|rfl|rfl|rfl<;>rfl,?_,hPd.cap,rfl,hPd.none_,fun g' o' he' hle' _=>hPd.room 22 rfl g' o' he' hle',fun v9 A7 hAp=> ?_⟩
   ·show k+1≤9223372036854775807
    omega
   ·obtain⟨hG7,hk7⟩:=hAp9 1 [Value.int .u8 0,.int .i64 0,.int .i64 0,.int .i64 0,.int .i64 0,.int .i64 0,.string ⟨#[]⟩,nlS,.int .i64 0,.int .i64 0,.int .i64 0,.int .i64 0,.int .i64 0,.int .i64 0,.int .i64 0,.int .i64 0,.int .i64 0,.int .i64 0,nlS,.int .i64 0,nlS,nlS] v9 A7 rfl hd7 hAp
    obtain⟨b9,c9,hv9, -⟩:=hG7.form;subst hv9
    have hs7:A1.Sub A7:=fun x o9 hx=>by
     rw [hk7 x o9 hx];exact(hsk.trans hN8.sub) x o9 hx
    have hG7':bq A1 A7 22 46 (k+1) (.slice (aD b9) (k+1) c9) (((parts.take (k+1)).map fun p:aB=>cN (bE T) p.h).flatMap dj.cells):=by
     rw [List.take_succ_eq_append_getElem hkl,List.map_append,List.flatMap_append,hpk];rw [←hrow9c]at hG7;simpa using hG7
    conv=>lhs;whnf
    repeat(first|refine au hD rfl ?_
           conv=>lhs;whnf)
    exact(hD _).2 ⟨(⟨k+1,A7,.slice (aD b9) (k+1) c9⟩:DgL),⟨⟨hkl,hs7,hG7'⟩,⟨av (k:=k) (by omega),trivial⟩,⟨rfl,trivial⟩,rfl⟩,by show parts.length-(k+1)<parts.length-k;omega,⟨an rfl rfl,an rfl rfl,an rfl rfl,an rfl rfl,an rfl rfl,an rfl rfl,an rfl rfl,trivial⟩,⟨an rfl rfl,an rfl rfl,trivial⟩⟩
 have hdef:iu.post ((⟨t,T,kind,.mk ⟨zxid,dk,ses,ah,xid,dtime,path,data,owner,ver,cver,tmo,err,cfg,mem⟩ parts,S⟩:DnG)) [] A (.agg (ek.cells ⟨kind,xid,zxid,0,0,0,⟨#[]⟩,st0,0, [], []⟩ nlS nlS).toArray) A1:=by
  have e:cO (bE T) kind (.mk ⟨zxid,dk,ses,ah,xid,dtime,path,data,owner,ver,cver,tmo,err,cfg,mem⟩ parts)=⟨kind,xid,zxid,0,0,0,⟨#[]⟩,st0,0, [], []⟩:=uR h9 hk1 hk3 hk5 hk12 hk11;show w5 A A1 (cO (bE T) kind (.mk ⟨zxid,dk,ses,ah,xid,dtime,path,data,owner,ver,cver,tmo,err,cfg,mem⟩ parts)) _
  rw [e];exact oE s1 rfl rfl rfl
 by_cases e1:kind=1
 ·subst e1
  have n1:¬dk=4:=fun h=>hk1 ⟨rfl,h⟩
  conv=>lhs;whnf
  repeat(first|refine aI h9 ?_|refine aI n1 ?_|refine au hD rfl ?_
         conv=>lhs;whnf)
  exact(hD _).2 hdef
 by_cases e3:kind=3
 ·subst e3
  have n1:¬dk=1:=fun h=>hk3 ⟨rfl,h⟩
  conv=>lhs;whnf
  repeat(first|refine aI h9 ?_|refine aI n1 ?_|refine au hD rfl ?_
         conv=>lhs;whnf)
  exact(hD _).2 hdef
 by_cases e5:kind=5
 ·subst e5
  have n1:¬dk=3:=fun h=>hk5 ⟨rfl,h⟩
  conv=>lhs;whnf
  repeat(first|refine aI h9 ?_|refine aI n1 ?_|refine au hD rfl ?_
         conv=>lhs;whnf)
  exact(hD _).2 hdef
 by_cases e12:kind=12
 ·subst e12
  have n1:¬dk=7:=fun h=>hk12 ⟨rfl,h⟩
  conv=>lhs;whnf
  repeat(first|refine aI h9 ?_|refine aI n1 ?_|refine au hD rfl ?_
         conv=>lhs;whnf)
  exact(hD _).2 hdef
 by_cases e11:kind=11
 ·subst e11
  have n1:¬dk=8:=fun h=>hk11 ⟨rfl,h⟩
  conv=>lhs;whnf
  repeat(first|refine aI h9 ?_|refine aI n1 ?_|refine au hD rfl ?_
         conv=>lhs;whnf)
  exact(hD _).2 hdef
 conv=>lhs;whnf
 repeat(first|refine aI h9 ?_|refine aI e1 ?_|refine aI e3 ?_|refine aI e5 ?_|refine aI e12 ?_|refine aI e11 ?_|refine au hD rfl ?_
        conv=>lhs;whnf)
 exact(hD _).2 hdef
end
end Go.Proofs.YtphigpccfbfnoaaGreatDoor
namespace Go.Proofs.YtphigpccfbfnoaaGreatDoor
open Go.Sx Go.RowKit Go.Sort Go.Shelf
noncomputable section
theorem yI{α:Type} [Inhabited α](enc:α→List Value)(k:Nat)(hk:∀x,(enc x).length=k)(hp:0<k):∀(l:List α) (t:Nat),t<l.length*k→(l.flatMap enc)[t]? =(enc (l[t/k]!))[t%k]?
 | [],t,h=>by simp at h
 |x::l,t,h=>by
  rw [List.flatMap_cons]
  by_cases ht:t<k
  ·rw [List.getElem?_append_left (by rw [hk];exact ht),Nat.div_eq_of_lt ht,Nat.mod_eq_of_lt ht];rfl
  ·rw [List.getElem?_append_right (by rw [hk];omega),hk]
   have hlt:t-k<l.length*k:=by
    rw [List.length_cons,Nat.succ_mul]at h;omega
   rw [yI enc k hk hp l (t-k) hlt]
   have e1:t/k=(t-k)/k+1:=by
    rw [Nat.div_eq_sub_div hp (by omega)]
   have e2:t%k=(t-k)%k:=by rw [Nat.mod_eq_sub_mod (by omega)]
   rw [e1,e2];simp
theorem sV{α:Type} [Inhabited α](enc:α→List Value)(k:Nat)(hk:∀x,(enc x).length=k)(hp:0<k)(l:List α):(flatK enc k l.toArray).toList=l.flatMap enc:=by
 have hlen:(l.flatMap enc).length=l.length*k:=by
  induction l with
  |nil=>simp
  |cons x l ih=>rw [List.flatMap_cons,List.length_append,hk,ih,List.length_cons,Nat.succ_mul];omega
 refine List.ext_getElem? fun t=> ?_
 by_cases ht:t<l.length*k
 ·rw [yI enc k hk hp l t ht]
  have hm:t%k<k:=Nat.mod_lt _ hp;simp only [flatK,Array.toList_map,Array.toList_range,List.getElem?_map,List.size_toArray];rw [List.getElem?_range ht];simp only [Option.map_some,List.getElem!_toArray];rw [List.getElem?_eq_getElem (by rw [hk];exact hm)];congr 1;rw [List.getElem!_eq_getElem?_getD,List.getElem?_eq_getElem (by rw [hk];exact hm)];rfl
 ·rw [List.getElem?_eq_none (by rw [Array.length_toList,size_flatK,List.size_toArray];omega),List.getElem?_eq_none (by rw [hlen];omega)]
theorem xM{β:Type} [Inhabited β](enc:β→Value)(d:Array β)(c:Array Value)(h:d.size≤c.size):(putCells enc 0 d c).toList=c.toList.take 0++d.toList.map enc++c.toList.drop (0+(d.toList.map enc).length):=by
 obtain⟨d⟩:=d;have h:d.length≤c.size:=h;refine List.ext_getElem? fun k=> ?_
 simp only [putCells,Array.toList_mapIdx,List.getElem?_mapIdx,List.take_zero,List.nil_append,List.length_map,Nat.zero_add,Nat.zero_le,true_and,List.size_toArray,Nat.sub_zero]
 by_cases hk:k<d.length
 ·rw [List.getElem?_append_left (by simpa using hk),List.getElem?_map,List.getElem?_eq_getElem hk]
  have hkc:k<c.toList.length:=Nat.lt_of_lt_of_le hk h;have h1:c.toList[k]? =some c.toList[k]:=List.getElem?_eq_getElem hkc;rw [h1];simp [hk]
 ·rw [List.getElem?_append_right (by simpa using Nat.le_of_not_lt hk),List.length_map,List.getElem?_drop,Nat.add_sub_cancel' (Nat.le_of_not_lt hk)]
  cases c.toList[k]? <;>simp [hk]
theorem CQ{β:Type} [Inhabited β](enc:β→Value){A:aa}{w w':World}(hA:∀k o,A.blk k=some o→w.heap[k]? =some o){g:Nat}{c:Array Value}{t:TypeId}{fz:Nat×Nat}(hb:A.blk g=some (.cells c t fz)){arr:Array β}(hd:arr.size≤c.size){n:Nat}{os:Array Obj}
  (k2:w'=grow (putRow enc (Sort.ahead w n) g 0 arr) os):∃A',A.Put A' g 0 (arr.toList.map enc)∧GP A A' w w':=by
 subst k2;have hw:=hA _ _ hb;have hsz:g<w.heap.size:=(Array.getElem?_eq_some_iff.1 hw).1;refine⟨aa.of (fun k=>if k=g then some (.cells (putCells enc 0 arr c) t fz)else A.blk k),⟨⟨c,t,fz,_,hb,if_pos rfl,xM enc arr c hd⟩,fun k hk=>if_neg hk⟩,?_⟩
 have at_:∀k,k<w.heap.size→(grow (putRow enc (Sort.ahead w n) g 0 arr) os).heap[k]? =if k=g then some (.cells (putCells enc 0 arr c) t fz)else w.heap[k]? :=fun k hk=>by
  show(((w.heap.modify g (onCells (putCells enc 0 arr)))++os)[k]?)=_
  rw [Array.getElem?_append_left (by simpa using hk),Array.getElem?_modify]
  by_cases e:k=g
  ·subst e;rw [if_pos rfl,if_pos rfl,hw];rfl
  ·rw [if_neg (fun h=>e h.symm),if_neg e]
 have lt_:∀k o,A.blk k=some o→k<w.heap.size:=fun k o hk=>(Array.getElem?_eq_some_iff.1 (hA k o hk)).1
 refine⟨rfl,rfl,rfl,fun k hk hks=> ?_,fun k o hk=> ?_,fun k o hk=> ?_⟩
 ·rw [at_ k hks,if_neg fun e=>(by rw [e,hb]at hk;cases hk)]
 ·have hk:(if k=g then some (Obj.cells (putCells enc 0 arr c) t fz)else A.blk k)=some o:=hk
  by_cases e:k=g
  ·rw [if_pos e]at hk
   rw [at_ k (e▸hsz),if_pos e,hk]
  ·rw [if_neg e]at hk
   rw [at_ k (lt_ k o hk),if_neg e];exact hA k o hk
 ·have hk:(if k=g then some (Obj.cells (putCells enc 0 arr c) t fz)else A.blk k)=some o:=hk
  by_cases e:k=g
  ·exact .inl ⟨_,e▸hb⟩
  ·rw [if_neg e]at hk;exact .inl ⟨o,hk⟩
def sfRen:Go.Shelf.Ren:=⟨fun|6=>91|15=>133|14=>132|28=>172|29=>173|20=>164|21=>165|22=>166|23=>167|24=>168|25=>169|26=>170|27=>171|46=>190|47=>191|48=>192|49=>193|50=>194|57=>205|n=>n,fun|22=>65|24=>83|25=>160|3=>3|39=>191|0=>0|53=>265|55=>195|4=>4|46=>258|45=>257|50=>262|5=>5|9=>9|66=>276|70=>280|76=>295|77=>296|n=>n,fun|n=>n⟩
theorem Ez:SlLaysF0.n6 Tryz.prog sfRen where
 mixed:=by kernel_rfl
 f6:=⟨"slices.SortFunc[[]beadle/api.Sitting,beadle/api.Sitting]",by decide,Tryz.func91.trans (congrArg some (by kernel_rfl))⟩
 f14:=⟨"slices.pdqsortCmpFunc[beadle/api.Sitting]",by decide,Tryz.func132.trans (congrArg some (by kernel_rfl))⟩
 f15:=Tryz.func133.trans (congrArg some (by kernel_rfl))
 f20:=⟨"slices.insertionSortCmpFunc[beadle/api.Sitting]",by decide,Tryz.func164.trans (congrArg some (by kernel_rfl))⟩
 f21:=⟨"slices.heapSortCmpFunc[beadle/api.Sitting]",by decide,Tryz.func165.trans (congrArg some (by kernel_rfl))⟩
 f22:=⟨"slices.breakPatternsCmpFunc[beadle/api.Sitting]",by decide,Tryz.func166.trans (congrArg some (by kernel_rfl))⟩
 f23:=⟨"slices.choosePivotCmpFunc[beadle/api.Sitting]",by decide,Tryz.func167.trans (congrArg some (by kernel_rfl))⟩
 f24:=⟨"slices.reverseRangeCmpFunc[beadle/api.Sitting]",by decide,Tryz.func168.trans (congrArg some (by kernel_rfl))⟩
 f25:=⟨"slices.partialInsertionSortCmpFunc[beadle/api.Sitting]",by decide,Tryz.func169.trans (congrArg some (by kernel_rfl))⟩
 f26:=⟨"slices.partitionEqualCmpFunc[beadle/api.Sitting]",by decide,Tryz.func170.trans (congrArg some (by kernel_rfl))⟩
 f27:=⟨"slices.partitionCmpFunc[beadle/api.Sitting]",by decide,Tryz.func171.trans (congrArg some (by kernel_rfl))⟩
 f28:=Tryz.func172.trans (congrArg some (by kernel_rfl))
 f29:=Tryz.func173.trans (congrArg some (by kernel_rfl))
 f46:=⟨"slices.siftDownCmpFunc[beadle/api.Sitting]",by decide,Tryz.func190.trans (congrArg some (by kernel_rfl))⟩
 f47:=Tryz.func191.trans (congrArg some (by kernel_rfl))
 f48:=Tryz.func192.trans (congrArg some (by kernel_rfl))
 f49:=⟨"slices.medianAdjacentCmpFunc[beadle/api.Sitting]",by decide,Tryz.func193.trans (congrArg some (by kernel_rfl))⟩
 f50:=⟨"slices.medianCmpFunc[beadle/api.Sitting]",by decide,Tryz.func194.trans (congrArg some (by kernel_rfl))⟩
 f57:=⟨"slices.order2CmpFunc[beadle/api.Sitting]",by decide,Tryz.func205.trans (congrArg some (by kernel_rfl))⟩
 t0:=Tryz.underlying0
 a0:=Tryz.isAgg0
 z0:=Tryz.sizeOf0
 v0:=Tryz.zeroValue0
 t3:=Tryz.underlying3
 a3:=Tryz.isAgg3
 z3:=Tryz.sizeOf3
 v3:=Tryz.zeroValue3
 t4:=Tryz.underlying4
 a4:=Tryz.isAgg4
 z4:=Tryz.sizeOf4
 v4:=Tryz.zeroValue4
 t5:=Tryz.underlying5
 a5:=Tryz.isAgg5
 z5:=Tryz.sizeOf5
 v5:=Tryz.zeroValue5
 t9:=Tryz.underlying9
 a9:=Tryz.isAgg9
 z9:=Tryz.sizeOf9
 v9:=Tryz.zeroValue9
 t22:=Tryz.underlying65
 a22:=Tryz.isAgg65
 z22:=Tryz.sizeOf65
 v22:=Tryz.zeroValue65
 t25:=Tryz.underlying160
 a25:=Tryz.isAgg160
 z25:=Tryz.sizeOf160
 v25:=Tryz.zeroValue160
 t39:=Tryz.underlying191
 a39:=Tryz.isAgg191
 z39:=Tryz.sizeOf191
 v39:=Tryz.zeroValue191
 t45:=Tryz.underlying257
 a45:=Tryz.isAgg257
 z45:=Tryz.sizeOf257
 v45:=Tryz.zeroValue257
 t46:=Tryz.underlying258
 a46:=Tryz.isAgg258
 z46:=Tryz.sizeOf258
 v46:=Tryz.zeroValue258
 t50:=Tryz.underlying262
 a50:=Tryz.isAgg262
 z50:=Tryz.sizeOf262
 v50:=Tryz.zeroValue262
 t53:=Tryz.underlying265
 a53:=Tryz.isAgg265
 z53:=Tryz.sizeOf265
 v53:=Tryz.zeroValue265
 t55:=Tryz.underlying195
 a55:=Tryz.isAgg195
 z55:=Tryz.sizeOf195
 v55:=Tryz.zeroValue195
 t66:=Tryz.underlying276
 a66:=Tryz.isAgg276
 z66:=Tryz.sizeOf276
 v66:=Tryz.zeroValue276
 t70:=Tryz.underlying280
 a70:=Tryz.isAgg280
 z70:=Tryz.sizeOf280
 v70:=Tryz.zeroValue280
 t76:=Tryz.underlying295
 a76:=Tryz.isAgg295
 z76:=Tryz.sizeOf295
 v76:=Tryz.zeroValue295
 t77:=Tryz.underlying296
 a77:=Tryz.isAgg296
 z77:=Tryz.sizeOf296
 v77:=Tryz.zeroValue296
instance :Inhabited bb:=⟨⟨0,0,0⟩⟩
def br(s:bb):List Value:= [.int .i64 s.ses,.int .i64 s.tmo,.int .i64 s.ah]
def cfI(x y:Int):Int:=if x<y then-1 else 1
def fH(ks:List Int):List Int:=ks.mergeSort fun x y=> !(ltOf cfI) y x
theorem lr(x y:Int):ltOf cfI x y=decide (x<y):=by
 unfold ltOf cfI
 by_cases h:x<y<;>simp [h]
theorem swo_cfI:SWO (ltOf cfI):=⟨fun x=>by simp [lr],fun x y z h1 h2=>by
 simp only [lr,decide_eq_true_eq]at*;omega,fun x y z h1 h2=>by
 simp only [lr,decide_eq_false_iff_not]at*;omega⟩
theorem rn(ks:List Int):fH ks=ks.mergeSort fun x y=>decide (x≤y):=by
 unfold fH;congr 1
 funext x y
 rw [lr]
 by_cases h:y<x
 ·have h2:¬x≤y:=by omega
  simp [h,h2]
 ·have h2:x≤y:=by omega
  simp [h,h2]
theorem eN(ks:List Int):(fH ks).length=ks.length:=List.length_mergeSort _
theorem jZ(ks:List Int):(fH ks).Perm ks:=List.mergeSort_perm _ _
theorem cmpSit(x y:bb)(W:World):Calls Tryz.prog 92 #[.agg (br x).toArray,.agg (br y).toArray] W fun e w'=>e= .returned (.int .i64 (cfI x.ses y.ses))∧∃q os',w'=grow (W.drewN q) os':=by
 obtain⟨a,b,c⟩:=x;obtain⟨a',b',c'⟩:=y;simp only [br]
 by_cases h:a<a'
 ·have hc:cfI a a'= -1:=if_pos h
  rw [hc]
  go_enter Tryz.func92,Tryz.ntmps92
  go_wp2
  go_ret
  exact⟨rfl,0,_,by rw [alloc_eq_grow,alloc_eq_grow,grow_grow];rfl⟩
 ·have hc:cfI a a'=1:=if_neg h
  rw [hc]
  go_enter Tryz.func92,Tryz.ntmps92
  go_wp2
  go_ret
  exact⟨rfl,0,_,by rw [alloc_eq_grow,alloc_eq_grow,grow_grow];rfl⟩
def cmpV:Value:= .func (.func 92) #[] #[]
def ri:aL:=⟨Nat×(Int→bb)×List Int,fun g vs A=>(∀s,(g.2.1 s).ses=s)∧((g.2.2= []∧∃p cap,vs= [.slice p 0 cap,cmpV])∨
  (g.2.2≠ []∧g.2.2.length<4611686018427387904∧A.Room g.1 0 (g.2.2.length*3)∧A.rd g.1 0 (g.2.2.length*3)=some (g.2.2.flatMap fun s=>br (g.2.1 s))∧∃cap,vs= [.slice (some ⟨g.1,0,none⟩) g.2.2.length cap,cmpV])),
 fun g _ A _ A'=>(g.2.2= []→A'=A)∧(g.2.2≠ []→A.Put A' g.1 0 ((fH g.2.2).flatMap fun s=>br (g.2.1 s)))⟩
theorem zq:FOk Tryz.prog 91 ri:=by
 intro⟨g,gf,ks⟩ vs A w hA hp;refine fx Tryz.func91 ⟨by kernel_rfl,by kernel_rfl⟩ ?_;obtain⟨hs,hp⟩:=hp;rcases hp with⟨h0,p,cap,rfl⟩|⟨h0,hlt,⟨c,t,fz,hb,hle,hfz⟩,hr,cap,rfl⟩
 ·intro cs
  obtain⟨e,w',fr,⟨k1,k2⟩,k3⟩:=AnyF.slices_SortFunc_none Ez p cap cmpV w cs;subst k2;exact⟨e,w',fr,⟨_,k1,A,⟨fun _=>rfl,fun h=>absurd h0 h⟩,rfl,rfl,rfl,fun _ _ _=>rfl,hA,fun k o ho=> .inl ⟨o,ho⟩⟩,k3⟩
 ·dsimp only at hs h0 hlt hle hr hb hfz
  have hw:=hA _ _ hb;have hsz:g<w.heap.size:=(Array.getElem?_eq_some_iff.1 hw).1;have hk3:∀x:Int,(br (gf x)).length=3:=fun _=>rfl
  have hfl:=sV (fun s=>br (gf s)) 3 hk3 (by omega) ks;have hfs:(flatK (fun s=>br (gf s)) 3 ks.toArray).size=ks.length*3:=by rw [size_flatK];simp
  have hH:HoldsK (fun s=>br (gf s)) 3 w g 0 ks.toArray:=fun j hj=>by
   have hj':j<ks.length*3:=by rw [hfs]at hj;exact hj
   constructor
   ·have hr':(c.toList.drop 0).take (ks.length*3)=ks.flatMap fun s=>br (gf s):=by
      rw [A.rdeq]at hr;unfold zF at hr;rw [hb]at hr;simp only at hr;rw [if_pos (by omega)]at hr;injection hr
    have h3:((c.toList.drop 0).take (ks.length*3))[j]? =(flatK (fun s=>br (gf s)) 3 ks.toArray).toList[j]? :=by rw [hr',hfl]
    rw [List.drop_zero,List.getElem?_take,if_pos hj']at h3;unfold World.cell?;rw [hw];simp only [Option.isSome_none,Bool.false_eq_true,if_false,Nat.zero_add];rw [←Array.getElem?_toList,h3,Array.getElem?_toList,Array.getElem?_eq_getElem hj,getElem!_pos (flatK (fun s=>br (gf s)) 3 ks.toArray) j hj];rfl
   ·unfold World.frozen?
    rw [hw];have h9:=hfz.not (0+j) (by omega);obtain⟨lo,hi⟩:=fz;dsimp only at h9 ⊢;rw [←Bool.decide_and];exact decide_eq_false h9
  intro cs
  have hcon:=AnyQ.slices_SortFunc_total Ez 3 Tryz.isAgg83 Tryz.sizeOf83 (fun s=>br (gf s)) hk3 (fun x v hv=>by
   simp only [br,List.mem_cons,List.not_mem_nil,or_false]at hv
   rcases hv with rfl|rfl|rfl<;>rfl) cfI swo_cfI 92 #[] g 0 cap ks.toArray w
   (enters_of Tryz.func92 (by kernel_rfl) rfl)
   (fun m os dk _ x y=>by
     have:=cmpSit (gf x) (gf y) (sortWorldK (fun s=>br (gf s)) 3 w g 0 m dk os);rw [hs,hs]at this
     exact this) hH hsz (by simpa using hlt) (fun x y h1 h2=>by
     simp only [lr,decide_eq_false_iff_not]at h1 h2
     omega)
  rw [List.size_toArray]at hcon;obtain⟨e,w',fr,⟨k1,n,os,k2⟩,k3⟩:=hcon cs;have k2:w'=grow (putRow id (Sort.ahead w n) g 0 (flatK (fun s=>br (gf s)) 3 (fH ks).toArray)) os:=k2;obtain⟨A',hP,hM⟩:=CQ id hA hb (by rw [size_flatK,List.size_toArray,eN];omega) k2;rw [List.map_id,sV (fun s=>br (gf s)) 3 hk3 (by omega)]at hP;exact⟨e,w',fr,⟨_,k1,A',⟨fun h=>absurd h h0,fun _=>hP⟩,hM⟩,k3⟩
end
end Go.Proofs.YtphigpccfbfnoaaGreatDoor
