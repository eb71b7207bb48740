/-
  Parts of the proof: ReB ReC ReD
-/
import Derived.Test.YtphigpccfbfnoaaGreatDoorG40
import Derived.Test.YtphigpccfbfnoaaGreatDoorG35
import Derived.Test.YtphigpccfbfnoaaGreatDoorG24
import Derived.Test.YtphigpccfbfnoaaGreatDoorG28
set_option maxRecDepth 100000
set_option maxHeartbeats 0
namespace Go.Proofs.YtphigpccfbfnoaaGreatDoor
open Go.Sx Go.RowKit
noncomputable section
open Classical
def ew(h:bJ)(np:Nat):Prop:=
 bG h np∧bO h.path.data.toList=true∧h.data.length≤1000∧0≤h.owner∧0≤h.cver∧0≤h.ver∧(h.kind=3∨((h.kind=1∨h.kind=2)∧h.path.data.toList≠ [47]))
def zz:aL:=⟨aB,fun d vs A=>∃cs,vs= [bx cs]∧bj A d cs,fun d _ A v A'=>A.Sub A'∧v= .bool (decide (ew d.h d.parts.length))⟩
theorem xB:FOk Tryz.prog 79 zz:=by
 refine aS mixed fun d vs A hp=> ?_
 obtain⟨cs,rfl,hR⟩:∃cs,vs= [bx cs]∧bj A d cs:=hp;have hR0:=hR;obtain⟨⟨zxid,kind,ses,ah,xid,dtime,path,data,owner,ver,cver,tmo,err,cfg,mem⟩,parts⟩:=d;rw [bj]at hR;dsimp only [bJ.cells]at hR;obtain⟨vd,vm,vp,rws,rfl,hpl,hd1,hM,hSp,hlen2,hRows⟩:=hR;obtain⟨a7,k7,rfl⟩:=hd1.1.form;obtain⟨a14,k14,rfl⟩:=hM.1.form;obtain⟨a15,k15,rfl⟩:=hSp.form
 have hC:aF Tryz.prog (bu [aE 78 jO,aE 126 oW] noC):=az (aj _) (fun x hx=>by
  simp only [List.mem_cons,List.not_mem_nil,or_false]at hx;rcases hx with rfl|rfl
  ·exact ai Ch
  ·exact ai xI)
 refine⟨_,noL,60,hC,ak _,fun blk os out tape D hD=> ?_⟩;obtain⟨h,hh⟩:∃h:bJ,h=⟨zxid,kind,ses,ah,xid,dtime,path,data,owner,ver,cver,tmo,err,cfg,mem⟩:=⟨_,rfl⟩;have bad:∀A2,A.Sub A2→¬ew ⟨zxid,kind,ses,ah,xid,dtime,path,data,owner,ver,cver,tmo,err,cfg,mem⟩ parts.length→A.Sub A2∧Value.bool false= .bool (decide (ew ⟨zxid,kind,ses,ah,xid,dtime,path,data,owner,ver,cver,tmo,err,cfg,mem⟩ parts.length)):=fun A2 h2 hb=>⟨h2,by rw [decide_eq_false hb]⟩
 have good:∀A2 (b:Bool),A.Sub A2→(b=true↔ew ⟨zxid,kind,ses,ah,xid,dtime,path,data,owner,ver,cver,tmo,err,cfg,mem⟩ parts.length)→A.Sub A2∧Value.bool b= .bool (decide (ew ⟨zxid,kind,ses,ah,xid,dtime,path,data,owner,ver,cver,tmo,err,cfg,mem⟩ parts.length)):=fun A2 b h2 hb=>⟨h2,by
  congr 1
  rw [Bool.eq_iff_iff,hb,decide_eq_true_iff]⟩
 conv=>lhs;whnf
 refine(hD _).2 ⟨(.mk ⟨zxid,kind,ses,ah,xid,dtime,path,data,owner,ver,cver,tmo,err,cfg,mem⟩ parts:aB),⟨_,rfl,hR0⟩,fun v A9 hq=> ?_⟩;have hq:A9=A∧v= .bool (decide (bG ⟨zxid,kind,ses,ah,xid,dtime,path,data,owner,ver,cver,tmo,err,cfg,mem⟩ parts.length)):=hq;have h9:=hq.1.symm;have hv:=hq.2;subst h9
 by_cases hb:bG ⟨zxid,kind,ses,ah,xid,dtime,path,data,owner,ver,cver,tmo,err,cfg,mem⟩ parts.length
 rotate_left
 ·rw [decide_eq_false hb]at hv
  subst hv;conv=>lhs;whnf
  exact(hD _).2 (bad A (aa.Sub.refl _) fun hB=>hb hB.1)
 rw [decide_eq_true hb]at hv;subst hv;conv=>lhs;whnf
 refine(hD _).2 ⟨path,⟨rfl,hpl⟩,fun v A1 hq=> ?_⟩;have hq:A.Sub A1∧v= .bool (bO path.data.toList):=hq;obtain⟨s1,hv⟩:=hq
 by_cases hpk:bO path.data.toList=true
 rotate_left
 ·have hpk':bO path.data.toList=false:=by simpa using hpk
  rw [hpk']at hv;subst hv;conv=>lhs;whnf
  exact(hD _).2 (bad A1 s1 fun hB=>hpk hB.2.1)
 rw [hpk]at hv;subst hv;conv=>lhs;whnf
 refine ab (fun h1=> ?_) (fun h1=> ?_)<;>(conv=>lhs;whnf)
 ·exact(hD _).2 (bad A1 s1 fun hB=>by
   have h2:=hB.2.2.1;dsimp only at h2;have h1:(1000:Int)<(data.length:Int):=h1
   omega)
 refine ab (fun h2=> ?_) (fun h2=> ?_)<;>(conv=>lhs;whnf)
 ·exact(hD _).2 (bad A1 s1 fun hB=>by
   have h3:=hB.2.2.2.1;dsimp only at h3
   omega)
 refine ab (fun h3=> ?_) (fun h3=> ?_)<;>(conv=>lhs;whnf)
 ·exact(hD _).2 (bad A1 s1 fun hB=>by
   have h4:=hB.2.2.2.2.1;dsimp only at h4
   omega)
 refine ab (fun h4=> ?_) (fun h4=> ?_)<;>(conv=>lhs;whnf)
 ·exact(hD _).2 (bad A1 s1 fun hB=>by
   have h5:=hB.2.2.2.2.2.1;dsimp only at h5
   omega)
 have hrest:ew ⟨zxid,kind,ses,ah,xid,dtime,path,data,owner,ver,cver,tmo,err,cfg,mem⟩ parts.length↔(kind=3∨((kind=1∨kind=2)∧path.data.toList≠ [47])):=by
  have h1:¬(1000:Int)<(data.length:Int):=h1;refine⟨fun h=>h.2.2.2.2.2.2,fun h=>⟨hb,hpk,by show data.length≤1000;omega,by show 0≤owner;omega,by show 0≤cver;omega,by show 0≤ver;omega,h⟩⟩
 have hfin:(kind=1∨kind=2)→A.Sub A1∧Value.bool (!eW path.data.toList [47])= .bool (decide (ew ⟨zxid,kind,ses,ah,xid,dtime,path,data,owner,ver,cver,tmo,err,cfg,mem⟩ parts.length)):=fun hk=>good A1 _ s1 (by
  rw [hrest,cP];constructor
  ·intro h5
   exact .inr ⟨hk,by simpa using h5⟩
  ·rintro(h5|h5)
   ·omega
   ·simpa using h5.2)
 refine ab (fun h5=> ?_) (fun h5=> ?_)<;>(conv=>lhs;whnf)
 ·exact(hD _).2 (good A1 true s1 (by rw [hrest];exact⟨fun _=> .inl h5,fun _=>rfl⟩))
 refine ab (fun h6=> ?_) (fun h6=> ?_)<;>(conv=>lhs;whnf)
 ·exact(hD _).2 (hfin (.inl h6))
 refine ab (fun h7=> ?_) (fun h7=> ?_)<;>(conv=>lhs;whnf)
 ·exact(hD _).2 (hfin (.inr h7))
 ·exact(hD _).2 (bad A1 s1 fun hB=>by
   rcases hrest.1 hB with h8|⟨h8|h8,_⟩
   ·exact h5 h8
   ·exact h6 h8
   ·exact h7 h8)
def nr(all:Bool)(p:aB):Prop:=p.h.zxid=0∧p.h.ses=0∧p.h.ah=0∧p.h.xid=0∧p.h.time=0∧ew p.h p.parts.length∧(all=true∨p.h.kind=2)
def dW(ds:List aB)(least most:Int)(all:Bool):Prop:=least≤ds.length∧(ds.length:Int)≤most∧∀p∈ds,nr all p
structure RpG where
 k:Nat
 A:aa
def uh(A0:aa)(ds:List aB)(all:Bool):dE:= { γ:=RpG,G:=fun s=>s.k≤ds.length∧A0.Sub s.A∧∀p∈ds.take s.k,nr all p,keepS:= [0,3],keepB:= [],sl:=fun s=> [(9,.v (.int .i64 s.k))],bl:=fun _=> [],ar:=fun s=>s.A,mu:=fun s=>ds.length-s.k }
def vw:aL:=⟨List aB×Int×Int×Bool,fun g vs A=>∃v,vs= [v,.int .i64 g.2.1,.int .i64 g.2.2.1,.bool g.2.2.2]∧gi A v g.1,fun g _ A v A'=>A.Sub A'∧v= .bool (decide (dW g.1 g.2.1 g.2.2.1 g.2.2.2))⟩
theorem CD:FOk Tryz.prog 80 vw:=by
 refine aS mixed fun⟨ds,least,most,all⟩ vs A hp=> ?_
 obtain⟨v,rfl,⟨rows,hS,hlen,hR⟩⟩:∃v,vs= [v,.int .i64 least,.int .i64 most,.bool all]∧gi A v ds:=hp;obtain⟨ao,c,rfl,hc,hl,ha1,ha2,ha3⟩:=hS
 have hC:aF Tryz.prog (bu [aE 79 zz] noC):=az (aj _) (fun x hx=>by
  simp only [List.mem_singleton]at hx
  subst hx;exact ai xB)
 refine⟨_,da Tryz.prog _ noL 60 [(80,0)],60,hC,aH mixed hC (ak _) _ _,fun blk os out tape D hD=> ?_⟩;have bad:∀A2,A.Sub A2→¬dW ds least most all→A.Sub A2∧Value.bool false= .bool (decide (dW ds least most all)):=fun A2 h2 hb=>⟨h2,by rw [decide_eq_false hb]⟩
 conv=>lhs;whnf
 refine ab (fun h1=> ?_) (fun h1=> ?_)<;>(conv=>lhs;whnf)
 ·exact(hD _).2 (bad A (aa.Sub.refl _) fun hB=>by
   have h2:=hB.1;have h1:(ds.length:Int)<least:=h1
   omega)
 refine ab (fun h2=> ?_) (fun h2=> ?_)<;>(conv=>lhs;whnf)
 ·exact(hD _).2 (bad A (aa.Sub.refl _) fun hB=>by
   have h3:=hB.2.1;have h2:most<(ds.length:Int):=h2
   omega)
 refine(hD _).2 ⟨uh A ds all,⟨(⟨0,A⟩:RpG),⟨Nat.zero_le _,aa.Sub.refl _,fun _ h=>(by cases h)⟩,⟨rfl,trivial⟩,trivial,rfl⟩,fun(s:RpG) hG=>⟨⟨trivial,trivial⟩,trivial,?_⟩⟩;obtain⟨k,Ak⟩:=s;obtain⟨hk,hAk,hall⟩:k≤ds.length∧A.Sub Ak∧∀p∈ds.take k,nr all p:=hG;conv=>lhs;whnf
 refine ab (fun hlt=> ?_) (fun hlt=> ?_)<;>(conv=>lhs;whnf)
 rotate_left
 ·have e:k=ds.length:=by
    have hlt:¬(k:Int)<(ds.length:Int):=hlt;omega
  rw [e,List.take_length]at hall;have h1:¬(ds.length:Int)<least:=h1;have h2:¬most<(ds.length:Int):=h2
  have hend:vw.post (ds,least,most,all) [] A (.bool true) Ak:=⟨hAk,by
   show Value.bool true= .bool (decide (dW ds least most all))
   rw [decide_eq_true ⟨by omega,by omega,hall⟩]⟩
  exact(hD _).2 hend
 have hkl:k<ds.length:=by
  have hlt:(k:Int)<(ds.length:Int):=hlt;omega
 obtain⟨g0,o,rfl,hra⟩:=Sl.at_ hc ha1 ha2 ha3 (by omega);obtain⟨cs,r1,hR1⟩:=fD hra hR k hkl rfl;obtain⟨d,hd⟩:∃d,d=ds[k]:=⟨_,rfl⟩;rw [←hd]at hR1;have hmem:d∈ds:=by rw [hd];exact List.getElem_mem _
 have htk:ds.take (k+1)=ds.take k++ [d]:=by rw [List.take_succ_eq_append_getElem hkl,←hd]
 have hbad2:∀A2,A.Sub A2→¬nr all d→A.Sub A2∧Value.bool false= .bool (decide (dW ds least most all)):=fun A2 h2 hn=>bad A2 h2 fun hB=>hn (hB.2.2 d hmem)
 obtain⟨⟨zxid,kind,ses,ah,xid,dtime,path,data,owner,ver,cver,tmo,err,cfg,mem⟩,parts⟩:=d;have hR0:=hR1;rw [bj]at hR1;dsimp only [bJ.cells]at hR1;obtain⟨vd,vm,vp,rws,rfl, -,hd1,hM,hSp,hlen2,hRows⟩:=hR1;obtain⟨a7,k7,rfl⟩:=hd1.1.form;obtain⟨a14,k14,rfl⟩:=hM.1.form;obtain⟨a15,k15,rfl⟩:=hSp.form;have r2:=aJ hAk r1;have i0:(0:Int)≤(k:Int)∧(k:Int)<(ds.length:Int):=by omega
 repeat(first|refine aq i0 ?_|refine af r2 ?_
        conv=>lhs;whnf)
 refine aQ (fun h=> ?_) (fun h3=> ?_)<;>(conv=>lhs;whnf)
 ·exact(hD _).2 (hbad2 Ak hAk fun hP=>by
   have:=hP.1;simp at h
   exact h this)
 refine aQ (fun h=> ?_) (fun h4=> ?_)<;>(conv=>lhs;whnf)
 ·exact(hD _).2 (hbad2 Ak hAk fun hP=>by
   have:=hP.2.1;simp at h
   exact h this)
 refine aQ (fun h=> ?_) (fun h5=> ?_)<;>(conv=>lhs;whnf)
 ·exact(hD _).2 (hbad2 Ak hAk fun hP=>by
   have:=hP.2.2.1;simp at h
   exact h this)
 refine aQ (fun h=> ?_) (fun h6=> ?_)<;>(conv=>lhs;whnf)
 ·exact(hD _).2 (hbad2 Ak hAk fun hP=>by
   have:=hP.2.2.2.1;simp at h
   exact h this)
 refine aQ (fun h=> ?_) (fun h7=> ?_)<;>(conv=>lhs;whnf)
 ·exact(hD _).2 (hbad2 Ak hAk fun hP=>by
   have:=hP.2.2.2.2.1;simp at h
   exact h this)
 simp at h3 h4 h5 h6 h7;refine(hD _).2 ⟨(.mk ⟨zxid,kind,ses,ah,xid,dtime,path,data,owner,ver,cver,tmo,err,cfg,mem⟩ parts:aB),⟨_,rfl,bj.sub hAk _ _ hR0⟩,fun v A1 hq=> ?_⟩;have hq:Ak.Sub A1∧v= .bool (decide (ew ⟨zxid,kind,ses,ah,xid,dtime,path,data,owner,ver,cver,tmo,err,cfg,mem⟩ parts.length)):=hq;obtain⟨s1,hv⟩:=hq;have hA1:=hAk.trans s1
 by_cases hn:ew ⟨zxid,kind,ses,ah,xid,dtime,path,data,owner,ver,cver,tmo,err,cfg,mem⟩ parts.length
 rotate_left
 ·rw [decide_eq_false hn]at hv
  subst hv;conv=>lhs;whnf
  exact(hD _).2 (hbad2 A1 hA1 fun hP=>hn hP.2.2.2.2.2.1)
 rw [decide_eq_true hn]at hv;subst hv
 have hgo:(all=true∨kind=2)→(uh A ds all).G (⟨k+1,A1⟩:RpG):=fun ha=>⟨hkl,hA1,fun p hp=>by
  rw [htk]at hp;rcases List.mem_append.1 hp with hp|hp
  ·exact hall p hp
  ·simp only [List.mem_singleton]at hp
   subst hp
   exact⟨h3,h4,h5,h6,h7,hn,ha⟩⟩
 conv=>lhs;whnf
 cases all
 ·conv=>lhs;whnf
  refine aQ (fun h=> ?_) (fun h8=> ?_)<;>(conv=>lhs;whnf)
  ·exact(hD _).2 (hbad2 A1 hA1 fun hP=>by
    rcases hP.2.2.2.2.2.2 with h9|h9
    ·cases h9
    ·simp at h
     exact h h9)
  ·simp at h8
   exact(hD _).2 ⟨(⟨k+1,A1⟩:RpG),⟨hgo (.inr h8),⟨av (k:=k) (by omega),trivial⟩,trivial,rfl⟩,by show ds.length-(k+1)<ds.length-k;omega,⟨an rfl rfl,an rfl rfl,trivial⟩,trivial⟩
 ·conv=>lhs;whnf
  exact(hD _).2 ⟨(⟨k+1,A1⟩:RpG),⟨hgo (.inl rfl),⟨av (k:=k) (by omega),trivial⟩,trivial,rfl⟩,by show ds.length-(k+1)<ds.length-k;omega,⟨an rfl rfl,an rfl rfl,trivial⟩,trivial⟩
def gy(m:bT):Prop:=1≤m.id∧m.id≤7∧((m.role=2∧m.weight=0∧m.group=0)∨(m.role=1∧0≤m.weight∧m.weight≤1000∧0≤m.group∧m.group<7))
theorem Dl{last:Int}(h0:0≤last)(m:bT):cR last m=true↔gy m∧last<m.id:=by
 rw [kn];unfold gy;constructor
 ·rintro⟨h1,h2,h3⟩
  exact⟨⟨by omega,h2,h3⟩,h1⟩
 ·rintro⟨⟨_,h2,h3⟩,h1⟩
  exact⟨h1,h2,h3⟩
def rmemS:aL:=⟨bT,fun m vs _=>vs= [.agg #[.int .i64 m.id,.int .u8 m.role,.int .i64 m.weight,.int .i64 m.group]],fun m _ A v A'=>A'=A∧v= .bool (decide (gy m))⟩
theorem rmem_ok:FOk Tryz.prog 127 rmemS:=by
 refine aS mixed fun⟨id,role,weight,group⟩ vs A hp=> ?_
 obtain rfl:vs= [.agg #[.int .i64 id,.int .u8 role,.int .i64 weight,.int .i64 group]]:=hp;refine⟨noC,noL,60,aj _,ak _,fun blk os out tape D hD=> ?_⟩;have bad:¬gy ⟨id,role,weight,group⟩→A=A∧Value.bool false= .bool (decide (gy ⟨id,role,weight,group⟩)):=fun hb=>⟨rfl,by rw [decide_eq_false hb]⟩
 have good:∀b:Bool,(b=true↔gy ⟨id,role,weight,group⟩)→A=A∧Value.bool b= .bool (decide (gy ⟨id,role,weight,group⟩)):=fun b hb=>⟨rfl,by
  congr 1
  rw [Bool.eq_iff_iff,hb,decide_eq_true_iff]⟩
 conv=>lhs;whnf
 refine ab (fun h1=> ?_) (fun h1=> ?_)<;>(conv=>lhs;whnf)
 ·exact(hD _).2 (bad fun hB=>by unfold gy at hB;dsimp only at hB;omega)
 refine ab (fun h2=> ?_) (fun h2=> ?_)<;>(conv=>lhs;whnf)
 ·exact(hD _).2 (bad fun hB=>by unfold gy at hB;dsimp only at hB;omega)
 refine ab (fun h3=> ?_) (fun h3=> ?_)<;>(conv=>lhs;whnf)
 ·refine ab (fun h4=> ?_) (fun h4=> ?_)<;>(conv=>lhs;whnf)
  ·exact(hD _).2 (good (decide (group=0)) (by unfold gy;simp only [decide_eq_true_iff];omega))
  ·exact(hD _).2 (bad fun hB=>by unfold gy at hB;dsimp only at hB;omega)
 refine ab (fun h4=> ?_) (fun h4=> ?_)<;>(conv=>lhs;whnf)
 rotate_left
 ·exact(hD _).2 (bad fun hB=>by unfold gy at hB;dsimp only at hB;omega)
 refine ab (fun h5=> ?_) (fun h5=> ?_)<;>(conv=>lhs;whnf)
 rotate_left
 ·exact(hD _).2 (bad fun hB=>by unfold gy at hB;dsimp only at hB;omega)
 refine ab (fun h6=> ?_) (fun h6=> ?_)<;>(conv=>lhs;whnf)
 rotate_left
 ·exact(hD _).2 (bad fun hB=>by unfold gy at hB;dsimp only at hB;omega)
 refine ab (fun h7=> ?_) (fun h7=> ?_)<;>(conv=>lhs;whnf)
 rotate_left
 ·exact(hD _).2 (bad fun hB=>by unfold gy at hB;dsimp only at hB;omega)
 exact(hD _).2 (good (decide (group<7)) (by unfold gy;simp only [decide_eq_true_iff];omega))
theorem tc:∀(xs:List bT) (l w:Int) (m:bT),fL l w (xs++ [m])=match fL l w xs with
  |some (l',w')=>if cR l' m=true then some (m.id,w'+m.weight)else none
  |none=>none
 | [],l,w,m=>by
   show(if cR l m=true then fL m.id (w+m.weight) []else none)=_
   rfl
 |x::xs,l,w,m=>by
  show(if cR l x=true then fL x.id (w+x.weight) (xs++ [m])else none)=match (if cR l x=true then fL x.id (w+x.weight) xs else none)with
   |some (l',w')=>if cR l' m=true then some (m.id,w'+m.weight)else none
   |none=>none
  by_cases h:cR l x=true
  ·rw [if_pos h,if_pos h,tc xs]
  ·rw [if_neg h,if_neg h]
theorem uQ:∀(xs ys:List bT) (l w:Int),fL l w xs=none→fL l w (xs++ys)=none
 | [],_,_,_,h=>by cases h
 |x::xs,ys,l,w,h=>by
  have h:(if cR l x=true then fL x.id (w+x.weight) xs else none)=none:=h;show(if cR l x=true then fL x.id (w+x.weight) (xs++ys)else none)=none
  by_cases hm:cR l x=true
  ·rw [if_pos hm]at h ⊢
   exact uQ xs ys _ _ h
  ·rw [if_neg hm]
structure EnI(ms:List bT)(s:Nat×Int):Prop where
 le:s.1≤ms.length
 go:∃last,fL 0 0 (ms.take s.1)=some (last,s.2)∧(s.1=0→last=0)∧(∀h:s.1-1<ms.length,0<s.1→last=ms[s.1-1].id∧1≤last)
 lo:0≤s.2
 hi:s.2≤1000*s.1
def renInv(A:aa)(ms:List bT):dE:= { γ:=Nat×Int,G:=EnI ms,keepS:= [1],keepB:= [0],sl:=fun s=> [(3,.v (.int .i64 s.2)),(4,.v (.int .i64 s.1))],bl:=fun _=> [],ar:=fun _=>A,mu:=fun s=>ms.length-s.1 }
def renS:aL:=⟨Int×List bT,fun g vs A=>∃vm,vs= [.agg #[.int .i64 g.1,vm]]∧kD A vm g.2,fun g _ A v A'=>A'=A∧∃z,v= .int .i64 z∧(z=0↔jj g.1 g.2=0)⟩
theorem ren_ok:FOk Tryz.prog 81 renS:=by
 refine aS mixed fun⟨ver,ms⟩ vs A hp=> ?_
 obtain⟨vm,rfl,⟨ao,c,rfl,hc,hml,ha1,ha2,ha3⟩,hm32⟩:∃vm,vs= [.agg #[.int .i64 ver,vm]]∧kD A vm ms:=hp
 have hC:aF Tryz.prog (bu [aE 127 rmemS] noC):=az (aj _) (fun x hx=>by
  simp only [List.mem_singleton]at hx
  subst hx;exact ai rmem_ok)
 refine⟨_,da Tryz.prog _ noL 60 [(81,0)],60,hC,aH mixed hC (ak _) _ _,fun blk os out tape D hD=> ?_⟩;have hend:∀z:Int,(z=0↔jj ver ms=0)→A=A∧∃z',Value.int .i64 z= .int .i64 z'∧(z'=0↔jj ver ms=0):=fun z h=>⟨rfl,z,rfl,h⟩
 conv=>lhs;whnf
 refine ab (fun h7=> ?_) (fun h7=> ?_)<;>(conv=>lhs;whnf)
 ·have h7:(7:Int)<(ms.length:Int):=h7
  exact(hD _).2 (hend 3 (by
   unfold jj
   rw [if_pos (by omega)]))
 have h7:ms.length≤7:=by
  have h7:¬(7:Int)<(ms.length:Int):=h7;omega
 have hI0:EnI ms (0,0):=⟨Nat.zero_le _,⟨0,rfl,fun _=>rfl,fun _ h=>absurd h (Nat.lt_irrefl _)⟩,Int.le_refl _,Int.le_refl _⟩;refine(hD _).2 ⟨renInv A ms,⟨((0,0):Nat×Int),hI0,⟨rfl,rfl,trivial⟩,trivial,rfl⟩,fun(s:Nat×Int) hG=>⟨⟨trivial,trivial,trivial⟩,trivial,?_⟩⟩;obtain⟨k,w⟩:=s;obtain⟨hk,⟨last,hgo,hl0,hl1⟩,hw0,hw1⟩:EnI ms (k,w):=hG;dsimp only at hk hgo hl0 hl1 hw0 hw1;conv=>lhs;whnf
 refine ab (fun hlt=> ?_) (fun hlt=> ?_)<;>(conv=>lhs;whnf)
 rotate_left
 ·have e:k=ms.length:=by
    have hlt:¬(k:Int)<(ms.length:Int):=hlt;omega
  rw [e,List.take_length]at hgo
  have hen:jj ver ms=0↔¬(w=0∨ver<0∨4611686018427387904<ver):=by
   unfold jj;rw [if_neg (by omega),hgo];dsimp only
   by_cases h:w=0∨ver<0∨4611686018427387904<ver
   ·rw [if_pos h]
    simp [h]
   ·rw [if_neg h]
    simp [h]
  refine ab (fun h1=> ?_) (fun h1=> ?_)<;>(conv=>lhs;whnf)
  ·exact(hD _).2 (hend 140 (by rw [hen];omega))
  refine ab (fun h2=> ?_) (fun h2=> ?_)<;>(conv=>lhs;whnf)
  ·exact(hD _).2 (hend 140 (by rw [hen];omega))
  refine ab (fun h3=> ?_) (fun h3=> ?_)<;>(conv=>lhs;whnf)
  ·exact(hD _).2 (hend 140 (by rw [hen];omega))
  ·exact(hD _).2 (hend 0 (by rw [hen];omega))
 have hkl:k<ms.length:=by
  have hlt:(k:Int)<(ms.length:Int):=hlt;omega
 obtain⟨g0,o,rfl,hra⟩:=Sl.at_ hc ha1 ha2 ha3 (by omega);have r1:=zV hra k hkl rfl;have r1i:A.rd g0 (o+k*4) 1=some [.int .i64 ms[k].id]:=cU r1 (i:=0) (m:=1) (by omega);have r1w:A.rd g0 (o+k*4+2) 1=some [.int .i64 ms[k].weight]:=cU r1 (i:=2) (m:=1) (by omega);have i0:(0:Int)≤(k:Int)∧(k:Int)<(ms.length:Int):=by omega
 have hlast:0≤last:=by
  rcases Nat.eq_zero_or_pos k with h|h
  ·rw [hl0 h]
   exact Int.le_refl _
  ·have:=(hl1 (by omega) h).2
   omega
 have hsn:fL 0 0 (ms.take (k+1))=if cR last ms[k]=true then some (ms[k].id,w+ms[k].weight)else none:=by
  rw [List.take_succ_eq_append_getElem hkl,tc,hgo]
 have hnone:cR last ms[k]≠true→jj ver ms=140:=fun h=>by
  rw [if_neg h]at hsn;have h2:=uQ (ms.take (k+1)) (ms.drop (k+1)) 0 0 hsn;rw [List.take_append_drop]at h2;unfold jj;rw [if_neg (by omega),h2]
 have hmo:=Dl hlast ms[k]
 repeat(first|refine aq i0 ?_|refine af r1 ?_
        conv=>lhs;whnf)
 refine(hD _).2 ⟨ms[k],rfl,fun v A9 hq=> ?_⟩;have hq:A9=A∧v= .bool (decide (gy ms[k])):=hq;have h9:=hq.1.symm;have hv:=hq.2;subst h9
 by_cases hm:gy ms[k]
 rotate_left
 ·rw [decide_eq_false hm]at hv
  subst hv;conv=>lhs;whnf
  exact(hD _).2 (hend 140 (by rw [hnone fun h=>hm (hmo.1 h).1]))
 rw [decide_eq_true hm]at hv;subst hv
 have hwt:0≤ms[k].weight∧ms[k].weight≤1000:=by
  rcases hm.2.2 with h|h<;>omega
 have hgood:last<ms[k].id→EnI ms (k+1,w+ms[k].weight):=fun hlt2=>by
  rw [if_pos (hmo.2 ⟨hm,hlt2⟩)]at hsn;exact⟨hkl,⟨ms[k].id,hsn,fun h=>absurd h (Nat.succ_ne_zero k),fun h _=>⟨rfl,hm.1⟩⟩,by show 0≤w+ms[k].weight;omega,by show w+ms[k].weight≤1000*((k+1:Nat):Int);omega⟩
 conv=>lhs;whnf
 have hww:IntKind.i64.wrap (w+ms[k].weight)=w+ms[k].weight:=by
  rw [Sx.wrap_i64 (by omega) (by omega)]
 refine ab (fun h0=> ?_) (fun h0=> ?_)<;>(conv=>lhs;whnf)
 ·have hk0:0<k:=by
    have h0:(0:Int)<(k:Int):=h0;omega
  have hk1:k-1<ms.length:=by omega
  have hx:IntKind.i64.wrap ((k:Int)-1)=((k-1:Nat):Int):=by
   rw [Sx.wrap_i64 (by omega) (by omega)];omega
  have hin1:(0:Int)≤IntKind.i64.wrap ((k:Int)-1)∧IntKind.i64.wrap ((k:Int)-1)<(ms.length:Int):=by rw [hx];omega
  have r0:A.rd g0 (o+(IntKind.i64.wrap ((k:Int)-1)).toNat*4) 1=some [.int .i64 ms[k-1].id]:=by
   rw [hx,Int.toNat_natCast];exact cU (zV hra (k-1) hk1 rfl) (i:=0) (m:=1) (by omega)
  repeat(first|refine aq i0 ?_|refine af r1i ?_|refine aq hin1 ?_|refine af r0 ?_
         conv=>lhs;whnf)
  have hle:=(hl1 hk1 hk0).1;refine ab (fun h8=> ?_) (fun h8=> ?_)<;>(conv=>lhs;whnf)
  ·exact(hD _).2 (hend 140 (by rw [hnone fun h=>by have:=(hmo.1 h).2;omega]))
  have hI:=hgood (by omega)
  repeat(first|refine aq i0 ?_|refine af r1w ?_
         conv=>lhs;whnf)
  exact(hD _).2 ⟨((k+1,w+ms[k].weight):Nat×Int),⟨hI,⟨congrArg (fun z=>some (SV.v (.int .i64 z))) hww,av (k:=k) (by omega),trivial⟩,trivial,rfl⟩,by show ms.length-(k+1)<ms.length-k;omega,⟨an rfl rfl,trivial⟩,⟨an rfl rfl,trivial⟩⟩
 ·have hk0:k=0:=by
    have h0:¬(0:Int)<(k:Int):=h0;omega
  have hI:=hgood (by rw [hl0 hk0];have:=hm.1;omega)
  repeat(first|refine aq i0 ?_|refine af r1w ?_
         conv=>lhs;whnf)
  exact(hD _).2 ⟨((k+1,w+ms[k].weight):Nat×Int),⟨hI,⟨congrArg (fun z=>some (SV.v (.int .i64 z))) hww,av (k:=k) (by omega),trivial⟩,trivial,rfl⟩,by show ms.length-(k+1)<ms.length-k;omega,⟨an rfl rfl,trivial⟩,⟨an rfl rfl,trivial⟩⟩
theorem uy(h:bJ)(np:Nat):ew h np↔cu h np∧h.kind≤3:=by
 obtain⟨zxid,kind,ses,ah,xid,dtime,path,data,owner,ver,cver,tmo,err,cfg,mem⟩:=h;unfold ew cu bG;dsimp only
 by_cases k1:kind=1
 ·subst k1
  simp [iq,fp];constructor<;>(intro h;simp_all)
 by_cases k2:kind=2
 ·subst k2
  simp [iq,fp];constructor<;>(intro h;simp_all)
 by_cases k3:kind=3
 ·subst k3
  simp [iq,fp];constructor<;>(intro h;simp_all)
 ·constructor
  ·rintro⟨_,_,_,_,_,_,h|⟨h|h,_⟩⟩<;>omega
  ·rintro⟨⟨⟨_,_⟩,_⟩,h⟩
   omega
theorem CK(h:bJ)(np:Nat)(k3:3<h.kind):cu h np↔h.kind≤9∧bG h np∧(h.kind=4→1≤h.tmo∧h.tmo≤1000)∧(h.kind=5→1≤h.owner)∧(h.kind=9→1≤h.err):=by
 obtain⟨zxid,kind,ses,ah,xid,dtime,path,data,owner,ver,cver,tmo,err,cfg,mem⟩:=h;unfold cu bG;dsimp only at k3 ⊢
 by_cases h9:kind≤9
 ·have:kind=4∨kind=5∨kind=6∨kind=7∨kind=8∨kind=9:=by omega
  rcases this with e|e|e|e|e|e
  all_goals
   subst e;simp [iq,fp]
   first
    |(constructor<;>(intro h;simp_all;done))
    |(constructor<;>(intro h;simp_all<;>omega))
    |(intros;constructor<;>(intro h;simp_all;done))
    |(intros;simp_all;done)
 ·constructor
  ·rintro⟨⟨_,_⟩,_⟩
   omega
  ·rintro⟨_,_⟩
   omega
theorem lY(p:aB):(nr false p↔mO 2 p)∧(nr true p↔mO 3 p):=by
 unfold nr mO;rw [uy];constructor
 ·constructor
  ·rintro⟨h1,h2,h3,h4,h5,⟨h6,h7⟩,h8⟩
   have h8:p.h.kind=2:=h8.resolve_left (by simp);exact⟨h1,h2,h3,h4,h5,h6,by omega,fun _=>h8⟩
  ·rintro⟨h1,h2,h3,h4,h5,h6,h7,h8⟩
   exact⟨h1,h2,h3,h4,h5,⟨h6,by omega⟩,.inr (h8 rfl)⟩
 ·constructor
  ·rintro⟨h1,h2,h3,h4,h5,⟨h6,h7⟩,h8⟩
   exact⟨h1,h2,h3,h4,h5,h6,by omega,fun h=>by omega⟩
  ·rintro⟨h1,h2,h3,h4,h5,h6,h7,h8⟩
   exact⟨h1,h2,h3,h4,h5,⟨h6,by omega⟩,.inl rfl⟩
theorem rN(ds:List aB)(a b:Int):(dW ds a b false↔gH ds a b 2)∧(dW ds a b true↔gH ds a b 3):=by
 unfold dW gH;constructor
 ·exact⟨fun h=>⟨h.1,h.2.1,fun p hp=>(lY p).1.1 (h.2.2 p hp)⟩,fun h=>⟨h.1,h.2.1,fun p hp=>(lY p).1.2 (h.2.2 p hp)⟩⟩
 ·exact⟨fun h=>⟨h.1,h.2.1,fun p hp=>(lY p).2.1 (h.2.2 p hp)⟩,fun h=>⟨h.1,h.2.1,fun p hp=>(lY p).2.2 (h.2.2 p hp)⟩⟩
def GR(h:bJ):Prop:=1≤h.zxid∧h.zxid/4294967296≤1073741824∧0≤h.ses∧0≤h.ah∧0≤h.xid∧0≤h.time
theorem CF(h:bJ)(ps:List aB):cJ (.mk h ps)↔GR h∧bG h ps.length∧((h.kind=1∨h.kind=2∨h.kind=3)∧ew h ps.length∨h.kind=4∧1≤h.tmo∧h.tmo≤1000∨h.kind=5∧1≤h.owner∧dW ps 0 500 false∨h.kind=6∨h.kind=7∧jj h.cfg h.mem=0∧h.cfg=h.zxid∨h.kind=8∧dW ps 1 16 true∨h.kind=9∧1≤h.err):=by
 rw [(rN ps 0 500).1,(rN ps 1 16).2];unfold cJ GR;dsimp only [aB.h,aB.parts]
 by_cases k3:3<h.kind
 ·rw [CK h ps.length k3]
  constructor
  ·rintro⟨h1,h2,h3,h4,h5,h6,⟨h7,h8,h9,h10,h11⟩,h12,h13,h14⟩
   refine⟨⟨h1,h2,h3,h4,h5,h6⟩,h8,?_⟩;have:h.kind=4∨h.kind=5∨h.kind=6∨h.kind=7∨h.kind=8∨h.kind=9:=by omega
   rcases this with e|e|e|e|e|e
   ·exact .inr (.inl ⟨e,h9 e⟩)
   ·exact .inr (.inr (.inl ⟨e,h10 e,h12 e⟩))
   ·exact .inr (.inr (.inr (.inl e)))
   ·exact .inr (.inr (.inr (.inr (.inl ⟨e,h13 e⟩))))
   ·exact .inr (.inr (.inr (.inr (.inr (.inl ⟨e,h14 e⟩)))))
   ·exact .inr (.inr (.inr (.inr (.inr (.inr ⟨e,h11 e⟩)))))
  ·rintro⟨⟨h1,h2,h3,h4,h5,h6⟩,h7,h8⟩
   refine⟨h1,h2,h3,h4,h5,h6,?_⟩;rcases h8 with⟨e,_⟩|⟨e,h9⟩|⟨e,h9,h10⟩|e|⟨e,h9⟩|⟨e,h9⟩|⟨e,h9⟩
   ·omega
   ·exact⟨⟨by omega,h7,fun _=>h9,fun h=>by omega,fun h=>by omega⟩,fun h=>by omega,fun h=>by omega,fun h=>by omega⟩
   ·exact⟨⟨by omega,h7,fun h=>by omega,fun _=>h9,fun h=>by omega⟩,fun _=>h10,fun h=>by omega,fun h=>by omega⟩
   ·exact⟨⟨by omega,h7,fun h=>by omega,fun h=>by omega,fun h=>by omega⟩,fun h=>by omega,fun h=>by omega,fun h=>by omega⟩
   ·exact⟨⟨by omega,h7,fun h=>by omega,fun h=>by omega,fun h=>by omega⟩,fun h=>by omega,fun _=>h9,fun h=>by omega⟩
   ·exact⟨⟨by omega,h7,fun h=>by omega,fun h=>by omega,fun h=>by omega⟩,fun h=>by omega,fun h=>by omega,fun _=>h9⟩
   ·exact⟨⟨by omega,h7,fun h=>by omega,fun h=>by omega,fun _=>h9⟩,fun h=>by omega,fun h=>by omega,fun h=>by omega⟩
 ·have hn:=uy h ps.length
  constructor
  ·rintro⟨h1,h2,h3,h4,h5,h6,h7,_⟩
   have hk:h.kind=1∨h.kind=2∨h.kind=3:=by
    have:=h7.1;omega
   have hr:=hn.2 ⟨h7,by omega⟩;exact⟨⟨h1,h2,h3,h4,h5,h6⟩,hr.1,.inl ⟨hk,hr⟩⟩
  ·rintro⟨⟨h1,h2,h3,h4,h5,h6⟩,h7,h8⟩
   rcases h8 with⟨e,h9⟩|⟨e,h9⟩|⟨e,h9,h10⟩|e|⟨e,h9⟩|⟨e,h9⟩|⟨e,h9⟩
   ·exact⟨h1,h2,h3,h4,h5,h6,(hn.1 h9).1,fun h=>by omega,fun h=>by omega,fun h=>by omega⟩
   all_goals omega
def Bt:aL:=⟨aB,fun d vs A=>∃cs,vs= [bx cs]∧bj A d cs,fun d _ A v A'=>A.Sub A'∧v= .bool (decide (cJ d))⟩
theorem CC:FOk Tryz.prog 30 Bt:=by
 refine aS mixed fun d vs A hp=> ?_
 obtain⟨cs,rfl,hR⟩:∃cs,vs= [bx cs]∧bj A d cs:=hp
 have hC:aF Tryz.prog (bu [aE 78 jO,aE 79 zz,aE 80 vw,aE 81 renS] noC):=az (aj _) (fun x hx=>by
  simp only [List.mem_cons,List.not_mem_nil,or_false]at hx;rcases hx with rfl|rfl|rfl|rfl
  ·exact ai Ch
  ·exact ai xB
  ·exact ai CD
  ·exact ai ren_ok)
 refine⟨_,noL,60,hC,ak _,fun blk os out tape D hD=> ?_⟩;have hR0:=hR;obtain⟨⟨zxid,kind,ses,ah,xid,time,path,data,owner,ver,cver,tmo,err,cfg,mem⟩,parts⟩:=d;rw [bj]at hR;dsimp only [bJ.cells]at hR;obtain⟨vd,vm,vp,rows,rfl, -,⟨⟨a7,k7,rfl, -⟩, -⟩,hM,hS,hlen,hRows⟩:=hR;obtain⟨a14,k14,rfl⟩:=hM.1.form;obtain⟨a15,k15,rfl⟩:=hS.form;have hri:=CF ⟨zxid,kind,ses,ah,xid,time,path,data,owner,ver,cver,tmo,err,cfg,mem⟩ parts;have bad:∀A2,A.Sub A2→¬cJ (.mk ⟨zxid,kind,ses,ah,xid,time,path,data,owner,ver,cver,tmo,err,cfg,mem⟩ parts)→A.Sub A2∧Value.bool false= .bool (decide (cJ (.mk ⟨zxid,kind,ses,ah,xid,time,path,data,owner,ver,cver,tmo,err,cfg,mem⟩ parts))):=fun A2 h2 h=>⟨h2,by rw [decide_eq_false h]⟩
 have fin:∀A2 (b:Bool),A.Sub A2→(b=true↔cJ (.mk ⟨zxid,kind,ses,ah,xid,time,path,data,owner,ver,cver,tmo,err,cfg,mem⟩ parts))→A.Sub A2∧Value.bool b= .bool (decide (cJ (.mk ⟨zxid,kind,ses,ah,xid,time,path,data,owner,ver,cver,tmo,err,cfg,mem⟩ parts))):=fun A2 b h2 h=>⟨h2,by
  congr 1;rw [Bool.eq_iff_iff,decide_eq_true_eq]
  exact h⟩
 unfold GR at hri;dsimp only at hri;have hs:=aa.Sub.refl A;conv=>lhs;whnf
 refine ab (fun h1=> ?_) (fun h1=> ?_)<;>(conv=>lhs;whnf)
 ·exact(hD _).2 (bad A hs fun h=>by have:=hri.1 h;omega)
 have hz:zxid.fdiv (2^min (Int.toNat 32) IntKind.i64.bits)=zxid/4294967296:=by
  show zxid.fdiv 4294967296=_
  rw [Int.fdiv_eq_ediv_of_nonneg _ (by decide)]
 refine ab (fun h2=> ?_) (fun h2=> ?_)<;>(conv=>lhs;whnf)
 rotate_left
 ·exact(hD _).2 (bad A hs fun h=>by omega)
 refine cL (fun h3=> ?_) (fun h3=> ?_)<;>(conv=>lhs;whnf)
 rotate_left
 ·rw [hz]at h3
  exact(hD _).2 (bad A hs fun h=>by have:=(hri.1 h).1;omega)
 rw [hz]at h3;refine ab (fun h4=> ?_) (fun h4=> ?_)<;>(conv=>lhs;whnf)
 ·exact(hD _).2 (bad A hs fun h=>by have:=(hri.1 h).1;omega)
 refine ab (fun h5=> ?_) (fun h5=> ?_)<;>(conv=>lhs;whnf)
 ·exact(hD _).2 (bad A hs fun h=>by have:=(hri.1 h).1;omega)
 refine ab (fun h6=> ?_) (fun h6=> ?_)<;>(conv=>lhs;whnf)
 ·exact(hD _).2 (bad A hs fun h=>by have:=(hri.1 h).1;omega)
 refine ab (fun h7=> ?_) (fun h7=> ?_)<;>(conv=>lhs;whnf)
 ·exact(hD _).2 (bad A hs fun h=>by have:=(hri.1 h).1;omega)
 refine(hD _).2 ⟨(.mk ⟨zxid,kind,ses,ah,xid,time,path,data,owner,ver,cver,tmo,err,cfg,mem⟩ parts:aB),⟨_,rfl,hR0⟩,fun v A9 hq=> ?_⟩;have hq:A9=A∧v= .bool (decide (bG ⟨zxid,kind,ses,ah,xid,time,path,data,owner,ver,cver,tmo,err,cfg,mem⟩ parts.length)):=hq;have h9:=hq.1.symm;have hv:=hq.2;subst h9
 by_cases hb:bG ⟨zxid,kind,ses,ah,xid,time,path,data,owner,ver,cver,tmo,err,cfg,mem⟩ parts.length
 rotate_left
 ·rw [decide_eq_false hb]at hv
  subst hv;conv=>lhs;whnf
  exact(hD _).2 (bad A hs fun h=>hb (hri.1 h).2.1)
 rw [decide_eq_true hb]at hv;subst hv;have hrest:cJ (.mk ⟨zxid,kind,ses,ah,xid,time,path,data,owner,ver,cver,tmo,err,cfg,mem⟩ parts:aB)↔((kind=1∨kind=2∨kind=3)∧ew ⟨zxid,kind,ses,ah,xid,time,path,data,owner,ver,cver,tmo,err,cfg,mem⟩ parts.length∨kind=4∧1≤tmo∧tmo≤1000∨kind=5∧1≤owner∧dW parts 0 500 false∨kind=6∨kind=7∧jj cfg mem=0∧cfg=zxid∨kind=8∧dW parts 1 16 true∨kind=9∧1≤err):=hri.trans ⟨fun h=>h.2.2,fun h=>⟨by omega,hb,h⟩⟩;clear hri
 have hnode:(kind=1∨kind=2∨kind=3)→∀A1 (b:Bool),A.Sub A1→b=decide (ew ⟨zxid,kind,ses,ah,xid,time,path,data,owner,ver,cver,tmo,err,cfg,mem⟩ parts.length)→A.Sub A1∧Value.bool b= .bool (decide (cJ (.mk ⟨zxid,kind,ses,ah,xid,time,path,data,owner,ver,cver,tmo,err,cfg,mem⟩ parts:aB))):=fun hk A1 b s1 hb1=>fin A1 b s1 (by
  rw [hb1,decide_eq_true_iff,hrest];constructor
  ·exact fun h=> .inl ⟨hk,h⟩
  ·rintro(⟨_,h⟩|h)
   ·exact h
   ·omega)
 conv=>lhs;whnf
 refine ab (fun k1=> ?_) (fun k1=> ?_)<;>(conv=>lhs;whnf)
 ·have e2:¬kind=2:=by omega
  have e3:¬kind=3:=by omega
  repeat(first|refine bP k1 ?_|refine aI e2 ?_|refine aI e3 ?_
         conv=>lhs;whnf)
  refine(hD _).2 ⟨(.mk ⟨zxid,kind,ses,ah,xid,time,path,data,owner,ver,cver,tmo,err,cfg,mem⟩ parts:aB),⟨_,rfl,hR0⟩,fun v A1 hq=> ?_⟩;have hq:A.Sub A1∧v= .bool (decide (ew ⟨zxid,kind,ses,ah,xid,time,path,data,owner,ver,cver,tmo,err,cfg,mem⟩ parts.length)):=hq;obtain⟨s1,hv⟩:=hq;subst hv;have hend:=hnode (by omega) A1 _ s1 rfl;conv=>lhs;whnf
  exact(hD _).2 hend
 refine ab (fun k2=> ?_) (fun k2=> ?_)<;>(conv=>lhs;whnf)
 ·have e1:¬kind=1:=by omega
  have e3:¬kind=3:=by omega
  repeat(first|refine bP k2 ?_|refine aI e1 ?_|refine aI e3 ?_
         conv=>lhs;whnf)
  refine(hD _).2 ⟨(.mk ⟨zxid,kind,ses,ah,xid,time,path,data,owner,ver,cver,tmo,err,cfg,mem⟩ parts:aB),⟨_,rfl,hR0⟩,fun v A1 hq=> ?_⟩;have hq:A.Sub A1∧v= .bool (decide (ew ⟨zxid,kind,ses,ah,xid,time,path,data,owner,ver,cver,tmo,err,cfg,mem⟩ parts.length)):=hq;obtain⟨s1,hv⟩:=hq;subst hv;have hend:=hnode (by omega) A1 _ s1 rfl;conv=>lhs;whnf
  exact(hD _).2 hend
 refine ab (fun k3=> ?_) (fun k3=> ?_)<;>(conv=>lhs;whnf)
 ·have e1:¬kind=1:=by omega
  have e2:¬kind=2:=by omega
  repeat(first|refine bP k3 ?_|refine aI e1 ?_|refine aI e2 ?_
         conv=>lhs;whnf)
  refine(hD _).2 ⟨(.mk ⟨zxid,kind,ses,ah,xid,time,path,data,owner,ver,cver,tmo,err,cfg,mem⟩ parts:aB),⟨_,rfl,hR0⟩,fun v A1 hq=> ?_⟩;have hq:A.Sub A1∧v= .bool (decide (ew ⟨zxid,kind,ses,ah,xid,time,path,data,owner,ver,cver,tmo,err,cfg,mem⟩ parts.length)):=hq;obtain⟨s1,hv⟩:=hq;subst hv;have hend:=hnode (by omega) A1 _ s1 rfl;conv=>lhs;whnf
  exact(hD _).2 hend
 repeat(first|refine aI k1 ?_|refine aI k2 ?_|refine aI k3 ?_
        conv=>lhs;whnf)
 refine ab (fun k4=> ?_) (fun k4=> ?_)<;>(conv=>lhs;whnf)
 ·refine ab (fun t1=> ?_) (fun t1=> ?_)<;>(conv=>lhs;whnf)
  ·exact(hD _).2 (fin A (decide (tmo≤1000)) hs (by rw [decide_eq_true_iff,hrest];omega))
  ·exact(hD _).2 (bad A hs fun h=>by have:=hrest.1 h;omega)
 refine ab (fun k5=> ?_) (fun k5=> ?_)<;>(conv=>lhs;whnf)
 ·refine ab (fun t1=> ?_) (fun t1=> ?_)<;>(conv=>lhs;whnf)
  rotate_left
  ·exact(hD _).2 (bad A hs fun h=>by have:=hrest.1 h;omega)
  refine(hD _).2 ⟨(parts,0,500,false),⟨_,rfl,⟨rows,hS,hlen,hRows⟩⟩,fun v A1 hq=> ?_⟩;have hq:A.Sub A1∧v= .bool (decide (dW parts 0 500 false)):=hq;obtain⟨s1,hv⟩:=hq;subst hv
  have hend:=fin A1 (decide (dW parts 0 500 false)) s1 (by
   rw [decide_eq_true_iff,hrest];constructor
   ·exact fun h=> .inr (.inr (.inl ⟨k5,t1,h⟩))
   ·rintro(h|h|⟨_,_,h⟩|h|h|h|h)
    ·omega
    ·omega
    ·exact h
    all_goals omega)
  conv=>lhs;whnf
  exact(hD _).2 hend
 refine ab (fun k6=> ?_) (fun k6=> ?_)<;>(conv=>lhs;whnf)
 ·exact(hD _).2 (fin A true hs (iff_of_true rfl (hrest.2 (by omega))))
 refine ab (fun k7=> ?_) (fun k7=> ?_)<;>(conv=>lhs;whnf)
 ·refine(hD _).2 ⟨(cfg,mem),⟨_,rfl,hM⟩,fun v A9 hq=> ?_⟩
  have hq:A9=A∧∃z,v= .int .i64 z∧(z=0↔jj cfg mem=0):=hq;obtain⟨h9,z,hv,hz0⟩:=hq;have h9:=h9.symm;subst h9;subst hv;conv=>lhs;whnf
  refine ab (fun t1=> ?_) (fun t1=> ?_)<;>(conv=>lhs;whnf)
  ·have hend:=fin A (decide (cfg=zxid)) hs (by rw [decide_eq_true_iff,hrest];omega)
   exact(hD _).2 hend
  ·exact(hD _).2 (bad A hs fun h=>by have:=hrest.1 h;omega)
 refine ab (fun k8=> ?_) (fun k8=> ?_)<;>(conv=>lhs;whnf)
 ·refine(hD _).2 ⟨(parts,1,16,true),⟨_,rfl,⟨rows,hS,hlen,hRows⟩⟩,fun v A1 hq=> ?_⟩
  have hq:A.Sub A1∧v= .bool (decide (dW parts 1 16 true)):=hq;obtain⟨s1,hv⟩:=hq;subst hv
  have hend:=fin A1 (decide (dW parts 1 16 true)) s1 (by
   rw [decide_eq_true_iff,hrest];constructor
   ·exact fun h=> .inr (.inr (.inr (.inr (.inr (.inl ⟨k8,h⟩)))))
   ·rintro(h|h|h|h|h|⟨_,h⟩|h)
    ·omega
    ·omega
    ·omega
    ·omega
    ·omega
    ·exact h
    ·omega)
  conv=>lhs;whnf
  exact(hD _).2 hend
 refine ab (fun k9=> ?_) (fun k9=> ?_)<;>(conv=>lhs;whnf)
 ·exact(hD _).2 (fin A (decide (1≤err)) hs (by rw [decide_eq_true_iff,hrest];omega))
 ·exact(hD _).2 (bad A hs fun h=>by have:=hrest.1 h;omega)
end
end Go.Proofs.YtphigpccfbfnoaaGreatDoor
