/-
  Parts of the proof: DeB DeC TrB TrC
-/
import Derived.Test.YtphigpccfbfnoaaGreatDoorG25
import Derived.Test.YtphigpccfbfnoaaGreatDoorG26
import Derived.Test.YtphigpccfbfnoaaGreatDoorG27
import Derived.Test.YtphigpccfbfnoaaGreatDoorG17
import Derived.Test.YtphigpccfbfnoaaGreatDoorG24
set_option maxRecDepth 100000
set_option maxHeartbeats 0
namespace Go.Proofs.YtphigpccfbfnoaaGreatDoor
open Go.Sx Go.RowKit
noncomputable section
open Classical
theorem BT:FOk Tryz.prog 73 dU:=by
 refine aS mixed fun d vs A hp=> ?_
 obtain⟨cs,rfl,hR,hA⟩:∃cs,vs= [bx cs]∧bj A d cs∧gT A:=hp;obtain⟨⟨zxid,kind,ses,ah,xid,time,path,data,owner,ver,cver,tmo,err,cfg,mem⟩,parts⟩:=d;rw [bj]at hR;dsimp only [bJ.cells]at hR;obtain⟨vd,vm,vp,rows,rfl, -,⟨⟨a7,k7,rfl, -⟩, -⟩,⟨⟨a14,k14,rfl, -⟩, -⟩,⟨a15,k15,rfl, -⟩, -⟩:=hR;refine⟨C0,noL,60,tA,ak _,?_⟩
 by_cases hk:kind=1∨kind=2∨kind=3∨kind=4∨kind=5∨kind=6∨kind=7∨kind=8∨kind=9
 ·rcases hk with rfl|rfl|rfl|rfl|rfl|rfl|rfl|rfl|rfl
  ·exact fitsK1 hA _ _ _ _ _ _ _ _ _ _ _ _ _ _ _ _ _ _ _ _ _
  ·exact fitsK2 hA _ _ _ _ _ _ _ _ _ _ _ _ _ _ _ _ _ _ _ _ _
  ·exact fitsK3 hA _ _ _ _ _ _ _ _ _ _ _ _ _ _ _ _ _ _ _ _ _
  ·exact fitsK4 hA _ _ _ _ _ _ _ _ _ _ _ _ _ _ _ _ _ _ _ _ _
  ·exact fitsK5 hA _ _ _ _ _ _ _ _ _ _ _ _ _ _ _ _ _ _ _ _ _
  ·exact fitsK6 hA _ _ _ _ _ _ _ _ _ _ _ _ _ _ _ _ _ _ _ _ _
  ·exact fitsK7 hA _ _ _ _ _ _ _ _ _ _ _ _ _ _ _ _ _ _ _ _ _
  ·exact fitsK8 hA _ _ _ _ _ _ _ _ _ _ _ _ _ _ _ _ _ _ _ _ _
  ·exact fitsK9 hA _ _ _ _ _ _ _ _ _ _ _ _ _ _ _ _ _ _ _ _ _
 ·have bad:Value.bool false= .bool (decide (cu ⟨zxid,kind,ses,ah,xid,time,path,data,owner,ver,cver,tmo,err,cfg,mem⟩ parts.length)):=by
    rw [decide_eq_false fun h=>hk (by have:=h.1;dsimp only at this;omega)]
  intro blk os out tape D hD;conv=>lhs;whnf
  refine ab (fun h1=> ?_) (fun h1=> ?_)<;>(conv=>lhs;whnf)
  ·exact(hD _).2 ⟨rfl,bad⟩
  refine ab (fun h2=> ?_) (fun h2=> ?_)<;>(conv=>lhs;whnf)
  ·exact(hD _).2 ⟨rfl,bad⟩
  exact absurd (by omega) hk
def mO(last:Int)(p:aB):Prop:=
 p.h.zxid=0∧p.h.ses=0∧p.h.ah=0∧p.h.xid=0∧p.h.time=0∧cu p.h p.parts.length∧p.h.kind≤last∧(last=2→p.h.kind=2)
def gH(ds:List aB)(least most last:Int):Prop:=least≤ds.length∧(ds.length:Int)≤most∧∀p∈ds,mO last p
def Fk:aL:=⟨List aB×Int×Int×Int,fun g vs A=>∃v,vs= [v,.int .i64 g.2.1,.int .i64 g.2.2.1,.int .u8 g.2.2.2]∧gi A v g.1∧gT A,fun g _ A v A'=>A'=A∧v= .bool (decide (gH g.1 g.2.1 g.2.2.1 g.2.2.2))⟩
def Fl(A:aa)(ds:List aB)(last:Int):dE:= { γ:=Nat,G:=fun k=>k≤ds.length∧∀p∈ds.take k,mO last p,keepS:= [3,21,22],keepB:= [],sl:=fun k=> [(23,.v (.int .i64 k))],bl:=fun _=> [],ar:=fun _=>A,mu:=fun k=>ds.length-k }
theorem Fj:FOk Tryz.prog 74 Fk:=by
 refine aS mixed fun⟨ds,least,most,last⟩ vs A hp=> ?_
 obtain⟨v,rfl,⟨rows,⟨ao,c,rfl,hc,hl,ha1,ha2,ha3⟩,hsz,hR⟩,hA⟩:∃v,vs= [v,.int .i64 least,.int .i64 most,.int .u8 last]∧gi A v ds∧gT A:=hp
 have hC:aF Tryz.prog (bu [aE 73 dU] noC):=az (aj _) (fun x hx=>by
  simp only [List.mem_singleton]at hx
  subst hx;exact ai BT)
 refine⟨_,da Tryz.prog _ noL 60 [(74,0)],60,hC,aH mixed hC (ak _) _ _,fun blk os out tape D hD=> ?_⟩;have bad:¬gH ds least most last→Value.bool false= .bool (decide (gH ds least most last)):=fun h=>by rw [decide_eq_false h]
 conv=>lhs;whnf
 refine ab (fun h1=> ?_) (fun h1=> ?_)<;>(conv=>lhs;whnf)
 ·have h1:(ds.length:Int)<least:=h1
  exact(hD _).2 ⟨rfl,bad fun h=>by have:=h.1;omega⟩
 have h1:¬(ds.length:Int)<least:=h1;refine ab (fun h2=> ?_) (fun h2=> ?_)<;>(conv=>lhs;whnf)
 ·have h2:most<(ds.length:Int):=h2
  exact(hD _).2 ⟨rfl,bad fun h=>by have:=h.2.1;omega⟩
 have h2:¬most<(ds.length:Int):=h2;refine(hD _).2 ⟨Fl A ds last,⟨(0:Nat),⟨Nat.zero_le _,by simp⟩,⟨rfl,trivial⟩,trivial,rfl⟩,fun(k:Nat) hG=>⟨⟨trivial,trivial⟩,trivial,?_⟩⟩;obtain⟨hk,hall⟩:k≤ds.length∧∀p∈ds.take k,mO last p:=hG;conv=>lhs;whnf
 refine ab (fun hlt=> ?_) (fun hlt=> ?_)
 ·have hlt:(k:Int)<ds.length:=hlt
  have hkn:k<ds.length:=by omega
  obtain⟨g,o,rfl,hra⟩:=Sl.at_ hc ha1 ha2 ha3 (by omega);obtain⟨cs,hcs,hd⟩:=fD hra hR k hkn rfl;conv=>lhs;whnf
  refine aq ⟨by omega,hlt⟩ ?_;conv=>lhs;whnf
  have hbad:¬mO last ds[k]→¬gH ds least most last:=fun h hp=>h (hp.2.2 _ (List.getElem_mem hkn))
  have hgood:mO last ds[k]→∀p∈ds.take (k+1),mO last p:=fun h p hp=>by
   rw [List.take_succ_eq_append_getElem hkn,List.mem_append]at hp;rcases hp with hp|hp
   ·exact hall p hp
   ·rw [List.mem_singleton]at hp
    subst hp;exact h
  generalize ds[k]=d at hd hbad hgood;obtain⟨⟨zxid,kind,ses,ah,xid,time,path,data,owner,ver,cver,tmo,err,cfg,mem⟩,parts⟩:=d;obtain⟨a7,l7,k7,a14,l14,k14,a15,l15,k15,rfl⟩:=hd.form;dsimp only [aB.h,bJ.cells]at hcs hd;simp only [mO,aB.h,aB.parts]at hbad hgood;refine af hcs ?_;conv=>lhs;whnf
  refine aQ (fun h=> ?_) (fun h3=> ?_)<;>(conv=>lhs;whnf)
  ·simp at h;exact(hD _).2 ⟨rfl,bad (hbad fun hP=>by omega)⟩
  refine aQ (fun h=> ?_) (fun h4=> ?_)<;>(conv=>lhs;whnf)
  ·simp at h;exact(hD _).2 ⟨rfl,bad (hbad fun hP=>by omega)⟩
  refine aQ (fun h=> ?_) (fun h5=> ?_)<;>(conv=>lhs;whnf)
  ·simp at h;exact(hD _).2 ⟨rfl,bad (hbad fun hP=>by omega)⟩
  refine aQ (fun h=> ?_) (fun h6=> ?_)<;>(conv=>lhs;whnf)
  ·simp at h;exact(hD _).2 ⟨rfl,bad (hbad fun hP=>by omega)⟩
  refine aQ (fun h=> ?_) (fun h7=> ?_)<;>(conv=>lhs;whnf)
  ·simp at h;exact(hD _).2 ⟨rfl,bad (hbad fun hP=>by omega)⟩
  refine(hD _).2 ⟨_,⟨_,rfl,hd,hA⟩,fun v A' hq=> ?_⟩;obtain⟨rfl,rfl⟩:A'=A∧v= .bool (decide (cu ⟨zxid,kind,ses,ah,xid,time,path,data,owner,ver,cver,tmo,err,cfg,mem⟩ parts.length)):=hq;simp at h3 h4 h5 h6 h7;conv=>lhs;whnf
  refine cL (fun h8=> ?_) (fun h8=> ?_)<;>(conv=>lhs;whnf)
  rotate_left
  ·exact(hD _).2 ⟨rfl,bad (hbad fun hP=>h8 hP.2.2.2.2.2.1)⟩
  refine ab (fun h9=> ?_) (fun h9=> ?_)<;>(conv=>lhs;whnf)
  ·exact(hD _).2 ⟨rfl,bad (hbad fun hP=>by omega)⟩
  refine ab (fun h10=> ?_) (fun h10=> ?_)<;>(conv=>lhs;whnf)
  ·refine aQ (fun h=> ?_) (fun h=> ?_)<;>(conv=>lhs;whnf)
   ·simp at h
    exact(hD _).2 ⟨rfl,bad (hbad fun hP=>by omega)⟩
   ·simp at h
    exact(hD _).2 ⟨(k+1:Nat),⟨⟨by omega,hgood ⟨h3,h4,h5,h6,h7,h8,by omega,fun _=>by omega⟩⟩,⟨av (by omega),trivial⟩,trivial,rfl⟩,by show ds.length-(k+1)<ds.length-k;omega,⟨rfl,rfl,rfl,trivial⟩,trivial⟩
  ·refine(hD _).2 ⟨(k+1:Nat),⟨⟨by omega,hgood ⟨h3,h4,h5,h6,h7,h8,by omega,fun h=>absurd h h10⟩⟩,⟨av (by omega),trivial⟩,trivial,rfl⟩,by show ds.length-(k+1)<ds.length-k;omega,⟨rfl,rfl,rfl,trivial⟩,trivial⟩
 ·have hlt:¬(k:Int)<ds.length:=hlt
  conv=>lhs;whnf
  refine(hD _).2 ⟨rfl,?_⟩;have hkn:k=ds.length:=by omega
  rw [hkn,List.take_length]at hall;have h9:gH ds least most last:=⟨by omega,by omega,hall⟩;show Value.bool true= .bool (decide (gH ds least most last))
  rw [decide_eq_true h9]
def cJ(d:aB):Prop:=
 1≤d.h.zxid∧d.h.zxid/4294967296≤1073741824∧0≤d.h.ses∧0≤d.h.ah∧0≤d.h.xid∧0≤d.h.time∧cu d.h d.parts.length∧
 (d.h.kind=5→gH d.parts 0 500 2)∧(d.h.kind=7→jj d.h.cfg d.h.mem=0∧d.h.cfg=d.h.zxid)∧(d.h.kind=8→gH d.parts 1 16 3)
def EO:aL:=⟨aB,fun d vs A=>∃cs,vs= [bx cs]∧bj A d cs∧gT A,fun d _ A v A'=>A'=A∧v= .bool (decide (cJ d))⟩
theorem EN:FOk Tryz.prog 28 EO:=by
 refine aS mixed fun d vs A hp=> ?_
 obtain⟨cs,rfl,hR,hA⟩:∃cs,vs= [bx cs]∧bj A d cs∧gT A:=hp
 have hC:aF Tryz.prog (bu [aE 73 dU,aE 74 Fk,aE 75 ensS] noC):=az (aj _) (fun x hx=>by
  simp only [List.mem_cons,List.not_mem_nil,or_false]at hx;rcases hx with rfl|rfl|rfl
  ·exact ai BT
  ·exact ai Fj
  ·exact ai ens_ok)
 refine⟨_,noL,60,hC,ak _,fun blk os out tape D hD=> ?_⟩;have hR0:=hR;obtain⟨⟨zxid,kind,ses,ah,xid,time,path,data,owner,ver,cver,tmo,err,cfg,mem⟩,parts⟩:=d;rw [bj]at hR;dsimp only [bJ.cells]at hR;obtain⟨vd,vm,vp,rows,rfl, -,⟨⟨a7,k7,rfl, -⟩, -⟩,hM,hS,hlen,hRows⟩:=hR;obtain⟨a14,k14,rfl⟩:=hM.1.form;obtain⟨a15,k15,rfl⟩:=hS.form;have bad:¬cJ (.mk ⟨zxid,kind,ses,ah,xid,time,path,data,owner,ver,cver,tmo,err,cfg,mem⟩ parts)→Value.bool false= .bool (decide (cJ (.mk ⟨zxid,kind,ses,ah,xid,time,path,data,owner,ver,cver,tmo,err,cfg,mem⟩ parts))):=fun h=>by rw [decide_eq_false h]
 have fin:∀ {b:Bool},(b=true↔cJ (.mk ⟨zxid,kind,ses,ah,xid,time,path,data,owner,ver,cver,tmo,err,cfg,mem⟩ parts))→Value.bool b= .bool (decide (cJ (.mk ⟨zxid,kind,ses,ah,xid,time,path,data,owner,ver,cver,tmo,err,cfg,mem⟩ parts))):=fun {b} h=>by
  congr 1;rw [Bool.eq_iff_iff,decide_eq_true_eq];exact h
 simp only [cJ,aB.h,aB.parts]at bad fin;conv=>lhs;whnf
 refine ab (fun h1=> ?_) (fun h1=> ?_)<;>(conv=>lhs;whnf)
 ·exact(hD _).2 ⟨rfl,bad fun h=>by omega⟩
 have hz:zxid.fdiv (2^min (Int.toNat 32) IntKind.i64.bits)=zxid/4294967296:=by
  show zxid.fdiv 4294967296=_
  rw [Int.fdiv_eq_ediv_of_nonneg _ (by decide)]
 refine ab (fun h2=> ?_) (fun h2=> ?_)<;>(conv=>lhs;whnf)
 rotate_left
 ·exact(hD _).2 ⟨rfl,bad fun h=>by omega⟩
 refine cL (fun h3=> ?_) (fun h3=> ?_)<;>(conv=>lhs;whnf)
 rotate_left
 ·rw [hz]at h3
  exact(hD _).2 ⟨rfl,bad fun h=>by omega⟩
 rw [hz]at h3;refine ab (fun h4=> ?_) (fun h4=> ?_)<;>(conv=>lhs;whnf)
 ·exact(hD _).2 ⟨rfl,bad fun h=>by omega⟩
 refine ab (fun h5=> ?_) (fun h5=> ?_)<;>(conv=>lhs;whnf)
 ·exact(hD _).2 ⟨rfl,bad fun h=>by omega⟩
 refine ab (fun h6=> ?_) (fun h6=> ?_)<;>(conv=>lhs;whnf)
 ·exact(hD _).2 ⟨rfl,bad fun h=>by omega⟩
 refine ab (fun h7=> ?_) (fun h7=> ?_)<;>(conv=>lhs;whnf)
 ·exact(hD _).2 ⟨rfl,bad fun h=>by omega⟩
 refine(hD _).2 ⟨_,⟨_,rfl,hR0,hA⟩,fun v A' hq=> ?_⟩;obtain⟨rfl,rfl⟩:A'=A∧v= .bool (decide (cu ⟨zxid,kind,ses,ah,xid,time,path,data,owner,ver,cver,tmo,err,cfg,mem⟩ parts.length)):=hq;conv=>lhs;whnf
 refine cL (fun h8=> ?_) (fun h8=> ?_)<;>(conv=>lhs;whnf)
 rotate_left
 ·exact(hD _).2 ⟨rfl,bad fun h=>h8 h.2.2.2.2.2.2.1⟩
 refine ab (fun h9=> ?_) (fun h9=> ?_)<;>(conv=>lhs;whnf)
 ·refine(hD _).2 ⟨(parts,0,500,2),⟨_,rfl,⟨rows,hS,hlen,hRows⟩,hA⟩,fun v A'' hq=> ?_⟩
  obtain⟨rfl,rfl⟩:A''=A'∧v= .bool (decide (gH parts 0 500 2)):=hq;conv=>lhs;whnf
  exact(hD _).2 ⟨rfl,fin (by
   rw [decide_eq_true_eq]
   exact⟨fun h=>⟨by omega,by omega,by omega,by omega,by omega,by omega,h8,fun _=>h,fun h=>by omega,fun h=>by omega⟩,fun h=>h.2.2.2.2.2.2.2.1 h9⟩)⟩
 refine ab (fun h10=> ?_) (fun h10=> ?_)<;>(conv=>lhs;whnf)
 ·refine(hD _).2 ⟨(cfg,mem),⟨_,rfl,hM⟩,fun v A'' hq=> ?_⟩
  obtain⟨rfl,rfl⟩:A''=A'∧v= .int .i64 (jj cfg mem):=hq;conv=>lhs;whnf
  refine ab (fun h11=> ?_) (fun h11=> ?_)<;>(conv=>lhs;whnf)
  ·exact(hD _).2 ⟨rfl,fin (by
    rw [cond_true,decide_eq_true_eq]
    exact⟨fun h=>⟨by omega,by omega,by omega,by omega,by omega,by omega,h8,fun h=>by omega,fun _=>⟨h11,h⟩,fun h=>by omega⟩,fun h=>(h.2.2.2.2.2.2.2.2.1 h10).2⟩)⟩
  ·exact(hD _).2 ⟨rfl,bad fun h=>h11 (h.2.2.2.2.2.2.2.2.1 h10).1⟩
 refine ab (fun h12=> ?_) (fun h12=> ?_)<;>(conv=>lhs;whnf)
 ·refine(hD _).2 ⟨(parts,1,16,3),⟨_,rfl,⟨rows,hS,hlen,hRows⟩,hA⟩,fun v A'' hq=> ?_⟩
  obtain⟨rfl,rfl⟩:A''=A'∧v= .bool (decide (gH parts 1 16 3)):=hq;conv=>lhs;whnf
  exact(hD _).2 ⟨rfl,fin (by
   rw [decide_eq_true_eq]
   exact⟨fun h=>⟨by omega,by omega,by omega,by omega,by omega,by omega,h8,fun h=>by omega,fun h=>by omega,fun _=>h⟩,fun h=>h.2.2.2.2.2.2.2.2.2 h12⟩)⟩
 ·exact(hD _).2 ⟨rfl,fin (iff_of_true rfl ⟨by omega,by omega,by omega,by omega,by omega,by omega,h8,fun h=>by omega,fun h=>by omega,fun h=>by omega⟩)⟩
def bf(A B:aa)(O:Nat→Prop)(t:Nat)(T':aT)(A':aa):Prop:=∃B' O',bz A' B' O' t T'∧Step A B O A' B' O'
def gN(z cv:Int)(n:bn):bn:=⟨n.data, { n.stat with cver:=cv,pzxid:=z }⟩
def cB(T:aT)(p:ByteArray)(z cv:Int):aT:=⟨ev (aR p) (gN z cv) T.nodes,T.aK⟩
structure TG where
 T:aT
 B:aa
 O:Nat→Prop
 t:Nat
def markS:aL:=⟨TG×ByteArray×Int×Int,fun g vs A=>vs= [.pointer (some ⟨g.1.t,0,none⟩),.string g.2.1,.int .i64 g.2.2.1,.int .i64 g.2.2.2]∧bz A g.1.B g.1.O g.1.t g.1.T,
 fun g _ A _ A'=>bf A g.1.B g.1.O g.1.t (cB g.1.T g.2.1 g.2.2.1 g.2.2.2) A'⟩
theorem parentC:aF Tryz.prog (bu [aE 96 qN] noC):=az (aj _) (fun x hx=>by
 simp only [List.mem_singleton]at hx
 subst hx;exact ai pf)
theorem mark_ok:FOk Tryz.prog 76 markS:=by
 refine aS mixed fun⟨⟨T,B,O,t⟩,p,z,cv⟩ vs A hp=> ?_
 obtain⟨rfl,m,s,E,h⟩:vs= [.pointer (some ⟨t,0,none⟩),.string p,.int .i64 z,.int .i64 cv]∧bz A B O t T:=hp;refine⟨_,noL,60,parentC,ak _,fun blk os out tape D hD=> ?_⟩;conv=>lhs;whnf
 have htop:A.rd t 0 1=some [.map (some m)]:=h.top.rd (o:=0) (n:=1) (by show 0+1≤2;omega);refine af htop ?_;conv=>lhs;whnf
 refine(hD _).2 ⟨p,rfl,fun v A' hq=> ?_⟩;obtain⟨rfl,rfl⟩:A'=A∧v= .string (aR p):=hq;conv=>lhs;whnf
 repeat(first|refine af htop ?_|refine au hD rfl ?_
        conv=>lhs;whnf)
 refine dg (h.look (aR p)) ?_
 have stop:aM (aR p) E=none→bf A' B O t (cB T p z cv) A':=fun hp=>by
  refine⟨B,O,⟨m,s,E,?_⟩,Step.refl _ _ _⟩;have:cB T p z cv=T:=by rw [cB,pB (by rw [h.get,hp];rfl)]
  rw [this];exact h
 cases hp:aM (aR p) E with
 |none=>
  conv=>lhs;whnf
  exact(hD _).2 (stop hp)
 |some x=>
  obtain⟨g,n⟩:=x;have hmem:=iK (eV _) hp;obtain⟨w,hc,hs⟩:=h.cells _ hmem;conv=>lhs;whnf
  refine(hD _).2 ⟨hc.room (o:=7) (n:=1) (by show 7+1≤11;omega),fun A1 hP1=> ?_⟩;have hP1:A'.Put A1 g 7 [.int .i64 cv]:=hP1;have hc1:aG A1 g (w::({ n.stat with cver:=cv } :ec).cells):=hc.put hP1 (by show 7+1≤11;omega);conv=>lhs;whnf
  refine(hD _).2 ⟨hc1.room (o:=3) (n:=1) (by show 3+1≤11;omega),fun A2 hP2=> ?_⟩;have hP2:A1.Put A2 g 3 [.int .i64 z]:=hP2;have hc2:aG A2 g (w::({ n.stat with cver:=cv,pzxid:=z } :ec).cells):=hc1.put hP2 (by show 3+1≤11;omega);conv=>lhs;whnf
  have hOg:=h.own.2.2.2 _ hmem;have hother:∀k,k≠g→A2.blk k=A'.blk k:=fun k hk=>by rw [hP2.other k hk,hP1.other k hk]
  have hB:B.Sub A2:=fun k o hk=>by rw [hother k fun e=>by subst e;rw [h.off _ hOg]at hk;cases hk];exact h.sub k o hk
  have hd:∀k,A2.blk k=none→A'.blk k=none:=fun k hk=>(hP1.dom k).1 ((hP2.dom k).1 hk)
  have e:ev (aR p) (fun _=>gN z cv n) T.nodes=ev (aR p) (gN z cv) T.nodes:=wy (by rw [h.get,hp];rfl);have hR:=h.mod (n':=gN z cv n) hp (fun k _ hk=>hother k hk) ⟨w,hc2,hs⟩ (aa.Sub.refl _) hB h.off;rw [e]at hR;have hend:bf A' B O t (cB T p z cv) A2:=⟨B,O,⟨m,s,_,hR⟩,⟨fun k o hk hO=>by rw [hother k fun e=>hO (e▸hOg)];exact hk,hd,fun _ hk=> .inl hk,aa.Sub.refl _,fun _ _ hk=> .inl hk⟩⟩;exact(hD _).2 hend
def kj(h:bJ)(z time:Int)(n:bn):bn:=⟨h.data, { n.stat with mzxid:=z,mtime:=time,ver:=h.ver }⟩
def iT(h:bJ)(z time:Int):bn:=⟨h.data,⟨z,z,z,time,time,0,0,h.owner,0,0⟩⟩
def aV(T:aT)(h:bJ)(z time:Int):aT:=
 if h.kind=3 then⟨ev h.path (kj h z time) T.nodes,T.aK⟩
 else if h.kind=1 then cB ⟨cH h.path (iT h z time) T.nodes,T.aK⟩ h.path z h.cver
 else if h.kind=2 then cB ⟨eJ h.path T.nodes,T.aK⟩ h.path z h.cver
 else cB T h.path z h.cver
def Aside(A C:aa)(O:Nat→Prop):Prop:=C.Sub A∧∀k o,C.blk k=some o→¬O k
theorem Aside.step{A B A' B' C:aa}{O O':Nat→Prop}(h:Aside A C O)(s:Step A B O A' B' O'):Aside A' C O':=
 ⟨s.stays h.1 h.2,fun k o hk hO=>by
   rcases s.own k hO with h1|h1
   ·exact h.2 k o hk h1
   ·rw [h.1 k o hk]at h1;cases h1⟩
def Ce:aL:=⟨TG×aB×aa×Int×Int,fun g vs A=>∃cs,vs= [.pointer (some ⟨g.1.t,0,none⟩),bx cs,.int .i64 g.2.2.2.1,.int .i64 g.2.2.2.2]∧bz A g.1.B g.1.O g.1.t g.1.T∧bj g.2.2.1 g.2.1 cs∧Aside A g.2.2.1 g.1.O,
 fun g _ A _ A'=>bf A g.1.B g.1.O g.1.t (aV g.1.T g.2.1.h g.2.2.2.1 g.2.2.2.2) A'⟩
theorem Ev{A B A1 A2:aa}{O:Nat→Prop}{t:Nat}{T:aT}{m s:Nat}{E:List (ByteArray×Nat×bn)}(h:di A B O t T m s E){p:ByteArray}{g:Nat}{n:bn}{f:bn→bn}(hp:aM p E=some (g,n))
  (s1:A.Sub A1) (hother:∀k,k≠g→A2.blk k=A1.blk k) (hdom:∀k,A2.blk k=none↔A1.blk k=none) (hn:nt A2 (A1.minus A) g (f n)):bf A B O t ⟨ev p f T.nodes,T.aK⟩ A2:=by
 have hmem:=iK (eV _) hp;have hOg:=h.own.2.2.2 _ hmem
 have hgA:∃o,A.blk g=some o:=by
  obtain⟨v,hc,_⟩:=h.cells _ hmem;exact hc.dom
 have hne:∀k o,(A1.minus A).blk k=some o→k≠g:=fun k o hk e=>by
  subst e;obtain⟨o',ho'⟩:=hgA;rw [cG _ ho']at hk;cases hk
 have hBA:B.Sub A2:=fun k o hk=>by
  rw [hother k fun e=>by subst e;rw [h.off _ hOg]at hk;cases hk];exact s1 _ _ (h.sub k o hk)
 have hsub:(B.plus (A1.minus A)).Sub A2:=fun k o hk=>by
  rcases bL hk with hk|⟨_,hk⟩
  ·exact hBA k o hk
  ·rw [hother k (hne k o hk)];exact(bN hk).2
 have hoff:∀k,O k→(B.plus (A1.minus A)).blk k=none:=fun k hO=>by
  rw [jC,h.off k hO];obtain⟨o,ho⟩:=h.live k hO;exact cG _ ho
 have hR:=h.mod (n':=f n) hp (A':=A2) (B':=B.plus (A1.minus A)) (fun k hO hk=>by
  rw [hother k hk];obtain⟨o,ho⟩:=h.live k hO
  rw [ho,s1 _ _ ho]) (by obtain⟨v,h1,h2⟩:=hn;exact⟨v,h1,h2.sub (oY (gO h.sub))⟩) (fk _ _) hsub hoff
 have e:ev p (fun _=>f n) T.nodes=ev p f T.nodes:=wy (by rw [h.get,hp];rfl);rw [e]at hR;refine⟨_,O,⟨m,s,_,hR⟩,⟨fun k o hk hO=> ?_,fun k hk=> ?_,fun k hk=> .inl hk,fk _ _,fun k o hk=> ?_⟩⟩
 ·rw [hother k fun e=>hO (e▸hOg)];exact s1 _ _ hk
 ·cases hA:A.blk k with
  |none=>rfl
  |some o=>have h1:=(hdom k).1 hk;rw [s1 _ _ hA]at h1;cases h1
 ·rcases bL hk with hk|⟨_,hk⟩
  ·exact .inl hk
  ·exact .inr (bN hk).1
theorem xg{A B A1 A2 A3:aa}{O:Nat→Prop}{t:Nat}{T:aT}{m s:Nat}{E:List (ByteArray×Nat×bn)}(h:di A B O t T m s E){p:ByteArray}{g:Nat}{n:bn}{c:Array Value}{ty:TypeId}{v:Value}
  (s1:A.Sub A1) (hN:A1.New A2 g c ty) (hc:c.toList=v::n.stat.cells) (hv:SlB (A1.minus A) v n.data)
  (hm:bX A3 m (cA (.string p) (gV g) (fF gV (dv (·.1) E)))) (hother:∀k,k≠m→A3.blk k=A2.blk k):bf A B O t ⟨cH p n T.nodes,T.aK⟩ A3:=by
 have hgA:A.blk g=none:=by
  cases hA:A.blk g with
  |none=>rfl
  |some o=>have:=s1 _ _ hA;rw [hN.none_]at this;cases this
 have hm0:∃o,A.blk m=some o:=h.live m h.own.2.1
 have hmg:m≠g:=fun e=>by
  obtain⟨o,ho⟩:=hm0;rw [e,hgA]at ho;cases ho
 have bk:∀k o,A.blk k=some o→k≠m→A3.blk k=some o:=fun k o hk hne=>by
  rw [hother k hne];exact hN.sub k o (s1 k o hk)
 have hg3:A3.blk g=A2.blk g:=hother g (Ne.symm hmg)
 have hnew:∀k o,(A1.minus A).blk k=some o→k≠m∧k≠g:=fun k o hk=>by
  obtain⟨h1,h2⟩:=bN hk;refine⟨fun e=> ?_,fun e=> ?_⟩
  ·obtain⟨o',ho'⟩:=hm0
   rw [e,ho']at h1;cases h1
  ·rw [e,hN.none_]at h2;cases h2
 have hBm:∀k o,B.blk k=some o→k≠m:=fun k o hk e=>by
  subst e;rw [h.off _ h.own.2.1]at hk;cases hk
 have hsub:(B.plus (A1.minus A)).Sub A3:=fun k o hk=>by
  rcases bL hk with hk|⟨_,hk⟩
  ·exact bk k o (h.sub k o hk) (hBm k o hk)
  ·rw [hother k (hnew k o hk).1];exact hN.sub k o (bN hk).2
 have hoff:∀k,O k∨k=g→(B.plus (A1.minus A)).blk k=none:=fun k hk=>by
  cases hb:(B.plus (A1.minus A)).blk k with
  |none=>rfl
  |some o=>
   rcases bL hb with hb|⟨_,hb⟩
   ·rcases hk with hk|rfl
    ·rw [h.off k hk]at hb;cases hb
    ·have:=h.sub k o hb;rw [hgA]at this;cases this
   ·rcases hk with hk|rfl
    ·obtain⟨o',ho'⟩:=h.live k hk
     rw [cG _ ho']at hb;cases hb
    ·exact absurd rfl (hnew k o hb).2
 have hR:=h.put (p:=p) (g:=g) (n:=n) (A':=A3) (B':=B.plus (A1.minus A)) hgA (fun k hO hk=>by
  obtain⟨o,ho⟩:=h.live k hO
  rw [ho,bk k o ho hk]) hm ⟨v,⟨c,ty,(0,0),by rw [hg3];exact hN.at_,.inl rfl,hc⟩,hv.sub (oY (gO h.sub))⟩ (fk _ _) hsub hoff
 refine⟨_,_,⟨m,s,_,hR⟩,⟨fun k o hk hO=>bk k o hk fun e=>hO (e▸h.own.2.1),fun k hk=> ?_,fun k hk=> ?_,fk _ _,fun k o hk=> ?_⟩⟩
 ·cases hA:A.blk k with
  |none=>rfl
  |some o=>
   by_cases e:k=m
   ·obtain⟨es,cl,h1,_⟩:=hm
    rw [e,h1]at hk;cases hk
   ·rw [bk k o hA e]at hk;cases hk
 ·rcases hk with hk|rfl
  ·exact .inl hk
  ·exact .inr hgA
 ·rcases bL hk with hk|⟨_,hk⟩
  ·exact .inl hk
  ·exact .inr (bN hk).1
theorem bf.trans{A B A1 A2 B1:aa}{O O1:Nat→Prop}{t:Nat}{T:aT}(h:Step A B O A1 B1 O1)(k:bf A1 B1 O1 t T A2):bf A B O t T A2:=by
 obtain⟨B2,O2,h1,h2⟩:=k;exact⟨B2,O2,h1,h.trans h2⟩
def GO:TypeId→Bool:=fun t=>Nat.beq t 57
theorem D5:FOk Tryz.prog 29 Ce:=by
 refine sN mixed GO fun⟨⟨T,B,O,t⟩,d,C,z,time⟩ vs A hp=> ?_
 obtain⟨cs,rfl,hT,hR,hC⟩:∃cs,vs= [.pointer (some ⟨t,0,none⟩),bx cs,.int .i64 z,.int .i64 time]∧bz A B O t T∧bj C d cs∧Aside A C O:=hp
 have hCt:aF Tryz.prog (bu [aE 76 markS,aE 46 gQ] noC):=az (aj _) (fun x hx=>by
  simp only [List.mem_cons,List.not_mem_nil,or_false]at hx;rcases hx with rfl|rfl
  ·exact ai mark_ok
  ·exact ai jm)
 obtain⟨⟨zxid,kind,ses,ah,xid,dtime,path,data,owner,ver,cver,tmo,err,cfg,mem⟩,parts⟩:=d;rw [bj]at hR;dsimp only [bJ.cells]at hR;obtain⟨vd,vm,vp,rows,rfl, -,hd,⟨⟨a14,k14,rfl, -⟩, -⟩,⟨a15,k15,rfl, -⟩, -⟩:=hR;obtain⟨a7,k7,rfl⟩:=hd.1.form;refine⟨_,noL,60,hCt,ak _,fun blk os out tape D hD=> ?_⟩;obtain⟨m,s,E,h⟩:=hT;have htop:A.rd t 0 1=some [.map (some m)]:=h.top.rd (o:=0) (n:=1) (by show 0+1≤2;omega);conv=>lhs;whnf
 refine ab (fun h3=> ?_) (fun h3=> ?_)<;>(conv=>lhs;whnf)
 ·subst h3
  refine af htop ?_;conv=>lhs;whnf
  refine dg (h.look path) ?_
  cases hp:aM path E with
  |none=>
   conv=>lhs;whnf
   have hend:bf A B O t (aV T ⟨zxid,3,ses,ah,xid,dtime,path,data,owner,ver,cver,tmo,err,cfg,mem⟩ z time) A:=by
    refine⟨B,O,⟨m,s,E,?_⟩,Step.refl _ _ _⟩;rw [aV,if_pos rfl,pB (by rw [h.get,hp];rfl)];exact h
   exact(hD _).2 hend
  |some x=>
   obtain⟨g,n⟩:=x;have hmem:=iK (eV _) hp;obtain⟨w,hc,hs⟩:=h.cells _ hmem;have hc:aG A g (w::n.stat.cells):=hc;conv=>lhs;whnf
   refine(hD _).2 ⟨data,⟨_,rfl,hd.sub hC.1⟩,fun v A1 hq=> ?_⟩;obtain⟨s1,b1⟩:A.Sub A1∧SlB (A1.minus A) v data:=hq;obtain⟨ao,ko,rfl⟩:=b1.1.form;have hc0:=hc.sub (s1 g);conv=>lhs;whnf
   refine(hD _).2 ⟨hc0.room (o:=0) (n:=1) (by show 0+1≤11;omega),fun A2 hP2=> ?_⟩;have hP2:A1.Put A2 g 0 [.slice ao data.length ko]:=hP2;have hc2:aG A2 g (.slice ao data.length ko::n.stat.cells):=hc0.put hP2 (by show 0+1≤11;omega);conv=>lhs;whnf
   refine(hD _).2 ⟨hc2.room (o:=2) (n:=1) (by show 2+1≤11;omega),fun A3 hP3=> ?_⟩;have hP3:A2.Put A3 g 2 [.int .i64 z]:=hP3;have hc3:aG A3 g (.slice ao data.length ko::({ n.stat with mzxid:=z } :ec).cells):=hc2.put hP3 (by show 2+1≤11;omega);conv=>lhs;whnf
   repeat(refine au hD rfl ?_;conv=>lhs;whnf)
   refine(hD _).2 ⟨hc3.room (o:=5) (n:=1) (by show 5+1≤11;omega),fun A4 hP4=> ?_⟩;have hP4:A3.Put A4 g 5 [.int .i64 time]:=hP4;have hc4:aG A4 g (.slice ao data.length ko::({ n.stat with mzxid:=z,mtime:=time } :ec).cells):=hc3.put hP4 (by show 5+1≤11;omega);conv=>lhs;whnf
   repeat(refine au hD rfl ?_;conv=>lhs;whnf)
   refine(hD _).2 ⟨hc4.room (o:=6) (n:=1) (by show 6+1≤11;omega),fun A5 hP5=> ?_⟩;have hP5:A4.Put A5 g 6 [.int .i64 ver]:=hP5;have hc5:aG A5 g (.slice ao data.length ko::({ n.stat with mzxid:=z,mtime:=time,ver:=ver } :ec).cells):=hc4.put hP5 (by show 6+1≤11;omega);conv=>lhs;whnf
   have hother:∀k,k≠g→A5.blk k=A1.blk k:=fun k hk=>by rw [hP5.other k hk,hP4.other k hk,hP3.other k hk,hP2.other k hk]
   have hdom:∀k,A5.blk k=none↔A1.blk k=none:=fun k=>(hP5.dom k).trans ((hP4.dom k).trans ((hP3.dom k).trans (hP2.dom k)))
   have hR:bf A B O t ⟨ev path (kj ⟨zxid,3,ses,ah,xid,dtime,path,data,owner,ver,cver,tmo,err,cfg,mem⟩ z time) T.nodes,T.aK⟩ A5:=
    Ev h hp s1 hother hdom ⟨_,hc5,b1⟩
   have hend:bf A B O t (aV T ⟨zxid,3,ses,ah,xid,dtime,path,data,owner,ver,cver,tmo,err,cfg,mem⟩ z time) A5:=by
    rw [aV,if_pos rfl];exact hR
   exact(hD _).2 hend
 refine ab (fun h1=> ?_) (fun h1=> ?_)<;>(conv=>lhs;whnf)
 ·subst h1
  refine af htop ?_;conv=>lhs;whnf
  refine(hD _).2 ⟨data,⟨_,rfl,hd.sub hC.1⟩,fun v A1 hq=> ?_⟩;obtain⟨s1,b1⟩:A.Sub A1∧SlB (A1.minus A) v data:=hq;obtain⟨ao,ko,rfl⟩:=b1.1.form;have htop1:=aJ s1 htop;conv=>lhs;whnf
  repeat(first|refine af htop1 ?_|refine au hD rfl ?_
         conv=>lhs;whnf)
  refine(hD _).2 fun g A2 hN=> ?_
  have htop2:A2.rd t 0 1=some [.map (some m)]:=aJ hN.sub htop1;conv=>lhs;whnf
  repeat(first|refine af htop2 ?_|refine au hD rfl ?_
         conv=>lhs;whnf)
  have hN:A1.New A2 g #[.slice ao data.length ko,.int .i64 z,.int .i64 z,.int .i64 z,.int .i64 time,.int .i64 time,.int .i64 0,.int .i64 0,.int .i64 owner,.int .i64 0,.int .i64 0] 57:=hN;have hm2:=h.nmap.sub (A':=A2) fun o ho=>hN.sub _ _ (s1 _ _ ho)
  refine(hD _).2 ⟨_,hm2,gB gV path _,fun A3 hm3 ho3=> ?_⟩;obtain⟨B3,O3,hT3,hS3⟩:bf A B O t ⟨cH path (iT ⟨zxid,1,ses,ah,xid,dtime,path,data,owner,ver,cver,tmo,err,cfg,mem⟩ z time) T.nodes,T.aK⟩ A3:=xg h s1 hN rfl b1 hm3 ho3;conv=>lhs;whnf
  refine(hD _).2 ⟨(⟨⟨cH path (iT ⟨zxid,1,ses,ah,xid,dtime,path,data,owner,ver,cver,tmo,err,cfg,mem⟩ z time) T.nodes,T.aK⟩,B3,O3,t⟩,path,z,cver),⟨rfl,hT3⟩,fun v A4 hq=> ?_⟩;have hq:bf A3 B3 O3 t (cB ⟨cH path (iT ⟨zxid,1,ses,ah,xid,dtime,path,data,owner,ver,cver,tmo,err,cfg,mem⟩ z time) T.nodes,T.aK⟩ path z cver) A4:=hq;have hend:bf A B O t (aV T ⟨zxid,1,ses,ah,xid,dtime,path,data,owner,ver,cver,tmo,err,cfg,mem⟩ z time) A4:=hq.trans hS3;conv=>lhs;whnf
  exact(hD _).2 hend
 refine ab (fun h2=> ?_) (fun h2=> ?_)<;>(conv=>lhs;whnf)
 ·subst h2
  refine af htop ?_;conv=>lhs;whnf
  refine(hD _).2 ⟨_,h.nmap,gB gV path _,fun A1 hm1 ho1=> ?_⟩;have hR:=h.del (p:=path) ho1 hm1
  have hS1:Step A B O A1 B O:=⟨fun k o hk hO=>by rw [ho1 k fun e=>hO (e▸h.own.2.1)];exact hk,fun k hk=>(by
   by_cases e:k=m
   ·obtain⟨es,cl,h9,_⟩:=hm1
    rw [e,h9]at hk;cases hk
   ·rw [ho1 k e]at hk;exact hk),fun k hk=> .inl hk,aa.Sub.refl _,fun k o hk=> .inl hk⟩
  conv=>lhs;whnf
  refine(hD _).2 ⟨(⟨⟨eJ path T.nodes,T.aK⟩,B,O,t⟩,path,z,cver),⟨rfl,m,s,_,hR⟩,fun v A4 hq=> ?_⟩;have hq:bf A1 B O t (cB ⟨eJ path T.nodes,T.aK⟩ path z cver) A4:=hq;have hend:bf A B O t (aV T ⟨zxid,2,ses,ah,xid,dtime,path,data,owner,ver,cver,tmo,err,cfg,mem⟩ z time) A4:=hq.trans hS1;conv=>lhs;whnf
  exact(hD _).2 hend
 ·refine(hD _).2 ⟨(⟨T,B,O,t⟩,path,z,cver),⟨rfl,m,s,_,h⟩,fun v A4 hq=> ?_⟩
  have hq:bf A B O t (cB T path z cver) A4:=hq
  have hend:bf A B O t (aV T ⟨zxid,kind,ses,ah,xid,dtime,path,data,owner,ver,cver,tmo,err,cfg,mem⟩ z time) A4:=by
   rw [aV,if_neg h3,if_neg h1,if_neg h2];exact hq
  conv=>lhs;whnf
  exact(hD _).2 hend
end
end Go.Proofs.YtphigpccfbfnoaaGreatDoor
