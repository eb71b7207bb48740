/-
  Parts of the proof: DeB DeC CcA TrB TrC TrD TrG PbB SrA HpA GrA TrE TrF SgA SfA WkA TrI TrL
-/
import Derived.Test.YtmmlhdiejkknnaaGreatDoorG08
import Derived.Test.YtmmlhdiejkknnaaGreatDoorG09
import Derived.Test.YtmmlhdiejkknnaaGreatDoorG10
import Derived.Test.YtmmlhdiejkknnaaGreatDoorG06
import Derived.Shelf.Sort.Plain
import Derived.Shelf.Slices.In.SortNone
import Derived.Sort.KeysCollected
import Derived.Shelf.SlSortCmp.NoneTotal
import Derived.Lib.SlKeysI
set_option maxRecDepth 100000
set_option maxHeartbeats 0
namespace Go.Proofs.YtmmlhdiejkknnaaGreatDoor
open Go.Sx Go.RowKit
noncomputable section
open Classical
theorem zK:FOk Tryz.prog 117 dh:=by
 refine bG mixed fun d vs A hp=> ?_
 obtain⟨cs,rfl,hR,hA⟩:∃cs,vs= [dy cs]∧cQ A d cs∧fY A:=hp;obtain⟨⟨zxid,kind,ses,turn,xid,time,path,data,owner,ver,cver,tmo,err,cfg,mem⟩,parts⟩:=d;rw [cQ]at hR;dsimp only [c7.cells]at hR;obtain⟨vd,vm,vp,rows,rfl, -,⟨⟨a7,k7,rfl, -⟩, -⟩,⟨⟨a14,k14,rfl, -⟩, -⟩,⟨a15,k15,rfl, -⟩, -⟩:=hR;refine⟨C0,noL,60,nf,az _,?_⟩
 by_cases hk:kind=1∨kind=2∨kind=3∨kind=4∨kind=5∨kind=6∨kind=7∨kind=8∨kind=9
 ·rcases hk with rfl|rfl|rfl|rfl|rfl|rfl|rfl|rfl|rfl
  ·exact fitsK1 hA _ _ _ _ _ _ _ _ _ _ _ _ _ _ _ _ _ _ _ _ _
  ·exact fitsK2 hA _ _ _ _ _ _ _ _ _ _ _ _ _ _ _ _ _ _ _ _ _
  ·exact fitsK3 hA _ _ _ _ _ _ _ _ _ _ _ _ _ _ _ _ _ _ _ _ _
  ·exact fitsK4 hA _ _ _ _ _ _ _ _ _ _ _ _ _ _ _ _ _ _ _ _ _
  ·exact fitsK5 hA _ _ _ _ _ _ _ _ _ _ _ _ _ _ _ _ _ _ _ _ _
  ·exact fitsK6 hA _ _ _ _ _ _ _ _ _ _ _ _ _ _ _ _ _ _ _ _ _
  ·exact fitsK7 hA _ _ _ _ _ _ _ _ _ _ _ _ _ _ _ _ _ _ _ _ _
  ·exact fitsK8 hA _ _ _ _ _ _ _ _ _ _ _ _ _ _ _ _ _ _ _ _ _
  ·exact fitsK9 hA _ _ _ _ _ _ _ _ _ _ _ _ _ _ _ _ _ _ _ _ _
 ·have bad:Value.bool false= .bool (decide (bZ ⟨zxid,kind,ses,turn,xid,time,path,data,owner,ver,cver,tmo,err,cfg,mem⟩ parts.length)):=by
    rw [decide_eq_false fun h=>hk (by have:=h.1;dsimp only at this;omega)]
  intro blk os out tape D hD;conv=>lhs;whnf
  refine af (fun h1=> ?_) (fun h1=> ?_)<;>(conv=>lhs;whnf)
  ·exact(hD _).2 ⟨rfl,bad⟩
  refine af (fun h2=> ?_) (fun h2=> ?_)<;>(conv=>lhs;whnf)
  ·exact(hD _).2 ⟨rfl,bad⟩
  exact absurd (by omega) hk
def rp(last:Int)(p:aU):Prop:=
 p.h.zxid=0∧p.h.ses=0∧p.h.turn=0∧p.h.xid=0∧p.h.time=0∧bZ p.h p.parts.length∧p.h.kind≤last∧(last=2→p.h.kind=2)
def gZ(ds:List aU)(least most last:Int):Prop:=least≤ds.length∧(ds.length:Int)≤most∧∀p∈ds,rp last p
def Dj:aY:=⟨List aU×Int×Int×Int,fun g vs A=>∃v,vs= [v,.int .i64 g.2.1,.int .i64 g.2.2.1,.int .u8 g.2.2.2]∧om A v g.1∧fY A,fun g _ A v A'=>A'=A∧v= .bool (decide (gZ g.1 g.2.1 g.2.2.1 g.2.2.2))⟩
def Dk(A:aa)(ds:List aU)(last:Int):fj:= { γ:=Nat,G:=fun k=>k≤ds.length∧∀p∈ds.take k,rp last p,keepS:= [3,21,22],keepB:= [],sl:=fun k=> [(23,.v (.int .i64 k))],bl:=fun _=> [],ar:=fun _=>A,mu:=fun k=>ds.length-k }
theorem Di:FOk Tryz.prog 118 Dj:=by
 refine bG mixed fun⟨ds,least,most,last⟩ vs A hp=> ?_
 obtain⟨v,rfl,⟨rows,⟨ao,c,rfl,hc,hl,ha1,ha2,ha3⟩,hsz,hR⟩,hA⟩:∃v,vs= [v,.int .i64 least,.int .i64 most,.int .u8 last]∧om A v ds∧fY A:=hp
 have hC:aI Tryz.prog (bQ [aM 117 dh] noC):=aD (aA _) (fun x hx=>by
  simp only [List.mem_singleton]at hx
  subst hx;exact au zK)
 refine⟨_,ic Tryz.prog _ noL 60 [(118,0)],60,hC,bg mixed hC (az _) _ _,fun blk os out tape D hD=> ?_⟩;have bad:¬gZ ds least most last→Value.bool false= .bool (decide (gZ ds least most last)):=fun h=>by rw [decide_eq_false h]
 conv=>lhs;whnf
 refine af (fun h1=> ?_) (fun h1=> ?_)<;>(conv=>lhs;whnf)
 ·have h1:(ds.length:Int)<least:=h1
  exact(hD _).2 ⟨rfl,bad fun h=>by have:=h.1;omega⟩
 have h1:¬(ds.length:Int)<least:=h1;refine af (fun h2=> ?_) (fun h2=> ?_)<;>(conv=>lhs;whnf)
 ·have h2:most<(ds.length:Int):=h2
  exact(hD _).2 ⟨rfl,bad fun h=>by have:=h.2.1;omega⟩
 have h2:¬most<(ds.length:Int):=h2;refine(hD _).2 ⟨Dk A ds last,⟨(0:Nat),⟨Nat.zero_le _,by simp⟩,⟨rfl,trivial⟩,trivial,rfl⟩,fun(k:Nat) hG=>⟨⟨trivial,trivial⟩,trivial,?_⟩⟩;obtain⟨hk,hall⟩:k≤ds.length∧∀p∈ds.take k,rp last p:=hG;conv=>lhs;whnf
 refine af (fun hlt=> ?_) (fun hlt=> ?_)
 ·have hlt:(k:Int)<ds.length:=hlt
  have hkn:k<ds.length:=by omega
  obtain⟨g,o,rfl,hra⟩:=Sl.at_ hc ha1 ha2 ha3 (by omega);obtain⟨cs,hcs,hd⟩:=pC hra hR k hkn rfl;conv=>lhs;whnf
  refine cO ⟨by omega,hlt⟩ ?_;conv=>lhs;whnf
  have hbad:¬rp last ds[k]→¬gZ ds least most last:=fun h hp=>h (hp.2.2 _ (List.getElem_mem hkn))
  have hgood:rp last ds[k]→∀p∈ds.take (k+1),rp last p:=fun h p hp=>by
   rw [List.take_succ_eq_append_getElem hkn,List.mem_append]at hp;rcases hp with hp|hp
   ·exact hall p hp
   ·rw [List.mem_singleton]at hp
    subst hp;exact h
  generalize ds[k]=d at hd hbad hgood;obtain⟨⟨zxid,kind,ses,turn,xid,time,path,data,owner,ver,cver,tmo,err,cfg,mem⟩,parts⟩:=d;obtain⟨a7,l7,k7,a14,l14,k14,a15,l15,k15,rfl⟩:=hd.form;dsimp only [aU.h,c7.cells]at hcs hd;simp only [rp,aU.h,aU.parts]at hbad hgood;refine ai hcs ?_;conv=>lhs;whnf
  refine bw (fun h=> ?_) (fun h3=> ?_)<;>(conv=>lhs;whnf)
  ·simp at h;exact(hD _).2 ⟨rfl,bad (hbad fun hP=>by omega)⟩
  refine bw (fun h=> ?_) (fun h4=> ?_)<;>(conv=>lhs;whnf)
  ·simp at h;exact(hD _).2 ⟨rfl,bad (hbad fun hP=>by omega)⟩
  refine bw (fun h=> ?_) (fun h5=> ?_)<;>(conv=>lhs;whnf)
  ·simp at h;exact(hD _).2 ⟨rfl,bad (hbad fun hP=>by omega)⟩
  refine bw (fun h=> ?_) (fun h6=> ?_)<;>(conv=>lhs;whnf)
  ·simp at h;exact(hD _).2 ⟨rfl,bad (hbad fun hP=>by omega)⟩
  refine bw (fun h=> ?_) (fun h7=> ?_)<;>(conv=>lhs;whnf)
  ·simp at h;exact(hD _).2 ⟨rfl,bad (hbad fun hP=>by omega)⟩
  refine(hD _).2 ⟨_,⟨_,rfl,hd,hA⟩,fun v A' hq=> ?_⟩;obtain⟨rfl,rfl⟩:A'=A∧v= .bool (decide (bZ ⟨zxid,kind,ses,turn,xid,time,path,data,owner,ver,cver,tmo,err,cfg,mem⟩ parts.length)):=hq;simp at h3 h4 h5 h6 h7;conv=>lhs;whnf
  refine dS (fun h8=> ?_) (fun h8=> ?_)<;>(conv=>lhs;whnf)
  rotate_left
  ·exact(hD _).2 ⟨rfl,bad (hbad fun hP=>h8 hP.2.2.2.2.2.1)⟩
  refine af (fun h9=> ?_) (fun h9=> ?_)<;>(conv=>lhs;whnf)
  ·exact(hD _).2 ⟨rfl,bad (hbad fun hP=>by omega)⟩
  refine af (fun h10=> ?_) (fun h10=> ?_)<;>(conv=>lhs;whnf)
  ·refine bw (fun h=> ?_) (fun h=> ?_)<;>(conv=>lhs;whnf)
   ·simp at h
    exact(hD _).2 ⟨rfl,bad (hbad fun hP=>by omega)⟩
   ·simp at h
    exact(hD _).2 ⟨(k+1:Nat),⟨⟨by omega,hgood ⟨h3,h4,h5,h6,h7,h8,by omega,fun _=>by omega⟩⟩,⟨bf (by omega),trivial⟩,trivial,rfl⟩,by show ds.length-(k+1)<ds.length-k;omega,⟨rfl,rfl,rfl,trivial⟩,trivial⟩
  ·refine(hD _).2 ⟨(k+1:Nat),⟨⟨by omega,hgood ⟨h3,h4,h5,h6,h7,h8,by omega,fun h=>absurd h h10⟩⟩,⟨bf (by omega),trivial⟩,trivial,rfl⟩,by show ds.length-(k+1)<ds.length-k;omega,⟨rfl,rfl,rfl,trivial⟩,trivial⟩
 ·have hlt:¬(k:Int)<ds.length:=hlt
  conv=>lhs;whnf
  refine(hD _).2 ⟨rfl,?_⟩;have hkn:k=ds.length:=by omega
  rw [hkn,List.take_length]at hall;have h9:gZ ds least most last:=⟨by omega,by omega,hall⟩;show Value.bool true= .bool (decide (gZ ds least most last))
  rw [decide_eq_true h9]
def fi(d:aU):Prop:=
 1≤d.h.zxid∧d.h.zxid/4294967296≤1073741824∧0≤d.h.ses∧0≤d.h.turn∧0≤d.h.xid∧0≤d.h.time∧bZ d.h d.parts.length∧
 (d.h.kind=5→gZ d.parts 0 500 2)∧(d.h.kind=7→fL d.h.cfg d.h.mem=0∧d.h.cfg=d.h.zxid)∧(d.h.kind=8→gZ d.parts 1 16 3)
def CK:aY:=⟨aU,fun d vs A=>∃cs,vs= [dy cs]∧cQ A d cs∧fY A,fun d _ A v A'=>A'=A∧v= .bool (decide (fi d))⟩
theorem CJ:FOk Tryz.prog 56 CK:=by
 refine bG mixed fun d vs A hp=> ?_
 obtain⟨cs,rfl,hR,hA⟩:∃cs,vs= [dy cs]∧cQ A d cs∧fY A:=hp
 have hC:aI Tryz.prog (bQ [aM 117 dh,aM 118 Dj,aM 119 BG] noC):=aD (aA _) (fun x hx=>by
  simp only [List.mem_cons,List.not_mem_nil,or_false]at hx;rcases hx with rfl|rfl|rfl
  ·exact au zK
  ·exact au Di
  ·exact au ue)
 refine⟨_,noL,60,hC,az _,fun blk os out tape D hD=> ?_⟩;have hR0:=hR;obtain⟨⟨zxid,kind,ses,turn,xid,time,path,data,owner,ver,cver,tmo,err,cfg,mem⟩,parts⟩:=d;rw [cQ]at hR;dsimp only [c7.cells]at hR;obtain⟨vd,vm,vp,rows,rfl, -,⟨⟨a7,k7,rfl, -⟩, -⟩,hM,hS,hlen,hRows⟩:=hR;obtain⟨a14,k14,rfl⟩:=hM.1.form;obtain⟨a15,k15,rfl⟩:=hS.form;have bad:¬fi (.mk ⟨zxid,kind,ses,turn,xid,time,path,data,owner,ver,cver,tmo,err,cfg,mem⟩ parts)→Value.bool false= .bool (decide (fi (.mk ⟨zxid,kind,ses,turn,xid,time,path,data,owner,ver,cver,tmo,err,cfg,mem⟩ parts))):=fun h=>by rw [decide_eq_false h]
 have fin:∀ {b:Bool},(b=true↔fi (.mk ⟨zxid,kind,ses,turn,xid,time,path,data,owner,ver,cver,tmo,err,cfg,mem⟩ parts))→Value.bool b= .bool (decide (fi (.mk ⟨zxid,kind,ses,turn,xid,time,path,data,owner,ver,cver,tmo,err,cfg,mem⟩ parts))):=fun {b} h=>by
  congr 1;rw [Bool.eq_iff_iff,decide_eq_true_eq];exact h
 simp only [fi,aU.h,aU.parts]at bad fin;conv=>lhs;whnf
 refine af (fun h1=> ?_) (fun h1=> ?_)<;>(conv=>lhs;whnf)
 ·exact(hD _).2 ⟨rfl,bad fun h=>by omega⟩
 have hz:zxid.fdiv (2^min (Int.toNat 32) IntKind.i64.bits)=zxid/4294967296:=by
  show zxid.fdiv 4294967296=_
  rw [Int.fdiv_eq_ediv_of_nonneg _ (by decide)]
 refine af (fun h2=> ?_) (fun h2=> ?_)<;>(conv=>lhs;whnf)
 rotate_left
 ·exact(hD _).2 ⟨rfl,bad fun h=>by omega⟩
 refine dS (fun h3=> ?_) (fun h3=> ?_)<;>(conv=>lhs;whnf)
 rotate_left
 ·rw [hz]at h3
  exact(hD _).2 ⟨rfl,bad fun h=>by omega⟩
 rw [hz]at h3;refine af (fun h4=> ?_) (fun h4=> ?_)<;>(conv=>lhs;whnf)
 ·exact(hD _).2 ⟨rfl,bad fun h=>by omega⟩
 refine af (fun h5=> ?_) (fun h5=> ?_)<;>(conv=>lhs;whnf)
 ·exact(hD _).2 ⟨rfl,bad fun h=>by omega⟩
 refine af (fun h6=> ?_) (fun h6=> ?_)<;>(conv=>lhs;whnf)
 ·exact(hD _).2 ⟨rfl,bad fun h=>by omega⟩
 refine af (fun h7=> ?_) (fun h7=> ?_)<;>(conv=>lhs;whnf)
 ·exact(hD _).2 ⟨rfl,bad fun h=>by omega⟩
 refine(hD _).2 ⟨_,⟨_,rfl,hR0,hA⟩,fun v A' hq=> ?_⟩;obtain⟨rfl,rfl⟩:A'=A∧v= .bool (decide (bZ ⟨zxid,kind,ses,turn,xid,time,path,data,owner,ver,cver,tmo,err,cfg,mem⟩ parts.length)):=hq;conv=>lhs;whnf
 refine dS (fun h8=> ?_) (fun h8=> ?_)<;>(conv=>lhs;whnf)
 rotate_left
 ·exact(hD _).2 ⟨rfl,bad fun h=>h8 h.2.2.2.2.2.2.1⟩
 refine af (fun h9=> ?_) (fun h9=> ?_)<;>(conv=>lhs;whnf)
 ·refine(hD _).2 ⟨(parts,0,500,2),⟨_,rfl,⟨rows,hS,hlen,hRows⟩,hA⟩,fun v A'' hq=> ?_⟩
  obtain⟨rfl,rfl⟩:A''=A'∧v= .bool (decide (gZ parts 0 500 2)):=hq;conv=>lhs;whnf
  exact(hD _).2 ⟨rfl,fin (by
   rw [decide_eq_true_eq]
   exact⟨fun h=>⟨by omega,by omega,by omega,by omega,by omega,by omega,h8,fun _=>h,fun h=>by omega,fun h=>by omega⟩,fun h=>h.2.2.2.2.2.2.2.1 h9⟩)⟩
 refine af (fun h10=> ?_) (fun h10=> ?_)<;>(conv=>lhs;whnf)
 ·refine(hD _).2 ⟨(cfg,mem),⟨_,rfl,hM⟩,fun v A'' hq=> ?_⟩
  obtain⟨rfl,rfl⟩:A''=A'∧v= .int .i64 (fL cfg mem):=hq;conv=>lhs;whnf
  refine af (fun h11=> ?_) (fun h11=> ?_)<;>(conv=>lhs;whnf)
  ·exact(hD _).2 ⟨rfl,fin (by
    rw [cond_true,decide_eq_true_eq]
    exact⟨fun h=>⟨by omega,by omega,by omega,by omega,by omega,by omega,h8,fun h=>by omega,fun _=>⟨h11,h⟩,fun h=>by omega⟩,fun h=>(h.2.2.2.2.2.2.2.2.1 h10).2⟩)⟩
  ·exact(hD _).2 ⟨rfl,bad fun h=>h11 (h.2.2.2.2.2.2.2.2.1 h10).1⟩
 refine af (fun h12=> ?_) (fun h12=> ?_)<;>(conv=>lhs;whnf)
 ·refine(hD _).2 ⟨(parts,1,16,3),⟨_,rfl,⟨rows,hS,hlen,hRows⟩,hA⟩,fun v A'' hq=> ?_⟩
  obtain⟨rfl,rfl⟩:A''=A'∧v= .bool (decide (gZ parts 1 16 3)):=hq;conv=>lhs;whnf
  exact(hD _).2 ⟨rfl,fin (by
   rw [decide_eq_true_eq]
   exact⟨fun h=>⟨by omega,by omega,by omega,by omega,by omega,by omega,h8,fun h=>by omega,fun h=>by omega,fun _=>h⟩,fun h=>h.2.2.2.2.2.2.2.2.2 h12⟩)⟩
 ·exact(hD _).2 ⟨rfl,fin (iff_of_true rfl ⟨by omega,by omega,by omega,by omega,by omega,by omega,h8,fun h=>by omega,fun h=>by omega,fun h=>by omega⟩)⟩
def cX:aY:=⟨List UInt8,fun g vs A=>∃x,vs= [x]∧SlB A x g,fun g _ A v A'=>A.Sub A'∧SlB (A'.minus A) v g⟩
theorem Du{n:Nat}(h:0<0+n):Builtin.nextslicecap (0+n) 0=n:=by
 unfold Builtin.nextslicecap;rw [if_pos (by omega)];omega
theorem df:FOk Tryz.prog 76 cX:=by
 refine bG mixed fun bs vs A hp=> ?_
 simp only [cX]at hp;obtain⟨x,rfl,⟨ao,c,rfl,hc,hl,ha1,ha2,ha3⟩,hxl⟩:=hp;refine⟨noC,noL,60,aA _,az _,fun blk os out tape D hD=> ?_⟩;conv=>lhs;whnf
 refine bw (fun hb=> ?_) (fun hb=> ?_)<;>(conv=>lhs;whnf)
 ·have h0:ao=none:=by simpa using hb
  have h1:=ha1 h0;have h2:bs= []:=List.length_eq_zero_iff.1 (by omega);subst h2;exact(hD _).2 ⟨aa.Sub.refl _,Sl.nil _ _,by simp⟩
 ·have h0:∃a,ao=some a:=by cases ao with
    |none=>simp at hb
    |some a=>exact⟨a,rfl⟩
  obtain⟨⟨g,o,sp⟩,rfl⟩:=h0
  have hsp:sp=none∨bs.length=0:=by
   rcases Nat.eq_zero_or_pos c with h|h
   ·right;omega
   ·left;exact ha2 _ rfl h
  rcases sp with _|sp
  all_goals
   refine(hD _).2 fun g1 A1 hN=> ?_
   conv=>lhs;whnf
   refine(hD _).2 ⟨[],bs.map bv,rfl,?_,hl,?_,by omega,?_,rfl,fun h=>(by cases h),fun _ _ _ h1 h2=> ?_,fun v A2 hA=> ?_⟩
   ·first
    |(show(if bs.length=0 then some []else A1.rd g o (bs.length*1))=_
      by_cases h0:bs.length=0
      ·rw [if_pos h0,List.length_eq_zero_iff.1 h0];rfl
      ·rw [if_neg h0];exact bI hN.sub (ha3 (by omega) _ rfl))
    |(have h9:bs.length=0:=hsp.resolve_left (by simp)
      show(if bs.length=0 then some []else none)=_
      (rw [if_pos h9,List.length_eq_zero_iff.1 h9];rfl))
   ·intro v hv
    obtain⟨b,_,rfl⟩:=List.mem_map.1 hv;rfl
   ·intro h0
    rw [Du h0];show bs.length*1≤_
    omega
   ·exfalso
    have:bs.length=0:=by omega
    exact h2 (by rw [List.length_eq_zero_iff.1 this];rfl)
   ·obtain⟨k1,k2⟩:=BV hN.sub hA hl
    conv=>lhs;whnf
    exact(hD _).2 ⟨k1,k2,hxl⟩
def aN(A B:aa)(O:Nat→Prop)(t:Nat)(T':aF)(A':aa):Prop:=∃B' O',ba A' B' O' t T'∧Step A B O A' B' O'
def gR(z cv:Int)(n:aX):aX:=⟨n.data, { n.stat with cver:=cv,pzxid:=z }⟩
def bT(T:aF)(p:ByteArray)(z cv:Int):aF:=⟨dI (bj p) (gR z cv) T.nodes,T.seats⟩
structure TG where
 T:aF
 B:aa
 O:Nat→Prop
 t:Nat
def markS:aY:=⟨TG×ByteArray×Int×Int,fun g vs A=>vs= [.pointer (some ⟨g.1.t,0,none⟩),.string g.2.1,.int .i64 g.2.2.1,.int .i64 g.2.2.2]∧ba A g.1.B g.1.O g.1.t g.1.T,
 fun g _ A _ A'=>aN A g.1.B g.1.O g.1.t (bT g.1.T g.2.1 g.2.2.1 g.2.2.2) A'⟩
theorem parentC:aI Tryz.prog (bQ [aM 59 tE] noC):=aD (aA _) (fun x hx=>by
 simp only [List.mem_singleton]at hx
 subst hx;exact au sh)
theorem mark_ok:FOk Tryz.prog 120 markS:=by
 refine bG mixed fun⟨⟨T,B,O,t⟩,p,z,cv⟩ vs A hp=> ?_
 obtain⟨rfl,m,s,E,h⟩:vs= [.pointer (some ⟨t,0,none⟩),.string p,.int .i64 z,.int .i64 cv]∧ba A B O t T:=hp;refine⟨_,noL,60,parentC,az _,fun blk os out tape D hD=> ?_⟩;conv=>lhs;whnf
 have htop:A.rd t 0 1=some [.map (some m)]:=h.top.rd (o:=0) (n:=1) (by show 0+1≤2;omega);refine ai htop ?_;conv=>lhs;whnf
 refine(hD _).2 ⟨p,rfl,fun v A' hq=> ?_⟩;obtain⟨rfl,rfl⟩:A'=A∧v= .string (bj p):=hq;conv=>lhs;whnf
 repeat(first|refine ai htop ?_|refine aj hD rfl ?_
        conv=>lhs;whnf)
 refine cW (h.look (bj p)) ?_
 have stop:aG (bj p) E=none→aN A' B O t (bT T p z cv) A':=fun hp=>by
  refine⟨B,O,⟨m,s,E,?_⟩,Step.refl _ _ _⟩;have:bT T p z cv=T:=by rw [bT,nJ (by rw [h.get,hp];rfl)]
  rw [this];exact h
 cases hp:aG (bj p) E with
 |none=>
  conv=>lhs;whnf
  exact(hD _).2 (stop hp)
 |some x=>
  obtain⟨g,n⟩:=x;have hmem:=gV (en _) hp;obtain⟨w,hc,hs⟩:=h.cells _ hmem;conv=>lhs;whnf
  refine(hD _).2 ⟨hc.room (o:=7) (n:=1) (by show 7+1≤11;omega),fun A1 hP1=> ?_⟩;have hP1:A'.Put A1 g 7 [.int .i64 cv]:=hP1;have hc1:aE A1 g (w::({ n.stat with cver:=cv } :ec).cells):=hc.put hP1 (by show 7+1≤11;omega);conv=>lhs;whnf
  refine(hD _).2 ⟨hc1.room (o:=3) (n:=1) (by show 3+1≤11;omega),fun A2 hP2=> ?_⟩;have hP2:A1.Put A2 g 3 [.int .i64 z]:=hP2;have hc2:aE A2 g (w::({ n.stat with cver:=cv,pzxid:=z } :ec).cells):=hc1.put hP2 (by show 3+1≤11;omega);conv=>lhs;whnf
  have hOg:=h.own.2.2.2 _ hmem;have hother:∀k,k≠g→A2.blk k=A'.blk k:=fun k hk=>by rw [hP2.other k hk,hP1.other k hk]
  have hB:B.Sub A2:=fun k o hk=>by rw [hother k fun e=>by subst e;rw [h.off _ hOg]at hk;cases hk];exact h.sub k o hk
  have hd:∀k,A2.blk k=none→A'.blk k=none:=fun k hk=>(hP1.dom k).1 ((hP2.dom k).1 hk)
  have e:dI (bj p) (fun _=>gR z cv n) T.nodes=dI (bj p) (gR z cv) T.nodes:=tU (by rw [h.get,hp];rfl);have hR:=h.mod (n':=gR z cv n) hp (fun k _ hk=>hother k hk) ⟨w,hc2,hs⟩ (aa.Sub.refl _) hB h.off;rw [e]at hR;have hend:aN A' B O t (bT T p z cv) A2:=⟨B,O,⟨m,s,_,hR⟩,⟨fun k o hk hO=>by rw [hother k fun e=>hO (e▸hOg)];exact hk,hd,fun _ hk=> .inl hk,aa.Sub.refl _,fun _ _ hk=> .inl hk⟩⟩;exact(hD _).2 hend
def mJ(h:c7)(z time:Int)(n:aX):aX:=⟨h.data, { n.stat with mzxid:=z,mtime:=time,ver:=h.ver }⟩
def kZ(h:c7)(z time:Int):aX:=⟨h.data,⟨z,z,z,time,time,0,0,h.owner,0,0⟩⟩
def aK(T:aF)(h:c7)(z time:Int):aF:=
 if h.kind=3 then⟨dI h.path (mJ h z time) T.nodes,T.seats⟩
 else if h.kind=1 then bT ⟨bS h.path (kZ h z time) T.nodes,T.seats⟩ h.path z h.cver
 else if h.kind=2 then bT ⟨dQ h.path T.nodes,T.seats⟩ h.path z h.cver
 else bT T h.path z h.cver
def Aside(A C:aa)(O:Nat→Prop):Prop:=C.Sub A∧∀k o,C.blk k=some o→¬O k
theorem Aside.step{A B A' B' C:aa}{O O':Nat→Prop}(h:Aside A C O)(s:Step A B O A' B' O'):Aside A' C O':=
 ⟨s.stays h.1 h.2,fun k o hk hO=>by
   rcases s.own k hO with h1|h1
   ·exact h.2 k o hk h1
   ·rw [h.1 k o hk]at h1;cases h1⟩
def zU:aY:=⟨TG×aU×aa×Int×Int,fun g vs A=>∃cs,vs= [.pointer (some ⟨g.1.t,0,none⟩),dy cs,.int .i64 g.2.2.2.1,.int .i64 g.2.2.2.2]∧ba A g.1.B g.1.O g.1.t g.1.T∧cQ g.2.2.1 g.2.1 cs∧Aside A g.2.2.1 g.1.O,
 fun g _ A _ A'=>aN A g.1.B g.1.O g.1.t (aK g.1.T g.2.1.h g.2.2.2.1 g.2.2.2.2) A'⟩
theorem Cy{A B A1 A2:aa}{O:Nat→Prop}{t:Nat}{T:aF}{m s:Nat}{E:List (ByteArray×Nat×aX)}(h:cF A B O t T m s E){p:ByteArray}{g:Nat}{n:aX}{f:aX→aX}(hp:aG p E=some (g,n))
  (s1:A.Sub A1) (hother:∀k,k≠g→A2.blk k=A1.blk k) (hdom:∀k,A2.blk k=none↔A1.blk k=none) (hn:ma A2 (A1.minus A) g (f n)):aN A B O t ⟨dI p f T.nodes,T.seats⟩ A2:=by
 have hmem:=gV (en _) hp;have hOg:=h.own.2.2.2 _ hmem
 have hgA:∃o,A.blk g=some o:=by
  obtain⟨v,hc,_⟩:=h.cells _ hmem;exact hc.dom
 have hne:∀k o,(A1.minus A).blk k=some o→k≠g:=fun k o hk e=>by
  subst e;obtain⟨o',ho'⟩:=hgA;rw [eJ _ ho']at hk;cases hk
 have hBA:B.Sub A2:=fun k o hk=>by
  rw [hother k fun e=>by subst e;rw [h.off _ hOg]at hk;cases hk];exact s1 _ _ (h.sub k o hk)
 have hsub:(B.plus (A1.minus A)).Sub A2:=fun k o hk=>by
  rcases fC hk with hk|⟨_,hk⟩
  ·exact hBA k o hk
  ·rw [hother k (hne k o hk)];exact(cj hk).2
 have hoff:∀k,O k→(B.plus (A1.minus A)).blk k=none:=fun k hO=>by
  rw [kk,h.off k hO];obtain⟨o,ho⟩:=h.live k hO;exact eJ _ ho
 have hR:=h.mod (n':=f n) hp (A':=A2) (B':=B.plus (A1.minus A)) (fun k hO hk=>by
  rw [hother k hk];obtain⟨o,ho⟩:=h.live k hO
  rw [ho,s1 _ _ ho]) (by obtain⟨v,h1,h2⟩:=hn;exact⟨v,h1,h2.sub (xH (oK h.sub))⟩) (qe _ _) hsub hoff
 have e:dI p (fun _=>f n) T.nodes=dI p f T.nodes:=tU (by rw [h.get,hp];rfl);rw [e]at hR;refine⟨_,O,⟨m,s,_,hR⟩,⟨fun k o hk hO=> ?_,fun k hk=> ?_,fun k hk=> .inl hk,qe _ _,fun k o hk=> ?_⟩⟩
 ·rw [hother k fun e=>hO (e▸hOg)];exact s1 _ _ hk
 ·cases hA:A.blk k with
  |none=>rfl
  |some o=>have h1:=(hdom k).1 hk;rw [s1 _ _ hA]at h1;cases h1
 ·rcases fC hk with hk|⟨_,hk⟩
  ·exact .inl hk
  ·exact .inr (cj hk).1
theorem uM{A B A1 A2 A3:aa}{O:Nat→Prop}{t:Nat}{T:aF}{m s:Nat}{E:List (ByteArray×Nat×aX)}(h:cF A B O t T m s E){p:ByteArray}{g:Nat}{n:aX}{c:Array Value}{ty:TypeId}{v:Value}
  (s1:A.Sub A1) (hN:A1.New A2 g c ty) (hc:c.toList=v::n.stat.cells) (hv:SlB (A1.minus A) v n.data)
  (hm:bH A3 m (dV (.string p) (iV g) (gd iV (dX (·.1) E)))) (hother:∀k,k≠m→A3.blk k=A2.blk k):aN A B O t ⟨bS p n T.nodes,T.seats⟩ A3:=by
 have hgA:A.blk g=none:=by
  cases hA:A.blk g with
  |none=>rfl
  |some o=>have:=s1 _ _ hA;rw [hN.none_]at this;cases this
 have hm0:∃o,A.blk m=some o:=h.live m h.own.2.1
 have hmg:m≠g:=fun e=>by
  obtain⟨o,ho⟩:=hm0;rw [e,hgA]at ho;cases ho
 have ck:∀k o,A.blk k=some o→k≠m→A3.blk k=some o:=fun k o hk hne=>by
  rw [hother k hne];exact hN.sub k o (s1 k o hk)
 have hg3:A3.blk g=A2.blk g:=hother g (Ne.symm hmg)
 have hnew:∀k o,(A1.minus A).blk k=some o→k≠m∧k≠g:=fun k o hk=>by
  obtain⟨h1,h2⟩:=cj hk;refine⟨fun e=> ?_,fun e=> ?_⟩
  ·obtain⟨o',ho'⟩:=hm0
   rw [e,ho']at h1;cases h1
  ·rw [e,hN.none_]at h2;cases h2
 have hBm:∀k o,B.blk k=some o→k≠m:=fun k o hk e=>by
  subst e;rw [h.off _ h.own.2.1]at hk;cases hk
 have hsub:(B.plus (A1.minus A)).Sub A3:=fun k o hk=>by
  rcases fC hk with hk|⟨_,hk⟩
  ·exact ck k o (h.sub k o hk) (hBm k o hk)
  ·rw [hother k (hnew k o hk).1];exact hN.sub k o (cj hk).2
 have hoff:∀k,O k∨k=g→(B.plus (A1.minus A)).blk k=none:=fun k hk=>by
  cases hb:(B.plus (A1.minus A)).blk k with
  |none=>rfl
  |some o=>
   rcases fC hb with hb|⟨_,hb⟩
   ·rcases hk with hk|rfl
    ·rw [h.off k hk]at hb;cases hb
    ·have:=h.sub k o hb;rw [hgA]at this;cases this
   ·rcases hk with hk|rfl
    ·obtain⟨o',ho'⟩:=h.live k hk
     rw [eJ _ ho']at hb;cases hb
    ·exact absurd rfl (hnew k o hb).2
 have hR:=h.put (p:=p) (g:=g) (n:=n) (A':=A3) (B':=B.plus (A1.minus A)) hgA (fun k hO hk=>by
  obtain⟨o,ho⟩:=h.live k hO
  rw [ho,ck k o ho hk]) hm ⟨v,⟨c,ty,(0,0),by rw [hg3];exact hN.at_,.inl rfl,hc⟩,hv.sub (xH (oK h.sub))⟩ (qe _ _) hsub hoff
 refine⟨_,_,⟨m,s,_,hR⟩,⟨fun k o hk hO=>ck k o hk fun e=>hO (e▸h.own.2.1),fun k hk=> ?_,fun k hk=> ?_,qe _ _,fun k o hk=> ?_⟩⟩
 ·cases hA:A.blk k with
  |none=>rfl
  |some o=>
   by_cases e:k=m
   ·obtain⟨es,cl,h1,_⟩:=hm
    rw [e,h1]at hk;cases hk
   ·rw [ck k o hA e]at hk;cases hk
 ·rcases hk with hk|rfl
  ·exact .inl hk
  ·exact .inr hgA
 ·rcases fC hk with hk|⟨_,hk⟩
  ·exact .inl hk
  ·exact .inr (cj hk).1
theorem aN.trans{A B A1 A2 B1:aa}{O O1:Nat→Prop}{t:Nat}{T:aF}(h:Step A B O A1 B1 O1)(k:aN A1 B1 O1 t T A2):aN A B O t T A2:=by
 obtain⟨B2,O2,h1,h2⟩:=k;exact⟨B2,O2,h1,h.trans h2⟩
def EX:TypeId→Bool:=fun t=>Nat.beq t 98
theorem BW:FOk Tryz.prog 57 zU:=by
 refine oO mixed EX fun⟨⟨T,B,O,t⟩,d,C,z,time⟩ vs A hp=> ?_
 obtain⟨cs,rfl,hT,hR,hC⟩:∃cs,vs= [.pointer (some ⟨t,0,none⟩),dy cs,.int .i64 z,.int .i64 time]∧ba A B O t T∧cQ C d cs∧Aside A C O:=hp
 have hCt:aI Tryz.prog (bQ [aM 120 markS,aM 76 cX] noC):=aD (aA _) (fun x hx=>by
  simp only [List.mem_cons,List.not_mem_nil,or_false]at hx;rcases hx with rfl|rfl
  ·exact au mark_ok
  ·exact au df)
 obtain⟨⟨zxid,kind,ses,turn,xid,dtime,path,data,owner,ver,cver,tmo,err,cfg,mem⟩,parts⟩:=d;rw [cQ]at hR;dsimp only [c7.cells]at hR;obtain⟨vd,vm,vp,rows,rfl, -,hd,⟨⟨a14,k14,rfl, -⟩, -⟩,⟨a15,k15,rfl, -⟩, -⟩:=hR;obtain⟨a7,k7,rfl⟩:=hd.1.form;refine⟨_,noL,60,hCt,az _,fun blk os out tape D hD=> ?_⟩;obtain⟨m,s,E,h⟩:=hT;have htop:A.rd t 0 1=some [.map (some m)]:=h.top.rd (o:=0) (n:=1) (by show 0+1≤2;omega);conv=>lhs;whnf
 refine af (fun h3=> ?_) (fun h3=> ?_)<;>(conv=>lhs;whnf)
 ·subst h3
  refine ai htop ?_;conv=>lhs;whnf
  refine cW (h.look path) ?_
  cases hp:aG path E with
  |none=>
   conv=>lhs;whnf
   have hend:aN A B O t (aK T ⟨zxid,3,ses,turn,xid,dtime,path,data,owner,ver,cver,tmo,err,cfg,mem⟩ z time) A:=by
    refine⟨B,O,⟨m,s,E,?_⟩,Step.refl _ _ _⟩;rw [aK,if_pos rfl,nJ (by rw [h.get,hp];rfl)];exact h
   exact(hD _).2 hend
  |some x=>
   obtain⟨g,n⟩:=x;have hmem:=gV (en _) hp;obtain⟨w,hc,hs⟩:=h.cells _ hmem;have hc:aE A g (w::n.stat.cells):=hc;conv=>lhs;whnf
   refine(hD _).2 ⟨data,⟨_,rfl,hd.sub hC.1⟩,fun v A1 hq=> ?_⟩;obtain⟨s1,b1⟩:A.Sub A1∧SlB (A1.minus A) v data:=hq;obtain⟨ao,ko,rfl⟩:=b1.1.form;have hc0:=hc.sub (s1 g);conv=>lhs;whnf
   refine(hD _).2 ⟨hc0.room (o:=0) (n:=1) (by show 0+1≤11;omega),fun A2 hP2=> ?_⟩;have hP2:A1.Put A2 g 0 [.slice ao data.length ko]:=hP2;have hc2:aE A2 g (.slice ao data.length ko::n.stat.cells):=hc0.put hP2 (by show 0+1≤11;omega);conv=>lhs;whnf
   refine(hD _).2 ⟨hc2.room (o:=2) (n:=1) (by show 2+1≤11;omega),fun A3 hP3=> ?_⟩;have hP3:A2.Put A3 g 2 [.int .i64 z]:=hP3;have hc3:aE A3 g (.slice ao data.length ko::({ n.stat with mzxid:=z } :ec).cells):=hc2.put hP3 (by show 2+1≤11;omega);conv=>lhs;whnf
   repeat(refine aj hD rfl ?_;conv=>lhs;whnf)
   refine(hD _).2 ⟨hc3.room (o:=5) (n:=1) (by show 5+1≤11;omega),fun A4 hP4=> ?_⟩;have hP4:A3.Put A4 g 5 [.int .i64 time]:=hP4;have hc4:aE A4 g (.slice ao data.length ko::({ n.stat with mzxid:=z,mtime:=time } :ec).cells):=hc3.put hP4 (by show 5+1≤11;omega);conv=>lhs;whnf
   repeat(refine aj hD rfl ?_;conv=>lhs;whnf)
   refine(hD _).2 ⟨hc4.room (o:=6) (n:=1) (by show 6+1≤11;omega),fun A5 hP5=> ?_⟩;have hP5:A4.Put A5 g 6 [.int .i64 ver]:=hP5;have hc5:aE A5 g (.slice ao data.length ko::({ n.stat with mzxid:=z,mtime:=time,ver:=ver } :ec).cells):=hc4.put hP5 (by show 6+1≤11;omega);conv=>lhs;whnf
   have hother:∀k,k≠g→A5.blk k=A1.blk k:=fun k hk=>by rw [hP5.other k hk,hP4.other k hk,hP3.other k hk,hP2.other k hk]
   have hdom:∀k,A5.blk k=none↔A1.blk k=none:=fun k=>(hP5.dom k).trans ((hP4.dom k).trans ((hP3.dom k).trans (hP2.dom k)))
   have hR:aN A B O t ⟨dI path (mJ ⟨zxid,3,ses,turn,xid,dtime,path,data,owner,ver,cver,tmo,err,cfg,mem⟩ z time) T.nodes,T.seats⟩ A5:=
    Cy h hp s1 hother hdom ⟨_,hc5,b1⟩
   have hend:aN A B O t (aK T ⟨zxid,3,ses,turn,xid,dtime,path,data,owner,ver,cver,tmo,err,cfg,mem⟩ z time) A5:=by
    rw [aK,if_pos rfl];exact hR
   exact(hD _).2 hend
 refine af (fun h1=> ?_) (fun h1=> ?_)<;>(conv=>lhs;whnf)
 ·subst h1
  refine ai htop ?_;conv=>lhs;whnf
  refine(hD _).2 ⟨data,⟨_,rfl,hd.sub hC.1⟩,fun v A1 hq=> ?_⟩;obtain⟨s1,b1⟩:A.Sub A1∧SlB (A1.minus A) v data:=hq;obtain⟨ao,ko,rfl⟩:=b1.1.form;have htop1:=bI s1 htop;conv=>lhs;whnf
  repeat(first|refine ai htop1 ?_|refine aj hD rfl ?_
         conv=>lhs;whnf)
  refine(hD _).2 fun g A2 hN=> ?_
  have htop2:A2.rd t 0 1=some [.map (some m)]:=bI hN.sub htop1;conv=>lhs;whnf
  repeat(first|refine ai htop2 ?_|refine aj hD rfl ?_
         conv=>lhs;whnf)
  have hN:A1.New A2 g #[.slice ao data.length ko,.int .i64 z,.int .i64 z,.int .i64 z,.int .i64 time,.int .i64 time,.int .i64 0,.int .i64 0,.int .i64 owner,.int .i64 0,.int .i64 0] 98:=hN;have hm2:=h.nmap.sub (A':=A2) fun o ho=>hN.sub _ _ (s1 _ _ ho)
  refine(hD _).2 ⟨_,hm2,fy iV path _,fun A3 hm3 ho3=> ?_⟩;obtain⟨B3,O3,hT3,hS3⟩:aN A B O t ⟨bS path (kZ ⟨zxid,1,ses,turn,xid,dtime,path,data,owner,ver,cver,tmo,err,cfg,mem⟩ z time) T.nodes,T.seats⟩ A3:=uM h s1 hN rfl b1 hm3 ho3;conv=>lhs;whnf
  refine(hD _).2 ⟨(⟨⟨bS path (kZ ⟨zxid,1,ses,turn,xid,dtime,path,data,owner,ver,cver,tmo,err,cfg,mem⟩ z time) T.nodes,T.seats⟩,B3,O3,t⟩,path,z,cver),⟨rfl,hT3⟩,fun v A4 hq=> ?_⟩;have hq:aN A3 B3 O3 t (bT ⟨bS path (kZ ⟨zxid,1,ses,turn,xid,dtime,path,data,owner,ver,cver,tmo,err,cfg,mem⟩ z time) T.nodes,T.seats⟩ path z cver) A4:=hq;have hend:aN A B O t (aK T ⟨zxid,1,ses,turn,xid,dtime,path,data,owner,ver,cver,tmo,err,cfg,mem⟩ z time) A4:=hq.trans hS3;conv=>lhs;whnf
  exact(hD _).2 hend
 refine af (fun h2=> ?_) (fun h2=> ?_)<;>(conv=>lhs;whnf)
 ·subst h2
  refine ai htop ?_;conv=>lhs;whnf
  refine(hD _).2 ⟨_,h.nmap,fy iV path _,fun A1 hm1 ho1=> ?_⟩;have hR:=h.del (p:=path) ho1 hm1
  have hS1:Step A B O A1 B O:=⟨fun k o hk hO=>by rw [ho1 k fun e=>hO (e▸h.own.2.1)];exact hk,fun k hk=>(by
   by_cases e:k=m
   ·obtain⟨es,cl,h9,_⟩:=hm1
    rw [e,h9]at hk;cases hk
   ·rw [ho1 k e]at hk;exact hk),fun k hk=> .inl hk,aa.Sub.refl _,fun k o hk=> .inl hk⟩
  conv=>lhs;whnf
  refine(hD _).2 ⟨(⟨⟨dQ path T.nodes,T.seats⟩,B,O,t⟩,path,z,cver),⟨rfl,m,s,_,hR⟩,fun v A4 hq=> ?_⟩;have hq:aN A1 B O t (bT ⟨dQ path T.nodes,T.seats⟩ path z cver) A4:=hq;have hend:aN A B O t (aK T ⟨zxid,2,ses,turn,xid,dtime,path,data,owner,ver,cver,tmo,err,cfg,mem⟩ z time) A4:=hq.trans hS1;conv=>lhs;whnf
  exact(hD _).2 hend
 ·refine(hD _).2 ⟨(⟨T,B,O,t⟩,path,z,cver),⟨rfl,m,s,_,h⟩,fun v A4 hq=> ?_⟩
  have hq:aN A B O t (bT T path z cver) A4:=hq
  have hend:aN A B O t (aK T ⟨zxid,kind,ses,turn,xid,dtime,path,data,owner,ver,cver,tmo,err,cfg,mem⟩ z time) A4:=by
   rw [aK,if_neg h3,if_neg h1,if_neg h2];exact hq
  conv=>lhs;whnf
  exact(hD _).2 hend
def bE(T:aF)(ps:List aU)(z time:Int):aF:=ps.foldl (fun T p=>aK T p.h z time) T
def aR(T:aF)(ses turn:Int):aF:=match aG ses T.seats with
 |some s=>⟨T.nodes,bS ses ⟨s.ses,s.tmo,max s.turn turn⟩ T.seats⟩
 |none=>T
def cC(T:aF)(d:aU):aF:=
 if d.h.kind=1∨d.h.kind=2∨d.h.kind=3 then aK T d.h d.h.zxid d.h.time
 else if d.h.kind=4 then⟨T.nodes,bS d.h.zxid ⟨d.h.zxid,d.h.tmo,d.h.turn⟩ T.seats⟩
 else if d.h.kind=5 then bE ⟨T.nodes,dQ d.h.owner T.seats⟩ d.parts d.h.zxid d.h.time
 else if d.h.kind=8 then bE T d.parts d.h.zxid d.h.time
 else T
def aC(T:aF)(d:aU):aF:=if fi d then aR (cC T d) d.h.ses d.h.turn else T
def ET:aY:=⟨TG×aU×aa,fun g vs A=>∃cs,vs= [.pointer (some ⟨g.1.t,0,none⟩),dy cs]∧ba A g.1.B g.1.O g.1.t g.1.T∧cQ g.2.2 g.2.1 cs∧fY g.2.2∧Aside A g.2.2 g.1.O,
 fun g _ A _ A'=>aN A g.1.B g.1.O g.1.t (aC g.1.T g.2.1) A'⟩
theorem step_map{A B A':aa}{O:Nat→Prop}{m:Nat}{l:List (Value×Value)}(hO:O m)(ho:∀k,k≠m→A'.blk k=A.blk k)(hm:bH A' m l):Step A B O A' B O:=
 ⟨fun k o hk hn=>by rw [ho k fun e=>hn (e▸hO)];exact hk,fun k hk=>(by
   by_cases e:k=m
   ·obtain⟨es,cl,h9,_⟩:=hm
    rw [e,h9]at hk;cases hk
   ·rw [ho k e]at hk;exact hk),fun k hk=> .inl hk,aa.Sub.refl _,fun k o hk=> .inl hk⟩
structure AG where
 k:Nat
 A:aa
 B:aa
 O:Nat→Prop
 T:aF
def wL(A B:aa)(O:Nat→Prop)(t:Nat)(T0:aF)(parts:List aU)(z time:Int):fj:= { γ:=AG,G:=fun g=>g.k≤parts.length∧ba g.A g.B g.O t g.T∧Step A B O g.A g.B g.O∧g.T=bE T0 (parts.take g.k) z time,keepS:= [0,3,55,56],keepB:= [0],sl:=fun g=> [(57,.v (.int .i64 g.k))],bl:=fun _=> [],ar:=fun g=>g.A,mu:=fun g=>parts.length-g.k }
theorem ES:FOk Tryz.prog 10 ET:=by
 refine bG mixed fun⟨⟨T,B,O,t⟩,d,C⟩ vs A hp=> ?_
 obtain⟨cs,rfl,hT,hR,hH,hC⟩:∃cs,vs= [.pointer (some ⟨t,0,none⟩),dy cs]∧ba A B O t T∧cQ C d cs∧fY C∧Aside A C O:=hp
 have hCt:aI Tryz.prog (bQ [aM 57 zU,aM 56 CK] noC):=aD (aA _) (fun x hx=>by
  simp only [List.mem_cons,List.not_mem_nil,or_false]at hx;rcases hx with rfl|rfl
  ·exact au BW
  ·exact au CJ)
 obtain⟨⟨zxid,kind,ses,turn,xid,dtime,path,data,owner,ver,cver,tmo,err,cfg,mem⟩,parts⟩:=d;have hR0:=hR;rw [cQ]at hR;dsimp only [c7.cells]at hR;obtain⟨vd,vm,vp,rows,rfl, -,hd,hM,hS,hlen,hRows⟩:=hR;obtain⟨a7,k7,rfl⟩:=hd.1.form;obtain⟨a14,k14,rfl⟩:=hM.1.form;obtain⟨a15,k15,rfl⟩:=hS.form;refine⟨_,ic Tryz.prog _ noL 60 [(10,5)],60,hCt,bg mixed hCt (az _) _ _,fun blk os out tape D hD=> ?_⟩;obtain⟨m,s,E,h⟩:=hT;have htop:A.rd t 0 1=some [.map (some m)]:=h.top.rd (o:=0) (n:=1) (by show 0+1≤2;omega);have htop1:A.rd t 1 1=some [.map (some s)]:=h.top.rd (o:=1) (n:=1) (by show 1+1≤2;omega);conv=>lhs;whnf
 refine ai htop ?_;conv=>lhs;whnf
 refine(hD _).2 ⟨_,⟨_,rfl,cQ.sub hC.1 _ _ hR0,hH.sub hC.1⟩,fun v A' hq=> ?_⟩;obtain⟨rfl,rfl⟩:A'=A∧v= .bool (decide (fi (.mk ⟨zxid,kind,ses,turn,xid,dtime,path,data,owner,ver,cver,tmo,err,cfg,mem⟩ parts))):=hq;conv=>lhs;whnf
 refine dS (fun hr=> ?_) (fun hr=> ?_)<;>(conv=>lhs;whnf)
 rotate_left
 ·have hend:aN A' B O t (aC T (.mk ⟨zxid,kind,ses,turn,xid,dtime,path,data,owner,ver,cver,tmo,err,cfg,mem⟩ parts)) A':=by
    rw [aC,if_neg hr];exact⟨B,O,⟨m,s,E,h⟩,Step.refl _ _ _⟩
  exact(hD _).2 hend
 by_cases h123:kind=1∨kind=2∨kind=3
 ·rcases h123 with rfl|rfl|rfl
  ·conv=>lhs;whnf
   refine(hD _).2 ⟨(⟨T,B,O,t⟩,.mk ⟨zxid,1,ses,turn,xid,dtime,path,data,owner,ver,cver,tmo,err,cfg,mem⟩ parts,C,zxid,dtime),⟨_,rfl,⟨m,s,E,h⟩,hR0,hC⟩,fun v A1 hq=> ?_⟩;have hmid:aN A' B O t (aK T ⟨zxid,1,ses,turn,xid,dtime,path,data,owner,ver,cver,tmo,err,cfg,mem⟩ zxid dtime) A1:=hq;obtain⟨T1,hTo⟩:∃T1,T1=cC T (.mk ⟨zxid,1,ses,turn,xid,dtime,path,data,owner,ver,cver,tmo,err,cfg,mem⟩ parts):=⟨_,rfl⟩;have e:aK T ⟨zxid,1,ses,turn,xid,dtime,path,data,owner,ver,cver,tmo,err,cfg,mem⟩ zxid dtime=T1:=by rw [hTo,cC,if_pos (by simp [aU.h])];rfl
   rw [e]at hmid;conv=>lhs;whnf
   obtain⟨B1,O1,⟨m1,s1,E1,hT1⟩,hS1⟩:=hmid;have htop9:A1.rd t 1 1=some [.map (some s1)]:=hT1.top.rd (o:=1) (n:=1) (by show 1+1≤2;omega);refine ai htop9 ?_;conv=>lhs;whnf
   refine cW (bL hT1.smap ses) ?_
   cases hk:aG ses T1.seats with
   |none=>
    have hlk:A1.look s1 (.int .i64 ses)=some none:=by rw [bL hT1.smap,hk];rfl
    conv=>lhs;whnf
    have hend:aN A' B O t (aC T (.mk ⟨zxid,1,ses,turn,xid,dtime,path,data,owner,ver,cver,tmo,err,cfg,mem⟩ parts)) A1:=by
     rw [aC,if_pos hr,←hTo];show aN A' B O t (aR T1 ses turn) A1
     rw [aR,hk];exact⟨B1,O1,⟨m1,s1,E1,hT1⟩,hS1⟩
    repeat(first|refine ai htop9 ?_|refine cW hlk ?_|refine aj hD rfl ?_
           conv=>lhs;whnf)
    exact(hD _).2 hend
   |some st=>
    obtain⟨sses,stmo,sturn⟩:=st;have hlk:A1.look s1 (.int .i64 ses)=some (some (.agg #[.int .i64 sses,.int .i64 stmo,.int .i64 sturn])):=by rw [bL hT1.smap,hk];rfl
    conv=>lhs;whnf
    repeat(first|refine ai htop9 ?_|refine cW hlk ?_|refine aj hD rfl ?_
           conv=>lhs;whnf)
    refine(hD _).2 ⟨_,hT1.smap,cN eh ses _,fun A2 hm2 ho2=> ?_⟩
    have hmx:(bif true then bif decide (sturn<turn)then turn else sturn else bif decide (turn<sturn)then turn else sturn)=max sturn turn:=by
     by_cases h9:sturn<turn
     ·simp only [h9,decide_true,cond_true];omega
     ·simp only [h9,decide_false,cond_true,cond_false];omega
    have hm3:bH A2 s1 (dV (.int .i64 ses) (eh ⟨sses,stmo,max sturn turn⟩) (iG eh T1.seats)):=by
     rw [←hmx];exact hm2
    rw [eD]at hm3;have hR2:=hT1.sit ho2 hm3 (dC hT1.skeys);have hS2:Step A1 B1 O1 A2 B1 O1:=step_map (hT1.own.2.2.1) ho2 hm3
    have hend:aN A' B O t (aC T (.mk ⟨zxid,1,ses,turn,xid,dtime,path,data,owner,ver,cver,tmo,err,cfg,mem⟩ parts)) A2:=by
     rw [aC,if_pos hr,←hTo];show aN A' B O t (aR T1 ses turn) A2
     rw [aR,hk];exact⟨B1,O1,⟨m1,s1,E1,hR2⟩,hS1.trans hS2⟩
    conv=>lhs;whnf
    exact(hD _).2 hend
  ·conv=>lhs;whnf
   refine(hD _).2 ⟨(⟨T,B,O,t⟩,.mk ⟨zxid,2,ses,turn,xid,dtime,path,data,owner,ver,cver,tmo,err,cfg,mem⟩ parts,C,zxid,dtime),⟨_,rfl,⟨m,s,E,h⟩,hR0,hC⟩,fun v A1 hq=> ?_⟩;have hmid:aN A' B O t (aK T ⟨zxid,2,ses,turn,xid,dtime,path,data,owner,ver,cver,tmo,err,cfg,mem⟩ zxid dtime) A1:=hq;obtain⟨T1,hTo⟩:∃T1,T1=cC T (.mk ⟨zxid,2,ses,turn,xid,dtime,path,data,owner,ver,cver,tmo,err,cfg,mem⟩ parts):=⟨_,rfl⟩;have e:aK T ⟨zxid,2,ses,turn,xid,dtime,path,data,owner,ver,cver,tmo,err,cfg,mem⟩ zxid dtime=T1:=by rw [hTo,cC,if_pos (by simp [aU.h])];rfl
   rw [e]at hmid;conv=>lhs;whnf
   obtain⟨B1,O1,⟨m1,s1,E1,hT1⟩,hS1⟩:=hmid;have htop9:A1.rd t 1 1=some [.map (some s1)]:=hT1.top.rd (o:=1) (n:=1) (by show 1+1≤2;omega);refine ai htop9 ?_;conv=>lhs;whnf
   refine cW (bL hT1.smap ses) ?_
   cases hk:aG ses T1.seats with
   |none=>
    have hlk:A1.look s1 (.int .i64 ses)=some none:=by rw [bL hT1.smap,hk];rfl
    conv=>lhs;whnf
    have hend:aN A' B O t (aC T (.mk ⟨zxid,2,ses,turn,xid,dtime,path,data,owner,ver,cver,tmo,err,cfg,mem⟩ parts)) A1:=by
     rw [aC,if_pos hr,←hTo];show aN A' B O t (aR T1 ses turn) A1
     rw [aR,hk];exact⟨B1,O1,⟨m1,s1,E1,hT1⟩,hS1⟩
    repeat(first|refine ai htop9 ?_|refine cW hlk ?_|refine aj hD rfl ?_
           conv=>lhs;whnf)
    exact(hD _).2 hend
   |some st=>
    obtain⟨sses,stmo,sturn⟩:=st;have hlk:A1.look s1 (.int .i64 ses)=some (some (.agg #[.int .i64 sses,.int .i64 stmo,.int .i64 sturn])):=by rw [bL hT1.smap,hk];rfl
    conv=>lhs;whnf
    repeat(first|refine ai htop9 ?_|refine cW hlk ?_|refine aj hD rfl ?_
           conv=>lhs;whnf)
    refine(hD _).2 ⟨_,hT1.smap,cN eh ses _,fun A2 hm2 ho2=> ?_⟩
    have hmx:(bif true then bif decide (sturn<turn)then turn else sturn else bif decide (turn<sturn)then turn else sturn)=max sturn turn:=by
     by_cases h9:sturn<turn
     ·simp only [h9,decide_true,cond_true];omega
     ·simp only [h9,decide_false,cond_true,cond_false];omega
    have hm3:bH A2 s1 (dV (.int .i64 ses) (eh ⟨sses,stmo,max sturn turn⟩) (iG eh T1.seats)):=by
     rw [←hmx];exact hm2
    rw [eD]at hm3;have hR2:=hT1.sit ho2 hm3 (dC hT1.skeys);have hS2:Step A1 B1 O1 A2 B1 O1:=step_map (hT1.own.2.2.1) ho2 hm3
    have hend:aN A' B O t (aC T (.mk ⟨zxid,2,ses,turn,xid,dtime,path,data,owner,ver,cver,tmo,err,cfg,mem⟩ parts)) A2:=by
     rw [aC,if_pos hr,←hTo];show aN A' B O t (aR T1 ses turn) A2
     rw [aR,hk];exact⟨B1,O1,⟨m1,s1,E1,hR2⟩,hS1.trans hS2⟩
    conv=>lhs;whnf
    exact(hD _).2 hend
  ·conv=>lhs;whnf
   refine(hD _).2 ⟨(⟨T,B,O,t⟩,.mk ⟨zxid,3,ses,turn,xid,dtime,path,data,owner,ver,cver,tmo,err,cfg,mem⟩ parts,C,zxid,dtime),⟨_,rfl,⟨m,s,E,h⟩,hR0,hC⟩,fun v A1 hq=> ?_⟩;have hmid:aN A' B O t (aK T ⟨zxid,3,ses,turn,xid,dtime,path,data,owner,ver,cver,tmo,err,cfg,mem⟩ zxid dtime) A1:=hq;obtain⟨T1,hTo⟩:∃T1,T1=cC T (.mk ⟨zxid,3,ses,turn,xid,dtime,path,data,owner,ver,cver,tmo,err,cfg,mem⟩ parts):=⟨_,rfl⟩;have e:aK T ⟨zxid,3,ses,turn,xid,dtime,path,data,owner,ver,cver,tmo,err,cfg,mem⟩ zxid dtime=T1:=by rw [hTo,cC,if_pos (by simp [aU.h])];rfl
   rw [e]at hmid;conv=>lhs;whnf
   obtain⟨B1,O1,⟨m1,s1,E1,hT1⟩,hS1⟩:=hmid;have htop9:A1.rd t 1 1=some [.map (some s1)]:=hT1.top.rd (o:=1) (n:=1) (by show 1+1≤2;omega);refine ai htop9 ?_;conv=>lhs;whnf
   refine cW (bL hT1.smap ses) ?_
   cases hk:aG ses T1.seats with
   |none=>
    have hlk:A1.look s1 (.int .i64 ses)=some none:=by rw [bL hT1.smap,hk];rfl
    conv=>lhs;whnf
    have hend:aN A' B O t (aC T (.mk ⟨zxid,3,ses,turn,xid,dtime,path,data,owner,ver,cver,tmo,err,cfg,mem⟩ parts)) A1:=by
     rw [aC,if_pos hr,←hTo];show aN A' B O t (aR T1 ses turn) A1
     rw [aR,hk];exact⟨B1,O1,⟨m1,s1,E1,hT1⟩,hS1⟩
    repeat(first|refine ai htop9 ?_|refine cW hlk ?_|refine aj hD rfl ?_
           conv=>lhs;whnf)
    exact(hD _).2 hend
   |some st=>
    obtain⟨sses,stmo,sturn⟩:=st;have hlk:A1.look s1 (.int .i64 ses)=some (some (.agg #[.int .i64 sses,.int .i64 stmo,.int .i64 sturn])):=by rw [bL hT1.smap,hk];rfl
    conv=>lhs;whnf
    repeat(first|refine ai htop9 ?_|refine cW hlk ?_|refine aj hD rfl ?_
           conv=>lhs;whnf)
    refine(hD _).2 ⟨_,hT1.smap,cN eh ses _,fun A2 hm2 ho2=> ?_⟩
    have hmx:(bif true then bif decide (sturn<turn)then turn else sturn else bif decide (turn<sturn)then turn else sturn)=max sturn turn:=by
     by_cases h9:sturn<turn
     ·simp only [h9,decide_true,cond_true];omega
     ·simp only [h9,decide_false,cond_true,cond_false];omega
    have hm3:bH A2 s1 (dV (.int .i64 ses) (eh ⟨sses,stmo,max sturn turn⟩) (iG eh T1.seats)):=by
     rw [←hmx];exact hm2
    rw [eD]at hm3;have hR2:=hT1.sit ho2 hm3 (dC hT1.skeys);have hS2:Step A1 B1 O1 A2 B1 O1:=step_map (hT1.own.2.2.1) ho2 hm3
    have hend:aN A' B O t (aC T (.mk ⟨zxid,3,ses,turn,xid,dtime,path,data,owner,ver,cver,tmo,err,cfg,mem⟩ parts)) A2:=by
     rw [aC,if_pos hr,←hTo];show aN A' B O t (aR T1 ses turn) A2
     rw [aR,hk];exact⟨B1,O1,⟨m1,s1,E1,hR2⟩,hS1.trans hS2⟩
    conv=>lhs;whnf
    exact(hD _).2 hend
 by_cases h4:kind=4
 ·subst h4
  conv=>lhs;whnf
  refine ai htop1 ?_;conv=>lhs;whnf
  refine(hD _).2 ⟨_,h.smap,cN eh zxid _,fun A1 hm1 ho1=> ?_⟩;have hm1:bH A1 s (dV (.int .i64 zxid) (eh ⟨zxid,tmo,turn⟩) (iG eh T.seats)):=hm1;rw [eD]at hm1;have hR1:=h.sit ho1 hm1 (dC h.skeys);obtain⟨T1,hTo⟩:∃T1,T1=cC T (.mk ⟨zxid,4,ses,turn,xid,dtime,path,data,owner,ver,cver,tmo,err,cfg,mem⟩ parts):=⟨_,rfl⟩;have hmid:aN A' B O t T1 A1:=⟨B,O,⟨m,s,E,by rw [hTo];exact hR1⟩,step_map h.own.2.2.1 ho1 hm1⟩;conv=>lhs;whnf
  obtain⟨B1,O1,⟨m1,s1,E1,hT1⟩,hS1⟩:=hmid;have htop9:A1.rd t 1 1=some [.map (some s1)]:=hT1.top.rd (o:=1) (n:=1) (by show 1+1≤2;omega);refine ai htop9 ?_;conv=>lhs;whnf
  refine cW (bL hT1.smap ses) ?_
  cases hk:aG ses T1.seats with
  |none=>
   have hlk:A1.look s1 (.int .i64 ses)=some none:=by rw [bL hT1.smap,hk];rfl
   conv=>lhs;whnf
   have hend:aN A' B O t (aC T (.mk ⟨zxid,4,ses,turn,xid,dtime,path,data,owner,ver,cver,tmo,err,cfg,mem⟩ parts)) A1:=by
    rw [aC,if_pos hr,←hTo];show aN A' B O t (aR T1 ses turn) A1
    rw [aR,hk];exact⟨B1,O1,⟨m1,s1,E1,hT1⟩,hS1⟩
   repeat(first|refine ai htop9 ?_|refine cW hlk ?_|refine aj hD rfl ?_
          conv=>lhs;whnf)
   exact(hD _).2 hend
  |some st=>
   obtain⟨sses,stmo,sturn⟩:=st;have hlk:A1.look s1 (.int .i64 ses)=some (some (.agg #[.int .i64 sses,.int .i64 stmo,.int .i64 sturn])):=by rw [bL hT1.smap,hk];rfl
   conv=>lhs;whnf
   repeat(first|refine ai htop9 ?_|refine cW hlk ?_|refine aj hD rfl ?_
          conv=>lhs;whnf)
   refine(hD _).2 ⟨_,hT1.smap,cN eh ses _,fun A2 hm2 ho2=> ?_⟩
   have hmx:(bif true then bif decide (sturn<turn)then turn else sturn else bif decide (turn<sturn)then turn else sturn)=max sturn turn:=by
    by_cases h9:sturn<turn
    ·simp only [h9,decide_true,cond_true];omega
    ·simp only [h9,decide_false,cond_true,cond_false];omega
   have hm3:bH A2 s1 (dV (.int .i64 ses) (eh ⟨sses,stmo,max sturn turn⟩) (iG eh T1.seats)):=by
    rw [←hmx];exact hm2
   rw [eD]at hm3;have hR2:=hT1.sit ho2 hm3 (dC hT1.skeys);have hS2:Step A1 B1 O1 A2 B1 O1:=step_map (hT1.own.2.2.1) ho2 hm3
   have hend:aN A' B O t (aC T (.mk ⟨zxid,4,ses,turn,xid,dtime,path,data,owner,ver,cver,tmo,err,cfg,mem⟩ parts)) A2:=by
    rw [aC,if_pos hr,←hTo];show aN A' B O t (aR T1 ses turn) A2
    rw [aR,hk];exact⟨B1,O1,⟨m1,s1,E1,hR2⟩,hS1.trans hS2⟩
   conv=>lhs;whnf
   exact(hD _).2 hend
 by_cases h5:kind=5
 ·subst h5
  conv=>lhs;whnf
  refine ai htop1 ?_;conv=>lhs;whnf
  refine(hD _).2 ⟨_,h.smap,cN eh owner _,fun A1 hm1 ho1=> ?_⟩;rw [vQ]at hm1;have hR1:=h.sit ho1 hm1 (h.skeys.sublist ((eZ owner _).map _));have hSt:Step A' B O A1 B O:=step_map h.own.2.2.1 ho1 hm1;obtain⟨T0,hT00⟩:∃T0:aF,T0=⟨T.nodes,dQ owner T.seats⟩:=⟨_,rfl⟩;have hst:ba A1 B O t T0:=⟨m,s,E,by rw [hT00];exact hR1⟩;have hT0:cC T (.mk ⟨zxid,5,ses,turn,xid,dtime,path,data,owner,ver,cver,tmo,err,cfg,mem⟩ parts)=bE T0 parts zxid dtime:=by rw [hT00];rfl
  conv=>lhs;whnf
  refine(hD _).2 ⟨wL A' B O t T0 parts zxid dtime,⟨(⟨0,A1,B,O,T0⟩:AG),⟨Nat.zero_le _,hst,hSt,by rw [List.take_zero];rfl⟩,⟨rfl,trivial⟩,trivial,rfl⟩,fun(sg:AG) hG=>⟨⟨trivial,trivial⟩,trivial,?_⟩⟩;obtain⟨k,Ak,Bk,Ok,Tk⟩:=sg;obtain⟨hk,hTk,hSk,hTke⟩:k≤parts.length∧ba Ak Bk Ok t Tk∧Step A' B O Ak Bk Ok∧Tk=bE T0 (parts.take k) zxid dtime:=hG;have hCk:=hC.step hSk;conv=>lhs;whnf
  refine af (fun hlt=> ?_) (fun hlt=> ?_)
  ·have hlt:(k:Int)<parts.length:=hlt
   have hkn:k<parts.length:=by omega
   obtain⟨ao15,c15,he15,hc15,hl15,hb1,hb2,hb3⟩:=hS;injection he15 with he1 he2 he3
   subst he1 he3;obtain⟨pg,po,rfl,hra⟩:=Sl.at_ hc15 hb1 hb2 hb3 (by omega);obtain⟨pcs,hpcs,hpd⟩:=pC hra hRows k hkn rfl;conv=>lhs;whnf
   refine cO ⟨by omega,hlt⟩ ?_;conv=>lhs;whnf
   have hnext:bE T0 (parts.take (k+1)) zxid dtime=aK Tk parts[k].h zxid dtime:=by
    rw [List.take_succ_eq_append_getElem hkn,bE,List.foldl_append,hTke];rfl
   generalize parts[k]=p at hpd hnext;obtain⟨pa7,pl7,pk7,pa14,pl14,pk14,pa15,pl15,pk15,rfl⟩:=hpd.form;refine ai (bI hCk.1 hpcs) ?_;conv=>lhs;whnf
   refine(hD _).2 ⟨(⟨Tk,Bk,Ok,t⟩,p,C,zxid,dtime),⟨_,rfl,hTk,hpd,hCk⟩,fun v A9 hq=> ?_⟩;obtain⟨B9,O9,hT9,hS9⟩:aN Ak Bk Ok t (aK Tk p.h zxid dtime) A9:=hq;conv=>lhs;whnf
   exact(hD _).2 ⟨(⟨k+1,A9,B9,O9,_⟩:AG),⟨⟨by show k+1≤parts.length;omega,hT9,hSk.trans hS9,hnext.symm⟩,⟨bf (k:=k) (by omega),trivial⟩,trivial,rfl⟩,by show parts.length-(k+1)<parts.length-k;omega,⟨rfl,rfl,rfl,rfl,trivial⟩,⟨rfl,trivial⟩⟩
  ·have hlt:¬(k:Int)<parts.length:=hlt
   have hkn:k=parts.length:=by omega
   rw [hkn,List.take_length]at hTke;obtain⟨T1,hTo⟩:∃T1,T1=cC T (.mk ⟨zxid,5,ses,turn,xid,dtime,path,data,owner,ver,cver,tmo,err,cfg,mem⟩ parts):=⟨_,rfl⟩;have hmid:aN A' B O t T1 Ak:=⟨Bk,Ok,by rw [hTo,hT0,←hTke];exact hTk,hSk⟩;clear hTk hSk hTke;generalize Ak=A1 at*;conv=>lhs;whnf
   obtain⟨B1,O1,⟨m1,s1,E1,hT1⟩,hS1⟩:=hmid;have htop9:A1.rd t 1 1=some [.map (some s1)]:=hT1.top.rd (o:=1) (n:=1) (by show 1+1≤2;omega);refine ai htop9 ?_;conv=>lhs;whnf
   refine cW (bL hT1.smap ses) ?_
   cases hk:aG ses T1.seats with
   |none=>
    have hlk:A1.look s1 (.int .i64 ses)=some none:=by rw [bL hT1.smap,hk];rfl
    conv=>lhs;whnf
    have hend:aN A' B O t (aC T (.mk ⟨zxid,5,ses,turn,xid,dtime,path,data,owner,ver,cver,tmo,err,cfg,mem⟩ parts)) A1:=by
     rw [aC,if_pos hr,←hTo];show aN A' B O t (aR T1 ses turn) A1
     rw [aR,hk];exact⟨B1,O1,⟨m1,s1,E1,hT1⟩,hS1⟩
    repeat(first|refine ai htop9 ?_|refine cW hlk ?_|refine aj hD rfl ?_
           conv=>lhs;whnf)
    exact(hD _).2 hend
   |some st=>
    obtain⟨sses,stmo,sturn⟩:=st;have hlk:A1.look s1 (.int .i64 ses)=some (some (.agg #[.int .i64 sses,.int .i64 stmo,.int .i64 sturn])):=by rw [bL hT1.smap,hk];rfl
    conv=>lhs;whnf
    repeat(first|refine ai htop9 ?_|refine cW hlk ?_|refine aj hD rfl ?_
           conv=>lhs;whnf)
    refine(hD _).2 ⟨_,hT1.smap,cN eh ses _,fun A2 hm2 ho2=> ?_⟩
    have hmx:(bif true then bif decide (sturn<turn)then turn else sturn else bif decide (turn<sturn)then turn else sturn)=max sturn turn:=by
     by_cases h9:sturn<turn
     ·simp only [h9,decide_true,cond_true];omega
     ·simp only [h9,decide_false,cond_true,cond_false];omega
    have hm3:bH A2 s1 (dV (.int .i64 ses) (eh ⟨sses,stmo,max sturn turn⟩) (iG eh T1.seats)):=by
     rw [←hmx];exact hm2
    rw [eD]at hm3;have hR2:=hT1.sit ho2 hm3 (dC hT1.skeys);have hS2:Step A1 B1 O1 A2 B1 O1:=step_map (hT1.own.2.2.1) ho2 hm3
    have hend:aN A' B O t (aC T (.mk ⟨zxid,5,ses,turn,xid,dtime,path,data,owner,ver,cver,tmo,err,cfg,mem⟩ parts)) A2:=by
     rw [aC,if_pos hr,←hTo];show aN A' B O t (aR T1 ses turn) A2
     rw [aR,hk];exact⟨B1,O1,⟨m1,s1,E1,hR2⟩,hS1.trans hS2⟩
    conv=>lhs;whnf
    exact(hD _).2 hend
 by_cases h8:kind=8
 ·subst h8
  have hSt:Step A' B O A' B O:=Step.refl _ _ _;have hst:ba A' B O t T:=⟨m,s,E,h⟩;have hT0:cC T (.mk ⟨zxid,8,ses,turn,xid,dtime,path,data,owner,ver,cver,tmo,err,cfg,mem⟩ parts)=bE T parts zxid dtime:=rfl;conv=>lhs;whnf
  refine(hD _).2 ⟨wL A' B O t T parts zxid dtime,⟨(⟨0,A',B,O,T⟩:AG),⟨Nat.zero_le _,hst,hSt,by rw [List.take_zero];rfl⟩,⟨rfl,trivial⟩,trivial,rfl⟩,fun(sg:AG) hG=>⟨⟨trivial,trivial⟩,trivial,?_⟩⟩;obtain⟨k,Ak,Bk,Ok,Tk⟩:=sg;obtain⟨hk,hTk,hSk,hTke⟩:k≤parts.length∧ba Ak Bk Ok t Tk∧Step A' B O Ak Bk Ok∧Tk=bE T (parts.take k) zxid dtime:=hG;have hCk:=hC.step hSk;conv=>lhs;whnf
  refine af (fun hlt=> ?_) (fun hlt=> ?_)
  ·have hlt:(k:Int)<parts.length:=hlt
   have hkn:k<parts.length:=by omega
   obtain⟨ao15,c15,he15,hc15,hl15,hb1,hb2,hb3⟩:=hS;injection he15 with he1 he2 he3
   subst he1 he3;obtain⟨pg,po,rfl,hra⟩:=Sl.at_ hc15 hb1 hb2 hb3 (by omega);obtain⟨pcs,hpcs,hpd⟩:=pC hra hRows k hkn rfl;conv=>lhs;whnf
   refine cO ⟨by omega,hlt⟩ ?_;conv=>lhs;whnf
   have hnext:bE T (parts.take (k+1)) zxid dtime=aK Tk parts[k].h zxid dtime:=by
    rw [List.take_succ_eq_append_getElem hkn,bE,List.foldl_append,hTke];rfl
   generalize parts[k]=p at hpd hnext;obtain⟨pa7,pl7,pk7,pa14,pl14,pk14,pa15,pl15,pk15,rfl⟩:=hpd.form;refine ai (bI hCk.1 hpcs) ?_;conv=>lhs;whnf
   refine(hD _).2 ⟨(⟨Tk,Bk,Ok,t⟩,p,C,zxid,dtime),⟨_,rfl,hTk,hpd,hCk⟩,fun v A9 hq=> ?_⟩;obtain⟨B9,O9,hT9,hS9⟩:aN Ak Bk Ok t (aK Tk p.h zxid dtime) A9:=hq;conv=>lhs;whnf
   exact(hD _).2 ⟨(⟨k+1,A9,B9,O9,_⟩:AG),⟨⟨by show k+1≤parts.length;omega,hT9,hSk.trans hS9,hnext.symm⟩,⟨bf (k:=k) (by omega),trivial⟩,trivial,rfl⟩,by show parts.length-(k+1)<parts.length-k;omega,⟨rfl,rfl,rfl,rfl,trivial⟩,⟨rfl,trivial⟩⟩
  ·have hlt:¬(k:Int)<parts.length:=hlt
   have hkn:k=parts.length:=by omega
   rw [hkn,List.take_length]at hTke;obtain⟨T1,hTo⟩:∃T1,T1=cC T (.mk ⟨zxid,8,ses,turn,xid,dtime,path,data,owner,ver,cver,tmo,err,cfg,mem⟩ parts):=⟨_,rfl⟩;have hmid:aN A' B O t T1 Ak:=⟨Bk,Ok,by rw [hTo,hT0,←hTke];exact hTk,hSk⟩;clear hTk hSk hTke;generalize Ak=A1 at*;conv=>lhs;whnf
   obtain⟨B1,O1,⟨m1,s1,E1,hT1⟩,hS1⟩:=hmid;have htop9:A1.rd t 1 1=some [.map (some s1)]:=hT1.top.rd (o:=1) (n:=1) (by show 1+1≤2;omega);refine ai htop9 ?_;conv=>lhs;whnf
   refine cW (bL hT1.smap ses) ?_
   cases hk:aG ses T1.seats with
   |none=>
    have hlk:A1.look s1 (.int .i64 ses)=some none:=by rw [bL hT1.smap,hk];rfl
    conv=>lhs;whnf
    have hend:aN A' B O t (aC T (.mk ⟨zxid,8,ses,turn,xid,dtime,path,data,owner,ver,cver,tmo,err,cfg,mem⟩ parts)) A1:=by
     rw [aC,if_pos hr,←hTo];show aN A' B O t (aR T1 ses turn) A1
     rw [aR,hk];exact⟨B1,O1,⟨m1,s1,E1,hT1⟩,hS1⟩
    repeat(first|refine ai htop9 ?_|refine cW hlk ?_|refine aj hD rfl ?_
           conv=>lhs;whnf)
    exact(hD _).2 hend
   |some st=>
    obtain⟨sses,stmo,sturn⟩:=st;have hlk:A1.look s1 (.int .i64 ses)=some (some (.agg #[.int .i64 sses,.int .i64 stmo,.int .i64 sturn])):=by rw [bL hT1.smap,hk];rfl
    conv=>lhs;whnf
    repeat(first|refine ai htop9 ?_|refine cW hlk ?_|refine aj hD rfl ?_
           conv=>lhs;whnf)
    refine(hD _).2 ⟨_,hT1.smap,cN eh ses _,fun A2 hm2 ho2=> ?_⟩
    have hmx:(bif true then bif decide (sturn<turn)then turn else sturn else bif decide (turn<sturn)then turn else sturn)=max sturn turn:=by
     by_cases h9:sturn<turn
     ·simp only [h9,decide_true,cond_true];omega
     ·simp only [h9,decide_false,cond_true,cond_false];omega
    have hm3:bH A2 s1 (dV (.int .i64 ses) (eh ⟨sses,stmo,max sturn turn⟩) (iG eh T1.seats)):=by
     rw [←hmx];exact hm2
    rw [eD]at hm3;have hR2:=hT1.sit ho2 hm3 (dC hT1.skeys);have hS2:Step A1 B1 O1 A2 B1 O1:=step_map (hT1.own.2.2.1) ho2 hm3
    have hend:aN A' B O t (aC T (.mk ⟨zxid,8,ses,turn,xid,dtime,path,data,owner,ver,cver,tmo,err,cfg,mem⟩ parts)) A2:=by
     rw [aC,if_pos hr,←hTo];show aN A' B O t (aR T1 ses turn) A2
     rw [aR,hk];exact⟨B1,O1,⟨m1,s1,E1,hR2⟩,hS1.trans hS2⟩
    conv=>lhs;whnf
    exact(hD _).2 hend
 ·obtain⟨T1,hTo⟩:∃T1,T1=cC T (.mk ⟨zxid,kind,ses,turn,xid,dtime,path,data,owner,ver,cver,tmo,err,cfg,mem⟩ parts):=⟨_,rfl⟩
  have e:T1=T:=by
   rw [hTo,cC]
   split
   ·rename_i h9;exact absurd h9 h123
   ·split
    ·rename_i h9;exact absurd h9 h4
    ·split
     ·rename_i h9;exact absurd h9 h5
     ·split
      ·rename_i h9;exact absurd h9 h8
      ·rfl
  have hmid:aN A' B O t T1 A':=by rw [e];exact⟨B,O,⟨m,s,E,h⟩,Step.refl _ _ _⟩
  repeat(refine no_dec (fun h9=> ?_) ?_
         ·first|exact h4 h9|exact h5 h9|exact h8 h9|exact h123 (by omega)
         conv=>lhs;whnf)
  obtain⟨B1,O1,⟨m1,s1,E1,hT1⟩,hS1⟩:=hmid;have htop9:A'.rd t 1 1=some [.map (some s1)]:=hT1.top.rd (o:=1) (n:=1) (by show 1+1≤2;omega);refine ai htop9 ?_;conv=>lhs;whnf
  refine cW (bL hT1.smap ses) ?_
  cases hk:aG ses T1.seats with
  |none=>
   have hlk:A'.look s1 (.int .i64 ses)=some none:=by rw [bL hT1.smap,hk];rfl
   conv=>lhs;whnf
   have hend:aN A' B O t (aC T (.mk ⟨zxid,kind,ses,turn,xid,dtime,path,data,owner,ver,cver,tmo,err,cfg,mem⟩ parts)) A':=by
    rw [aC,if_pos hr,←hTo];show aN A' B O t (aR T1 ses turn) A'
    rw [aR,hk];exact⟨B1,O1,⟨m1,s1,E1,hT1⟩,hS1⟩
   repeat(first|refine ai htop9 ?_|refine cW hlk ?_|refine aj hD rfl ?_
          conv=>lhs;whnf)
   exact(hD _).2 hend
  |some st=>
   obtain⟨sses,stmo,sturn⟩:=st;have hlk:A'.look s1 (.int .i64 ses)=some (some (.agg #[.int .i64 sses,.int .i64 stmo,.int .i64 sturn])):=by rw [bL hT1.smap,hk];rfl
   conv=>lhs;whnf
   repeat(first|refine ai htop9 ?_|refine cW hlk ?_|refine aj hD rfl ?_
          conv=>lhs;whnf)
   refine(hD _).2 ⟨_,hT1.smap,cN eh ses _,fun A2 hm2 ho2=> ?_⟩
   have hmx:(bif true then bif decide (sturn<turn)then turn else sturn else bif decide (turn<sturn)then turn else sturn)=max sturn turn:=by
    by_cases h9:sturn<turn
    ·simp only [h9,decide_true,cond_true];omega
    ·simp only [h9,decide_false,cond_true,cond_false];omega
   have hm3:bH A2 s1 (dV (.int .i64 ses) (eh ⟨sses,stmo,max sturn turn⟩) (iG eh T1.seats)):=by
    rw [←hmx];exact hm2
   rw [eD]at hm3;have hR2:=hT1.sit ho2 hm3 (dC hT1.skeys);have hS2:Step A' B1 O1 A2 B1 O1:=step_map (hT1.own.2.2.1) ho2 hm3
   have hend:aN A' B O t (aC T (.mk ⟨zxid,kind,ses,turn,xid,dtime,path,data,owner,ver,cver,tmo,err,cfg,mem⟩ parts)) A2:=by
    rw [aC,if_pos hr,←hTo];show aN A' B O t (aR T1 ses turn) A2
    rw [aR,hk];exact⟨B1,O1,⟨m1,s1,E1,hR2⟩,hS1.trans hS2⟩
   conv=>lhs;whnf
   exact(hD _).2 hend
def gu(T:aF):Prop:=∀e∈T.nodes,bR e.1.data.toList=true
theorem fH{κ α:Type} [BEq κ](p:κ)(f:α→α):∀l:List (κ×α),(dI p f l).map (·.1)=l.map (·.1)
 | []=>rfl
 |(q,x)::l=>by
  simp only [dI]
  cases p==q
  ·simp [fH p f l]
  ·rfl
theorem nI{κ α:Type} [BEq κ](p:κ)(x:α):∀(l:List (κ×α)) (q:κ),q∈(bS p x l).map (·.1)→q∈l.map (·.1)∨q=p
 | [],q,h=>by simpa [bS]using h
 |(r,y)::l,q,h=>by
  simp only [bS]at h
  cases hb:p==r<;>rw [hb]at h<;>simp only [cond_true,cond_false,List.map_cons,List.mem_cons]at h ⊢
  ·rcases h with h|h
   ·exact .inl (.inl h)
   ·rcases nI p x l q h with h|h
    ·exact .inl (.inr h)
    ·exact .inr h
  ·rcases h with h|h
   ·exact .inr h
   ·exact .inl (.inr h)
theorem iY{κ α:Type} [BEq κ](p:κ)(x:α):∀l:List (κ×α),(bS p x l).length≤l.length+1
 | []=>by simp [bS]
 |(r,y)::l=>by
  simp only [bS]
  cases p==r
  ·have:=iY p x l
   simp;omega
  ·simp
theorem lR{T:aF} :gu T↔∀q∈T.nodes.map (·.1),bR q.data.toList=true:=by
 simp [gu]
theorem nF{T:aF}(h:gu T)(p:ByteArray)(z cv:Int):gu (bT T p z cv):=by
 rw [lR]at h ⊢;rw [bT];show ∀q∈(dI _ _ T.nodes).map (·.1),_
 rw [fH];exact h
theorem oV{T:aF}(h:gu T){d:c7}(hd:d.kind=1→bR d.path.data.toList=true)(z time:Int):gu (aK T d z time):=by
 rw [aK]
 split
 ·rw [lR]at h ⊢
  show ∀q∈(dI _ _ T.nodes).map (·.1),_
  rw [fH];exact h
 ·split
  ·rename_i h1
   refine nF ?_ _ _ _;rw [lR]at h ⊢;intro q hq;rcases nI _ _ _ _ hq with h2|rfl
   ·exact h q h2
   ·exact hd h1
  ·split
   ·refine nF ?_ _ _ _
    intro e he;exact h e ((eZ _ _).subset he)
   ·exact nF h _ _ _
theorem qA(T:aF)(p:ByteArray)(z cv:Int):(bT T p z cv).nodes.length=T.nodes.length:=by
 rw [bT];have:=congrArg List.length (fH (bj p) (gR z cv) T.nodes);simpa using this
theorem qY(T:aF)(d:c7)(z time:Int):(aK T d z time).nodes.length≤T.nodes.length+1:=by
 rw [aK]
 split
 ·have:=congrArg List.length (fH d.path (mJ d z time) T.nodes)
  simp only [List.length_map]at this;show(dI _ _ T.nodes).length≤_
  omega
 ·split
  ·rw [qA];exact iY _ _ _
  ·split
   ·rw [qA]
    have:=(eZ d.path T.nodes).length_le;show(dQ _ T.nodes).length≤_
    omega
   ·rw [qA];omega
theorem lN(z time:Int):∀(ps:List aU) (T:aF),gu T→(∀p∈ps,p.h.kind=1→bR p.h.path.data.toList=true)→gu (bE T ps z time)
 | [],_,h,_=>h
 |p::ps,_,h,hp=>lN z time ps _ (oV h (hp p (by simp)) z time) fun q hq=>hp q (List.mem_cons_of_mem _ hq)
theorem nz(z time:Int):∀(ps:List aU) (T:aF),(bE T ps z time).nodes.length≤T.nodes.length+ps.length
 | [],_=>Nat.le_refl _
 |p::ps,T=>by
  have h1:=nz z time ps (aK T p.h z time);have h2:=qY T p.h z time;show(bE (aK T p.h z time) ps z time).nodes.length≤_
  simp only [List.length_cons];omega
theorem nT{h:c7}{np:Nat}(hf:bZ h np)(h1:h.kind=1):bR h.path.data.toList=true:=by
 refine hf.2.2.2.2.2.2.2.2.2.2.1 ?_;rw [h1];rfl
theorem ou(T:aF)(ses turn:Int):(aR T ses turn).nodes=T.nodes:=by
 rw [aR];split<;>rfl
theorem yP{T:aF}(h:gu T)(d:aU):gu (aC T d):=by
 rw [aC]
 split
 ·rename_i hr
  have hk:gu (cC T d):=by
   rw [cC]
   split
   ·exact oV h (nT hr.2.2.2.2.2.2.1) _ _
   ·split
    ·exact h
    ·split
     ·rename_i h5
      exact lN _ _ _ _ h fun p hp=>nT ((hr.2.2.2.2.2.2.2.1 h5).2.2 p hp).2.2.2.2.2.1
     ·split
      ·rename_i h8
       exact lN _ _ _ _ h fun p hp=>nT ((hr.2.2.2.2.2.2.2.2.2 h8).2.2 p hp).2.2.2.2.2.1
      ·exact h
  intro e he;rw [ou]at he;exact hk e he
 ·exact h
end
end Go.Proofs.YtmmlhdiejkknnaaGreatDoor
namespace Go.Proofs.YtmmlhdiejkknnaaGreatDoor
open Go.Sx Go.RowKit Go.Sort Go.Shelf
noncomputable section
def sortRen:Go.Shelf.Ren:=⟨fun|190=>121|125=>124|258=>188|128=>198|129=>199|302=>248|303=>249|304=>250|305=>251|306=>252|307=>253|308=>254|309=>255|310=>256|333=>279|329=>259|330=>260|334=>280|335=>281|336=>282|344=>290|n=>n,fun|31=>108|9=>9|3=>3|46=>189|0=>0|51=>205|53=>199|4=>4|183=>256|182=>255|131=>260|5=>5|218=>344|222=>348|228=>365|229=>366|n=>n,fun|n=>n⟩
theorem pV:Lays.n190 Tryz.prog sortRen where
 mixed:=by kernel_rfl
 f125:=Tryz.func124.trans (congrArg some (by kernel_rfl))
 f128:=Tryz.func198.trans (congrArg some (by kernel_rfl))
 f129:=Tryz.func199.trans (congrArg some (by kernel_rfl))
 f190:=Tryz.func121.trans (congrArg some (by kernel_rfl))
 f258:=Tryz.func188.trans (congrArg some (by kernel_rfl))
 f302:=Tryz.func248.trans (congrArg some (by kernel_rfl))
 f303:=Tryz.func249.trans (congrArg some (by kernel_rfl))
 f304:=Tryz.func250.trans (congrArg some (by kernel_rfl))
 f305:=Tryz.func251.trans (congrArg some (by kernel_rfl))
 f306:=Tryz.func252.trans (congrArg some (by kernel_rfl))
 f307:=Tryz.func253.trans (congrArg some (by kernel_rfl))
 f308:=Tryz.func254.trans (congrArg some (by kernel_rfl))
 f309:=Tryz.func255.trans (congrArg some (by kernel_rfl))
 f310:=Tryz.func256.trans (congrArg some (by kernel_rfl))
 f329:=Tryz.func259.trans (congrArg some (by kernel_rfl))
 f330:=Tryz.func260.trans (congrArg some (by kernel_rfl))
 f333:=Tryz.func279.trans (congrArg some (by kernel_rfl))
 f334:=Tryz.func280.trans (congrArg some (by kernel_rfl))
 f335:=Tryz.func281.trans (congrArg some (by kernel_rfl))
 f336:=Tryz.func282.trans (congrArg some (by kernel_rfl))
 f344:=Tryz.func290.trans (congrArg some (by kernel_rfl))
 t0:=Tryz.underlying0
 a0:=Tryz.isAgg0
 z0:=Tryz.sizeOf0
 v0:=Tryz.zeroValue0
 t3:=Tryz.underlying3
 a3:=Tryz.isAgg3
 z3:=Tryz.sizeOf3
 v3:=Tryz.zeroValue3
 t4:=Tryz.underlying4
 a4:=Tryz.isAgg4
 z4:=Tryz.sizeOf4
 v4:=Tryz.zeroValue4
 t5:=Tryz.underlying5
 a5:=Tryz.isAgg5
 z5:=Tryz.sizeOf5
 v5:=Tryz.zeroValue5
 t9:=Tryz.underlying9
 a9:=Tryz.isAgg9
 z9:=Tryz.sizeOf9
 v9:=Tryz.zeroValue9
 t31:=Tryz.underlying108
 a31:=Tryz.isAgg108
 z31:=Tryz.sizeOf108
 v31:=Tryz.zeroValue108
 t46:=Tryz.underlying189
 a46:=Tryz.isAgg189
 z46:=Tryz.sizeOf189
 v46:=Tryz.zeroValue189
 t51:=Tryz.underlying205
 a51:=Tryz.isAgg205
 z51:=Tryz.sizeOf205
 v51:=Tryz.zeroValue205
 t53:=Tryz.underlying199
 a53:=Tryz.isAgg199
 z53:=Tryz.sizeOf199
 v53:=Tryz.zeroValue199
 t131:=Tryz.underlying260
 a131:=Tryz.isAgg260
 z131:=Tryz.sizeOf260
 v131:=Tryz.zeroValue260
 t182:=Tryz.underlying255
 a182:=Tryz.isAgg255
 z182:=Tryz.sizeOf255
 v182:=Tryz.zeroValue255
 t183:=Tryz.underlying256
 a183:=Tryz.isAgg256
 z183:=Tryz.sizeOf256
 v183:=Tryz.zeroValue256
 t218:=Tryz.underlying344
 a218:=Tryz.isAgg344
 z218:=Tryz.sizeOf344
 v218:=Tryz.zeroValue344
 t222:=Tryz.underlying348
 a222:=Tryz.isAgg348
 z222:=Tryz.sizeOf348
 v222:=Tryz.zeroValue348
 t228:=Tryz.underlying365
 a228:=Tryz.isAgg365
 z228:=Tryz.sizeOf365
 v228:=Tryz.zeroValue365
 t229:=Tryz.underlying366
 a229:=Tryz.isAgg366
 z229:=Tryz.sizeOf366
 v229:=Tryz.zeroValue366
def eT(ss:List (List UInt8)):List (List UInt8):=ss.mergeSort fun x y=>decide (x≤y)
theorem eS(ss:List (List UInt8)):(eT ss).length=ss.length:=List.length_mergeSort _
theorem xF(d:List (List UInt8))(c:Array Value)(h:d.length≤c.size):(putCells encStr 0 d.toArray c).toList=c.toList.take 0++d.map ga++c.toList.drop (0+(d.map ga).length):=by
 refine List.ext_getElem? fun k=> ?_
 simp only [putCells,Array.toList_mapIdx,List.getElem?_mapIdx,List.take_zero,List.nil_append,List.length_map,Nat.zero_add,Nat.zero_le,true_and,List.size_toArray,Nat.sub_zero]
 by_cases hk:k<d.length
 ·rw [List.getElem?_append_left (by simpa using hk),List.getElem?_map,List.getElem?_eq_getElem hk]
  have hkc:k<c.toList.length:=Nat.lt_of_lt_of_le hk h;have h1:c.toList[k]? =some c.toList[k]:=List.getElem?_eq_getElem hkc;rw [h1];simp [hk,ga]
 ·rw [List.getElem?_append_right (by simpa using Nat.le_of_not_lt hk),List.length_map,List.getElem?_drop,Nat.add_sub_cancel' (Nat.le_of_not_lt hk)]
  cases c.toList[k]? <;>simp [hk]
def CB:aY:=⟨Nat×List (List UInt8),fun g vs A=>(g.2= []∧∃p cap,vs= [.slice p 0 cap])∨(g.2≠ []∧g.2.length<4611686018427387904∧A.Room g.1 0 g.2.length∧A.rd g.1 0 g.2.length=some (g.2.map ga)∧∃cap,vs= [.slice (some ⟨g.1,0,none⟩) g.2.length cap]),
 fun g _ A _ A'=>(g.2= []→A'=A)∧(g.2≠ []→A.Put A' g.1 0 ((eT g.2).map ga))⟩
theorem sort_ok:FOk Tryz.prog 121 CB:=by
 intro g vs A w hA hp;refine eE pV.f190 ⟨by kernel_rfl,by kernel_rfl⟩ ?_;rcases hp with⟨h0,p,cap,rfl⟩|⟨h0,hlt,⟨c,t,fz,hb,hle,hfz⟩,hr,cap,rfl⟩
 ·intro cs
  obtain⟨e,w',fr,⟨k1,k2⟩,k3⟩:=Any.slices_Sort_string_none pV p cap w cs;subst k2;exact⟨e,w',fr,⟨_,k1,A,⟨fun _=>rfl,fun h=>absurd h0 h⟩,rfl,rfl,rfl,fun _ _ _=>rfl,hA,fun k o ho=> .inl ⟨o,ho⟩⟩,k3⟩
 ·have hw:=hA _ _ hb
  have hsz:g.1<w.heap.size:=by
   have:=Array.getElem?_eq_some_iff.1 hw;exact this.1
  have hH:Holds encStr w g.1 0 g.2.toArray:=fun j hj=>by
   have hj:j<g.2.length:=by simpa using hj
   constructor
   ·have hr':(c.toList.drop 0).take g.2.length=g.2.map ga:=by
      rw [A.rdeq]at hr;unfold xz at hr;rw [hb]at hr;simp only at hr;rw [if_pos (by omega)]at hr;injection hr
    have h3:((c.toList.drop 0).take g.2.length)[j]? =(g.2.map ga)[j]? :=by rw [hr']
    rw [List.drop_zero,List.getElem?_take,if_pos hj,List.getElem?_map,List.getElem?_eq_getElem hj]at h3;unfold World.cell?;rw [hw];simp only [Option.isSome_none,Bool.false_eq_true,if_false,Nat.zero_add];rw [←Array.getElem?_toList,h3];simp [ga,hj]
   ·unfold World.frozen?
    rw [hw];have h9:=hfz.not (0+j) (by omega);obtain⟨lo,hi⟩:=fz;dsimp only at h9 ⊢;rw [←Bool.decide_and];exact decide_eq_false h9
  intro cs;obtain⟨e,w',fr,⟨k1,n,os,k2⟩,k3⟩:=Any.slices_Sort_string pV g.1 0 cap g.2 w hH hsz hlt cs;have hd:(eT g.2).length≤c.size:=by rw [eS];omega
  refine⟨e,w',fr,⟨_,k1,aa.of (fun k=>if k=g.1 then some (.cells (putCells encStr 0 (eT g.2).toArray c) t fz)else A.blk k),⟨fun h=>absurd h h0,fun _=>⟨⟨c,t,fz,_,hb,if_pos rfl,xF _ c hd⟩,fun k hk=>if_neg hk⟩⟩,?_⟩,k3⟩;have k2:w'=grow (putRow encStr (Sort.ahead w n) g.1 0 (eT g.2).toArray) os:=k2;subst k2
  have at_:∀k,k<w.heap.size→(grow (putRow encStr (Sort.ahead w n) g.1 0 (eT g.2).toArray) os).heap[k]? =if k=g.1 then some (.cells (putCells encStr 0 (eT g.2).toArray c) t fz)else w.heap[k]? :=fun k hk=>by
   show(((w.heap.modify g.1 (onCells (putCells encStr 0 (eT g.2).toArray)))++os)[k]?)=_
   rw [Array.getElem?_append_left (by simpa using hk),Array.getElem?_modify]
   by_cases e:k=g.1
   ·subst e;rw [if_pos rfl,if_pos rfl,hw];rfl
   ·rw [if_neg (fun h=>e h.symm),if_neg e]
  have lt_:∀k o,A.blk k=some o→k<w.heap.size:=fun k o hk=>(Array.getElem?_eq_some_iff.1 (hA k o hk)).1
  refine⟨rfl,rfl,rfl,fun k hk hks=> ?_,fun k o hk=> ?_,fun k o hk=> ?_⟩
  ·rw [at_ k hks,if_neg fun e=>(by rw [e,hb]at hk;cases hk)]
  ·have hk:(if k=g.1 then some (Obj.cells (putCells encStr 0 (eT g.2).toArray c) t fz)else A.blk k)=some o:=hk
   by_cases e:k=g.1
   ·rw [if_pos e]at hk
    rw [at_ k (e▸hsz),if_pos e,hk]
   ·rw [if_neg e]at hk
    rw [at_ k (lt_ k o hk),if_neg e];exact hA k o hk
  ·have hk:(if k=g.1 then some (Obj.cells (putCells encStr 0 (eT g.2).toArray c) t fz)else A.blk k)=some o:=hk
   by_cases e:k=g.1
   ·exact .inl ⟨_,e▸hb⟩
   ·rw [if_neg e]at hk;exact .inl ⟨o,hk⟩
end
end Go.Proofs.YtmmlhdiejkknnaaGreatDoor
namespace Go.Sx
noncomputable section
def br(A1 A:aa)(es:Nat)(e:TypeId)(n:Nat)(v:Value)(cs:List Value):Prop:=
 cs.length=n*es∧((n=0∧v= .slice none 0 0)∨
  ∃g nc c,v= .slice (some ⟨g,0,none⟩) n nc∧n≤nc∧0<nc∧A1.blk g=none∧A.blk g=some (.cells c e (0,0))∧c.size=nc*es∧c.toList.take (n*es)=cs)
theorem br.nil(A1 A:aa)(es:Nat)(e:TypeId):br A1 A es e 0 (.slice none 0 0) []:=⟨by simp,.inl ⟨rfl,rfl⟩⟩
theorem br.ck{A1 A A':aa}{es:Nat}{e:TypeId}{n:Nat}{v:Value}{cs:List Value}(h:br A1 A es e n v cs)(hk:∀k,A1.blk k=none→A'.blk k=A.blk k):br A1 A' es e n v cs:=by
 obtain⟨h1,h2|⟨g,nc,c,h3,h4,h4',h5,h6,h7,h8⟩⟩:=h
 ·exact⟨h1,.inl h2⟩
 ·exact⟨h1,.inr ⟨g,nc,c,h3,h4,h4',h5,by rw [hk g h5];exact h6,h7,h8⟩⟩
theorem br.sub{A1 A A':aa}{es:Nat}{e:TypeId}{n:Nat}{v:Value}{cs:List Value}(h:br A1 A es e n v cs)(hk:A.Sub A'):br A1 A' es e n v cs:=by
 obtain⟨h1,h2|⟨g,nc,c,h3,h4,h4',h5,h6,h7,h8⟩⟩:=h
 ·exact⟨h1,.inl h2⟩
 ·exact⟨h1,.inr ⟨g,nc,c,h3,h4,h4',h5,hk g _ h6,h7,h8⟩⟩
structure GrowP(A:aa)(base:Option (Nat×Nat))(n c es bytes:Nat)(cs:List Value):Prop where
 rd:jF A base (n*es)=some cs
 cap:c<n+1→Builtin.nextslicecap (n+1) c*bytes≤281474976710656
 none_:base=none→n=0∧c=0
 room:∀(m:Nat),m=es→∀g o,base=some (g,o)→n+1≤c→A.Room g (o+n*es) m
theorem br.form{A1 A:aa}{es:Nat}{e:TypeId}{n:Nat}{v:Value}{cs:List Value}(h:br A1 A es e n v cs):
  ∃base c,v= .slice (cq base) n c∧(base=none∨∃g,base=some (g,0))∧(∀bytes,bytes≤65536→n≤1000000000→GrowP A base n c es bytes cs)∧
  ∀ys v' A',ys.length=es→(∀k,A.blk k=none→A1.blk k=none)→jk A base n c es e cs ys 1 v' A'→br A1 A' es e (n+1) v' (cs++ys)∧∀k o,A1.blk k=some o→A'.blk k=A.blk k:=by
 obtain⟨hl,⟨rfl,rfl⟩|⟨g,nc,c,rfl,hn,hpos,hg,hb,hsz,ht⟩⟩:=h
 ·have hcs:cs= []:=List.length_eq_zero_iff.1 (by rw [hl];simp)
  subst hcs;refine⟨none,0,rfl,.inl rfl,fun bytes hby hn=>⟨by simp [jF],fun h=> ?_,fun _=>⟨rfl,rfl⟩,fun _ _ _ _ h=>(by cases h)⟩,fun ys v' A' hy hd ha=> ?_⟩
  ·have:=fF h
   calc _≤(2*(0+1)+768)*65536:=Nat.mul_le_mul this hby
    _≤_:=by omega
  ·rcases ha with⟨h0,_⟩|⟨_,g,nc,c,zs,rfl,hnc,hc,hz,hN⟩
   ·omega
   ·refine⟨⟨by simp [hy],.inr ⟨g,nc,c,rfl,hnc,by omega,hd g hN.none_,hN.at_,?_,?_⟩⟩,fun k o hk=>hN.other k fun e=>(by subst e;rw [hd _ hN.none_]at hk;cases hk)⟩
    ·rw [←Array.length_toList,hc]
     simp only [List.nil_append,List.length_append,hy,hz,Nat.zero_add];have:nc=(nc-1)+1:=by omega
     rw [show nc*es=((nc-1)+1)*es by rw [←this],Nat.succ_mul];omega
    ·rw [hc];simp [hy]
 ·have hle:n*es≤nc*es:=Nat.mul_le_mul_right _ hn
  refine⟨some (g,0),nc,rfl,.inr ⟨g,rfl⟩,fun bytes hby hnb=>⟨?_,fun h=> ?_,fun h=>(by cases h),fun m hm g' o' h hlt=> ?_⟩,fun ys v' A' hy hd ha=> ?_⟩
  ·show(if n*es=0 then some []else A.rd g 0 (n*es))=some cs
   by_cases h0:n*es=0
   ·rw [if_pos h0]
    rw [h0]at hl;rw [List.length_eq_zero_iff.1 hl]
   ·rw [if_neg h0,rd_mk hb (by omega)];simp [ht]
  ·have:=fF h
   calc _≤(2*(n+1)+768)*65536:=Nat.mul_le_mul this hby
    _≤_:=by omega
  ·injection h with h;injection h with h1 h2;subst h1;subst h2;subst hm
   refine⟨c,e,(0,0),hb,?_,.inl rfl⟩;have:=Nat.mul_le_mul_right m hlt;rw [Nat.succ_mul]at this;omega
  ·rcases ha with⟨h0,rfl,h3⟩|⟨h0,g',nc',c',zs,rfl,hnc,hc,hz,hN⟩
   ·obtain⟨c',k1,k2,k3⟩:∃c',A'.blk g=some (.cells c' e (0,0))∧(∀k,k≠g→A'.blk k=A.blk k)∧c'.toList=c.toList.take (n*es)++ys++c.toList.drop (n*es+ys.length):=by
      rcases h3 with⟨rfl,rfl⟩|⟨g',o',h,hP⟩
      ·exact⟨c,hb,fun _ _=>rfl,by simp⟩
      ·injection h with h;injection h with h1 h2;subst h1;subst h2
       obtain⟨c0,t0,fz0,c',k1,k2,k3⟩:=hP.at_;rw [hb]at k1;injection k1 with k1;injection k1 with k1 k1' k1''
       subst k1;subst k1';subst k1''
       exact⟨c',k2,hP.other,by rw [k3];simp⟩
    have hlen:n*es+es≤nc*es:=by rw [←Nat.succ_mul];exact Nat.mul_le_mul_right _ h0
    refine⟨⟨by simp [hl,hy,Nat.succ_mul],.inr ⟨g,nc,c',rfl,h0,hpos,hg,k1,?_,?_⟩⟩,fun k o hk=>k2 k fun e=>(by subst e;rw [hg]at hk;cases hk)⟩
    ·rw [←Array.length_toList,k3]
     simp only [List.length_append,List.length_take,List.length_drop,Array.length_toList,hsz,hy];omega
    ·rw [k3,ht]
     rw [List.take_append_of_le_length (by simp [hl,hy,Nat.succ_mul])];rw [List.take_of_length_le (by simp [hl,hy,Nat.succ_mul])]
   ·refine⟨⟨by simp [hl,hy,Nat.succ_mul],.inr ⟨g',nc',c',rfl,hnc,by omega,hd g' hN.none_,hN.at_,?_,?_⟩⟩,fun k o hk=>hN.other k fun e=>(by subst e;rw [hd _ hN.none_]at hk;cases hk)⟩
    ·rw [←Array.length_toList,hc]
     simp only [List.length_append,hl,hy,hz];obtain⟨d,rfl⟩:∃d,nc'=(n+1)+d:=⟨nc'-(n+1),by omega⟩;rw [Nat.add_sub_cancel_left,Nat.add_mul,Nat.add_mul];omega
    ·rw [hc]
     rw [List.take_append_of_le_length (by simp [hl,hy,Nat.succ_mul])];rw [List.take_of_length_le (by simp [hl,hy,Nat.succ_mul])]
end
end Go.Sx
namespace Go.Proofs.YtmmlhdiejkknnaaGreatDoor
open Go.Sx Go.RowKit
noncomputable section
open Classical
def aW:aF:=⟨[(eV,⟨[],⟨0,0,0,0,0,0,0,0,0,0⟩⟩)], []⟩
def alTree:TypeId→Bool:=fun t=>Nat.beq t 98||Nat.beq t 102
def newS:aY:=⟨Unit,fun _ vs _=>vs= [],
 fun _ _ A v A'=>∃t O,v= .pointer (some ⟨t,0,none⟩)∧ba A' aa.void O t aW∧A.Sub A'∧∀k,O k→A.blk k=none⟩
theorem new_ok:FOk Tryz.prog 9 newS:=by
 refine oO mixed alTree fun _ vs A hp=> ?_
 obtain rfl:vs= []:=hp;refine⟨noC,noL,60,aA _,az _,fun blk os out tape D hD=> ?_⟩;conv=>lhs;whnf
 refine(hD _).2 fun m A1 hm hA1 hM1=> ?_
 conv=>lhs;whnf
 refine(hD _).2 fun g A2 hN2=> ?_
 have hN2:A1.New A2 g #[.slice none 0 0,.int .i64 0,.int .i64 0,.int .i64 0,.int .i64 0,.int .i64 0,.int .i64 0,.int .i64 0,.int .i64 0,.int .i64 0,.int .i64 0] 98:=hN2;have hM2:bH A2 m []:=hM1.sub fun o ho=>hN2.sub m o ho
 conv=>lhs;whnf
 refine(hD _).2 ⟨[],hM2,fun e he=>(by cases he),fun A3 hM3 hA3=> ?_⟩;have hM3:bH A3 m [(.string eV,iV g)]:=hM3;have hA3:∀k,k≠m→A3.blk k=A2.blk k:=hA3;conv=>lhs;whnf
 refine(hD _).2 fun s A4 hs hA4 hM4=> ?_
 have hs:A3.blk s=none:=hs;have hA4:∀k,k≠s→A4.blk k=A3.blk k:=hA4;conv=>lhs;whnf
 refine(hD _).2 fun t A5 hN5=> ?_
 have hN5:A4.New A5 t #[.map (some m),.map (some s)] 102:=hN5;conv=>lhs;whnf
 have hm:A.blk m=none:=hm;have hA1:∀k,k≠m→A1.blk k=A.blk k:=hA1
 have map_:∀ {X:aa} {k:Nat} {l:List (Value×Value)},bH X k l→X.blk k≠none:=fun {X k l} h hn=>by
  obtain⟨es,cl,h9,_⟩:=h;rw [h9]at hn;cases hn
 have gm:g≠m:=fun e=>by subst e;exact map_ hM1 hN2.none_
 have sm:s≠m:=fun e=>by subst e;exact map_ hM3 hs
 have sg:s≠g:=fun e=>by subst e;rw [hA3 _ gm,hN2.at_]at hs;cases hs
 have hm4:bH A4 m [(.string eV,iV g)]:=hM3.sub fun o ho=>by rw [hA4 _ fun e=>sm e.symm];exact ho
 have hg4:A4.blk g=some (.cells #[.slice none 0 0,.int .i64 0,.int .i64 0,.int .i64 0,.int .i64 0,.int .i64 0,.int .i64 0,.int .i64 0,.int .i64 0,.int .i64 0,.int .i64 0] 98 (0,0)):=by
  rw [hA4 _ fun e=>sg e.symm,hA3 _ gm];exact hN2.at_
 have tm:t≠m:=fun e=>by subst e;exact map_ hm4 hN5.none_
 have ts:t≠s:=fun e=>by subst e;exact map_ hM4 hN5.none_
 have tg:t≠g:=fun e=>by subst e;have:=hN5.none_;rw [hg4]at this;cases this
 have hm5:bH A5 m [(.string eV,iV g)]:=hm4.sub fun o ho=>hN5.sub _ _ ho
 have hs5:bH A5 s []:=hM4.sub fun o ho=>hN5.sub _ _ ho
 have hg5:=hN5.sub _ _ hg4;have hold:∀k,k≠m→k≠g→k≠s→k≠t→A5.blk k=A.blk k:=fun k h1 h2 h3 h4=>by rw [hN5.other k h4,hA4 k h3,hA3 k h1,hN2.other k h2,hA1 k h1]
 have ag:A.blk g=none:=by rw [←hA1 g gm];exact hN2.none_
 have as_:A.blk s=none:=by rw [←hA1 s sm,←hN2.other s sg,←hA3 s sm];exact hs
 have at_:A.blk t=none:=by rw [←hA1 t tm,←hN2.other t tg,←hA3 t tm,←hA4 t ts];exact hN5.none_
 have hR:cF A5 aa.void (fun k=>k=t∨k=m∨k=s∨k=g) t aW m s [(eV,g,⟨[],⟨0,0,0,0,0,0,0,0,0,0⟩⟩)]:=
  { nodes:=rfl
    top:=aE.new hN5
    nmap:=hm5
    smap:=hs5
    cells:=fun e he=>by
     simp only [List.mem_singleton]at he;subst he;exact⟨.slice none 0 0,⟨_,_,_,hg5,.inl rfl,rfl⟩,Sl.nil _ _,by simp⟩
    keys:=by simp
    ptrs:=by simp
    skeys:=by simp [aW]
    sub:=fun k o hk=>(by cases hk)
    own:=⟨.inl rfl,.inr (.inl rfl),.inr (.inr (.inl rfl)),fun e he=>by
     simp only [List.mem_singleton]at he
     subst he;exact .inr (.inr (.inr rfl))⟩
    off:=fun _ _=>rfl
    live:=fun k hk=>by
     rcases hk with rfl|rfl|rfl|rfl
     ·exact⟨_,hN5.at_⟩
     ·obtain⟨es,cl,h9,_⟩:=hm5;exact⟨_,h9⟩
     ·obtain⟨es,cl,h9,_⟩:=hs5;exact⟨_,h9⟩
     ·exact⟨_,hg5⟩
    ne:=⟨fun e=>sm e.symm,fun e he=>by
     simp only [List.mem_singleton]at he
     subst he;exact fun e=>tg e.symm⟩ }
 have hend:newS.post () [] A (.pointer (some ⟨t,0,none⟩)) A5:=by
  refine⟨t,_,rfl,⟨m,s,_,hR⟩,fun k o hk=> ?_,fun k hk=> ?_⟩
  ·rw [hold k (fun e=>by rw [e,hm]at hk;cases hk) (fun e=>by rw [e,ag]at hk;cases hk) (fun e=>by rw [e,as_]at hk;cases hk) (fun e=>by rw [e,at_]at hk;cases hk)];exact hk
  ·rcases hk with rfl|rfl|rfl|rfl
   ·exact at_
   ·exact hm
   ·exact as_
   ·exact ag
 exact(hD _).2 hend
def Dt(p:ByteArray)(vd:Value)(s:ec):Value:=
 .agg #[.string p,vd,.int .i64 s.czxid,.int .i64 s.mzxid,.int .i64 s.pzxid,.int .i64 s.ctime,.int .i64 s.mtime,.int .i64 s.ver,.int .i64 s.cver,.int .i64 s.owner,.int .i64 s.len,.int .i64 s.kids]
def Ct:aY:=⟨TG×ByteArray×aX×Nat,fun g vs A=>vs= [.pointer (some ⟨g.1.t,0,none⟩),.string g.2.1,.int .i64 g.2.2.2]∧ba A g.1.B g.1.O g.1.t g.1.T∧aG g.2.1 g.1.T.nodes=some g.2.2.1,
 fun g _ A v A'=>A.Sub A'∧∃vd,v=Dt g.2.1 vd { g.2.2.1.stat with len:=g.2.2.1.data.length,kids:=g.2.2.2 } ∧SlB (A'.minus A) vd g.2.2.1.data⟩
theorem told_ok:FOk Tryz.prog 60 Ct:=by
 refine bG mixed fun⟨⟨T,B,O,t⟩,p,n,c⟩ vs A hp=> ?_
 obtain⟨rfl,⟨m,s,E,h⟩,hk⟩:vs= [.pointer (some ⟨t,0,none⟩),.string p,.int .i64 c]∧ba A B O t T∧aG p T.nodes=some n:=hp
 have hCt:aI Tryz.prog (bQ [aM 76 cX] noC):=aD (aA _) (fun x hx=>by
  simp only [List.mem_singleton]at hx
  subst hx;exact au df)
 refine⟨_,noL,60,hCt,az _,fun blk os out tape D hD=> ?_⟩;have htop:A.rd t 0 1=some [.map (some m)]:=h.top.rd (o:=0) (n:=1) (by show 0+1≤2;omega)
 obtain⟨⟨g,n'⟩,hkE,rfl⟩:∃x,aG p E=some x∧x.2=n:=by
  rw [h.get]at hk
  cases hE:aG p E with
  |none=>rw [hE]at hk;cases hk
  |some x=>rw [hE]at hk;exact⟨x,rfl,by injection hk⟩
 have hmem:=gV (en _) hkE;obtain⟨w,hc,hs⟩:=h.cells _ hmem;have hlk:A.look m (.string p)=some (some (.pointer (some ⟨g,0,none⟩))):=by rw [h.look,hkE];rfl
 obtain⟨aw,kw,rfl⟩:=hs.1.form;have hrdn:A.rd g 0 1=some [.slice aw n'.data.length kw]:=hc.rd (o:=0) (n:=1) (by show 0+1≤11;omega);have hrds:A.rd g 1 10=some n'.stat.cells:=hc.rd (o:=1) (n:=10) (by show 1+10≤11;omega);have hend:∀(v:Value) (A':aa),A.Sub A'→SlB (A'.minus A) v n'.data→Ct.post (⟨T,B,O,t⟩,p,n',c) [.pointer (some ⟨t,0,none⟩),.string p,.int .i64 c] A (Dt p v { n'.stat with len:=n'.data.length,kids:=c }) A':=fun v A' h1 h2=>⟨h1,v,rfl,h2⟩
 conv=>lhs;whnf
 repeat(first|refine ai htop ?_|refine cW hlk ?_|refine ai hrdn ?_|refine ai hrds ?_|refine aj hD rfl ?_
        conv=>lhs;whnf)
 refine gB ?_ ?_
 ·refine(hD _).2 ⟨n'.data,⟨_,rfl,hs.sub h.sub⟩,fun v A' hq=> ?_⟩
  obtain⟨hsub,hS⟩:A.Sub A'∧SlB (A'.minus A) v n'.data:=hq;obtain⟨a,k,rfl⟩:=hS.1.form;have h1:=bI hsub htop;have h2:=bI hsub hrdn;have h3:=bI hsub hrds
  have h4:A'.look m (.string p)=some (some (.pointer (some ⟨g,0,none⟩))):=by
   rw [kB (h.nmap.sub fun o ho=>hsub _ _ ho),kD,hkE];rfl
  conv=>lhs;whnf
  repeat(first|refine ai h1 ?_|refine cW h4 ?_|refine ai h2 ?_|refine ai h3 ?_|refine aj hD rfl ?_
         conv=>lhs;whnf)
  exact(hD _).2 (hend _ _ hsub hS)
 ·conv=>lhs;whnf
  repeat(first|refine ai htop ?_|refine cW hlk ?_|refine ai hrdn ?_|refine ai hrds ?_|refine aj hD rfl ?_
         conv=>lhs;whnf)
  refine(hD _).2 ⟨n'.data,⟨_,rfl,hs.sub h.sub⟩,fun v A' hq=> ?_⟩;obtain⟨hsub,hS⟩:A.Sub A'∧SlB (A'.minus A) v n'.data:=hq;obtain⟨a,k,rfl⟩:=hS.1.form;have h1:=bI hsub htop;have h2:=bI hsub hrdn;have h3:=bI hsub hrds
  have h4:A'.look m (.string p)=some (some (.pointer (some ⟨g,0,none⟩))):=by
   rw [kB (h.nmap.sub fun o ho=>hsub _ _ ho),kD,hkE];rfl
  conv=>lhs;whnf
  repeat(first|refine ai h1 ?_|refine cW h4 ?_|refine ai h2 ?_|refine ai h3 ?_|refine aj hD rfl ?_
         conv=>lhs;whnf)
  exact(hD _).2 (hend _ _ hsub hS)
end
end Go.Proofs.YtmmlhdiejkknnaaGreatDoor
namespace Go.Proofs.YtmmlhdiejkknnaaGreatDoor
open Go.Sx Go.RowKit Go.Sort Go.Shelf
noncomputable section
theorem wa{α:Type} [Inhabited α](enc:α→List Value)(k:Nat)(hk:∀x,(enc x).length=k)(hp:0<k):∀(l:List α) (t:Nat),t<l.length*k→(l.flatMap enc)[t]? =(enc (l[t/k]!))[t%k]?
 | [],t,h=>by simp at h
 |x::l,t,h=>by
  rw [List.flatMap_cons]
  by_cases ht:t<k
  ·rw [List.getElem?_append_left (by rw [hk];exact ht),Nat.div_eq_of_lt ht,Nat.mod_eq_of_lt ht];rfl
  ·rw [List.getElem?_append_right (by rw [hk];omega),hk]
   have hlt:t-k<l.length*k:=by
    rw [List.length_cons,Nat.succ_mul]at h;omega
   rw [wa enc k hk hp l (t-k) hlt]
   have e1:t/k=(t-k)/k+1:=by
    rw [Nat.div_eq_sub_div hp (by omega)]
   have e2:t%k=(t-k)%k:=by rw [Nat.mod_eq_sub_mod (by omega)]
   rw [e1,e2];simp
theorem qS{α:Type} [Inhabited α](enc:α→List Value)(k:Nat)(hk:∀x,(enc x).length=k)(hp:0<k)(l:List α):(flatK enc k l.toArray).toList=l.flatMap enc:=by
 have hlen:(l.flatMap enc).length=l.length*k:=by
  induction l with
  |nil=>simp
  |cons x l ih=>rw [List.flatMap_cons,List.length_append,hk,ih,List.length_cons,Nat.succ_mul];omega
 refine List.ext_getElem? fun t=> ?_
 by_cases ht:t<l.length*k
 ·rw [wa enc k hk hp l t ht]
  have hm:t%k<k:=Nat.mod_lt _ hp;simp only [flatK,Array.toList_map,Array.toList_range,List.getElem?_map,List.size_toArray];rw [List.getElem?_range ht];simp only [Option.map_some,List.getElem!_toArray];rw [List.getElem?_eq_getElem (by rw [hk];exact hm)];congr 1;rw [List.getElem!_eq_getElem?_getD,List.getElem?_eq_getElem (by rw [hk];exact hm)];rfl
 ·rw [List.getElem?_eq_none (by rw [Array.length_toList,size_flatK,List.size_toArray];omega),List.getElem?_eq_none (by rw [hlen];omega)]
theorem uX{β:Type} [Inhabited β](enc:β→Value)(d:Array β)(c:Array Value)(h:d.size≤c.size):(putCells enc 0 d c).toList=c.toList.take 0++d.toList.map enc++c.toList.drop (0+(d.toList.map enc).length):=by
 obtain⟨d⟩:=d;have h:d.length≤c.size:=h;refine List.ext_getElem? fun k=> ?_
 simp only [putCells,Array.toList_mapIdx,List.getElem?_mapIdx,List.take_zero,List.nil_append,List.length_map,Nat.zero_add,Nat.zero_le,true_and,List.size_toArray,Nat.sub_zero]
 by_cases hk:k<d.length
 ·rw [List.getElem?_append_left (by simpa using hk),List.getElem?_map,List.getElem?_eq_getElem hk]
  have hkc:k<c.toList.length:=Nat.lt_of_lt_of_le hk h;have h1:c.toList[k]? =some c.toList[k]:=List.getElem?_eq_getElem hkc;rw [h1];simp [hk]
 ·rw [List.getElem?_append_right (by simpa using Nat.le_of_not_lt hk),List.length_map,List.getElem?_drop,Nat.add_sub_cancel' (Nat.le_of_not_lt hk)]
  cases c.toList[k]? <;>simp [hk]
theorem AD{β:Type} [Inhabited β](enc:β→Value){A:aa}{w w':World}(hA:∀k o,A.blk k=some o→w.heap[k]? =some o){g:Nat}{c:Array Value}{t:TypeId}{fz:Nat×Nat}(hb:A.blk g=some (.cells c t fz)){arr:Array β}(hd:arr.size≤c.size){n:Nat}{os:Array Obj}
  (k2:w'=grow (putRow enc (Sort.ahead w n) g 0 arr) os):∃A',A.Put A' g 0 (arr.toList.map enc)∧z1 A A' w w':=by
 subst k2;have hw:=hA _ _ hb;have hsz:g<w.heap.size:=(Array.getElem?_eq_some_iff.1 hw).1;refine⟨aa.of (fun k=>if k=g then some (.cells (putCells enc 0 arr c) t fz)else A.blk k),⟨⟨c,t,fz,_,hb,if_pos rfl,uX enc arr c hd⟩,fun k hk=>if_neg hk⟩,?_⟩
 have at_:∀k,k<w.heap.size→(grow (putRow enc (Sort.ahead w n) g 0 arr) os).heap[k]? =if k=g then some (.cells (putCells enc 0 arr c) t fz)else w.heap[k]? :=fun k hk=>by
  show(((w.heap.modify g (onCells (putCells enc 0 arr)))++os)[k]?)=_
  rw [Array.getElem?_append_left (by simpa using hk),Array.getElem?_modify]
  by_cases e:k=g
  ·subst e;rw [if_pos rfl,if_pos rfl,hw];rfl
  ·rw [if_neg (fun h=>e h.symm),if_neg e]
 have lt_:∀k o,A.blk k=some o→k<w.heap.size:=fun k o hk=>(Array.getElem?_eq_some_iff.1 (hA k o hk)).1
 refine⟨rfl,rfl,rfl,fun k hk hks=> ?_,fun k o hk=> ?_,fun k o hk=> ?_⟩
 ·rw [at_ k hks,if_neg fun e=>(by rw [e,hb]at hk;cases hk)]
 ·have hk:(if k=g then some (Obj.cells (putCells enc 0 arr c) t fz)else A.blk k)=some o:=hk
  by_cases e:k=g
  ·rw [if_pos e]at hk
   rw [at_ k (e▸hsz),if_pos e,hk]
  ·rw [if_neg e]at hk
   rw [at_ k (lt_ k o hk),if_neg e];exact hA k o hk
 ·have hk:(if k=g then some (Obj.cells (putCells enc 0 arr c) t fz)else A.blk k)=some o:=hk
  by_cases e:k=g
  ·exact .inl ⟨_,e▸hb⟩
  ·rw [if_neg e]at hk;exact .inl ⟨o,hk⟩
def sfRen:Go.Shelf.Ren:=⟨fun|6=>61|15=>124|14=>123|28=>198|29=>199|20=>190|21=>191|22=>192|23=>193|24=>194|25=>195|26=>196|27=>197|46=>258|47=>259|48=>260|49=>261|50=>262|57=>283|n=>n,fun|22=>38|24=>105|25=>113|3=>3|39=>189|0=>0|53=>205|55=>199|4=>4|46=>256|45=>255|50=>260|5=>5|9=>9|66=>344|70=>348|76=>365|77=>366|n=>n,fun|n=>n⟩
theorem CG:SlLaysF0.n6 Tryz.prog sfRen where
 mixed:=by kernel_rfl
 f6:=⟨"slices.SortFunc[[]beadle/api.Sitting,beadle/api.Sitting]",by decide,Tryz.func61.trans (congrArg some (by kernel_rfl))⟩
 f14:=⟨"slices.pdqsortCmpFunc[beadle/api.Sitting]",by decide,Tryz.func123.trans (congrArg some (by kernel_rfl))⟩
 f15:=Tryz.func124.trans (congrArg some (by kernel_rfl))
 f20:=⟨"slices.insertionSortCmpFunc[beadle/api.Sitting]",by decide,Tryz.func190.trans (congrArg some (by kernel_rfl))⟩
 f21:=⟨"slices.heapSortCmpFunc[beadle/api.Sitting]",by decide,Tryz.func191.trans (congrArg some (by kernel_rfl))⟩
 f22:=⟨"slices.breakPatternsCmpFunc[beadle/api.Sitting]",by decide,Tryz.func192.trans (congrArg some (by kernel_rfl))⟩
 f23:=⟨"slices.choosePivotCmpFunc[beadle/api.Sitting]",by decide,Tryz.func193.trans (congrArg some (by kernel_rfl))⟩
 f24:=⟨"slices.reverseRangeCmpFunc[beadle/api.Sitting]",by decide,Tryz.func194.trans (congrArg some (by kernel_rfl))⟩
 f25:=⟨"slices.partialInsertionSortCmpFunc[beadle/api.Sitting]",by decide,Tryz.func195.trans (congrArg some (by kernel_rfl))⟩
 f26:=⟨"slices.partitionEqualCmpFunc[beadle/api.Sitting]",by decide,Tryz.func196.trans (congrArg some (by kernel_rfl))⟩
 f27:=⟨"slices.partitionCmpFunc[beadle/api.Sitting]",by decide,Tryz.func197.trans (congrArg some (by kernel_rfl))⟩
 f28:=Tryz.func198.trans (congrArg some (by kernel_rfl))
 f29:=Tryz.func199.trans (congrArg some (by kernel_rfl))
 f46:=⟨"slices.siftDownCmpFunc[beadle/api.Sitting]",by decide,Tryz.func258.trans (congrArg some (by kernel_rfl))⟩
 f47:=Tryz.func259.trans (congrArg some (by kernel_rfl))
 f48:=Tryz.func260.trans (congrArg some (by kernel_rfl))
 f49:=⟨"slices.medianAdjacentCmpFunc[beadle/api.Sitting]",by decide,Tryz.func261.trans (congrArg some (by kernel_rfl))⟩
 f50:=⟨"slices.medianCmpFunc[beadle/api.Sitting]",by decide,Tryz.func262.trans (congrArg some (by kernel_rfl))⟩
 f57:=⟨"slices.order2CmpFunc[beadle/api.Sitting]",by decide,Tryz.func283.trans (congrArg some (by kernel_rfl))⟩
 t0:=Tryz.underlying0
 a0:=Tryz.isAgg0
 z0:=Tryz.sizeOf0
 v0:=Tryz.zeroValue0
 t3:=Tryz.underlying3
 a3:=Tryz.isAgg3
 z3:=Tryz.sizeOf3
 v3:=Tryz.zeroValue3
 t4:=Tryz.underlying4
 a4:=Tryz.isAgg4
 z4:=Tryz.sizeOf4
 v4:=Tryz.zeroValue4
 t5:=Tryz.underlying5
 a5:=Tryz.isAgg5
 z5:=Tryz.sizeOf5
 v5:=Tryz.zeroValue5
 t9:=Tryz.underlying9
 a9:=Tryz.isAgg9
 z9:=Tryz.sizeOf9
 v9:=Tryz.zeroValue9
 t22:=Tryz.underlying38
 a22:=Tryz.isAgg38
 z22:=Tryz.sizeOf38
 v22:=Tryz.zeroValue38
 t25:=Tryz.underlying113
 a25:=Tryz.isAgg113
 z25:=Tryz.sizeOf113
 v25:=Tryz.zeroValue113
 t39:=Tryz.underlying189
 a39:=Tryz.isAgg189
 z39:=Tryz.sizeOf189
 v39:=Tryz.zeroValue189
 t45:=Tryz.underlying255
 a45:=Tryz.isAgg255
 z45:=Tryz.sizeOf255
 v45:=Tryz.zeroValue255
 t46:=Tryz.underlying256
 a46:=Tryz.isAgg256
 z46:=Tryz.sizeOf256
 v46:=Tryz.zeroValue256
 t50:=Tryz.underlying260
 a50:=Tryz.isAgg260
 z50:=Tryz.sizeOf260
 v50:=Tryz.zeroValue260
 t53:=Tryz.underlying205
 a53:=Tryz.isAgg205
 z53:=Tryz.sizeOf205
 v53:=Tryz.zeroValue205
 t55:=Tryz.underlying199
 a55:=Tryz.isAgg199
 z55:=Tryz.sizeOf199
 v55:=Tryz.zeroValue199
 t66:=Tryz.underlying344
 a66:=Tryz.isAgg344
 z66:=Tryz.sizeOf344
 v66:=Tryz.zeroValue344
 t70:=Tryz.underlying348
 a70:=Tryz.isAgg348
 z70:=Tryz.sizeOf348
 v70:=Tryz.zeroValue348
 t76:=Tryz.underlying365
 a76:=Tryz.isAgg365
 z76:=Tryz.sizeOf365
 v76:=Tryz.zeroValue365
 t77:=Tryz.underlying366
 a77:=Tryz.isAgg366
 z77:=Tryz.sizeOf366
 v77:=Tryz.zeroValue366
instance :Inhabited bn:=⟨⟨0,0,0⟩⟩
def cfI(x y:Int):Int:=if x<y then-1 else 1
def ev(ks:List Int):List Int:=ks.mergeSort fun x y=> !(ltOf cfI) y x
theorem kA(x y:Int):ltOf cfI x y=decide (x<y):=by
 unfold ltOf cfI
 by_cases h:x<y<;>simp [h]
theorem swo_cfI:SWO (ltOf cfI):=⟨fun x=>by simp [kA],fun x y z h1 h2=>by
 simp only [kA,decide_eq_true_eq]at*;omega,fun x y z h1 h2=>by
 simp only [kA,decide_eq_false_iff_not]at*;omega⟩
theorem pW(ks:List Int):ev ks=ks.mergeSort fun x y=>decide (x≤y):=by
 unfold ev;congr 1
 funext x y
 rw [kA]
 by_cases h:y<x
 ·have h2:¬x≤y:=by omega
  simp [h,h2]
 ·have h2:x≤y:=by omega
  simp [h,h2]
theorem gz(ks:List Int):(ev ks).length=ks.length:=List.length_mergeSort _
theorem fA(ks:List Int):(ev ks).Perm ks:=List.mergeSort_perm _ _
theorem cmpSit(x y:bn)(W:World):Calls Tryz.prog 62 #[.agg (cz x).toArray,.agg (cz y).toArray] W fun e w'=>e= .returned (.int .i64 (cfI x.ses y.ses))∧∃q os',w'=grow (W.drewN q) os':=by
 obtain⟨a,b,c⟩:=x;obtain⟨a',b',c'⟩:=y;simp only [cz]
 by_cases h:a<a'
 ·have hc:cfI a a'= -1:=if_pos h
  rw [hc]
  go_enter Tryz.func62,Tryz.ntmps62
  go_wp2
  go_ret
  exact⟨rfl,0,_,by rw [alloc_eq_grow,alloc_eq_grow,grow_grow];rfl⟩
 ·have hc:cfI a a'=1:=if_neg h
  rw [hc]
  go_enter Tryz.func62,Tryz.ntmps62
  go_wp2
  go_ret
  exact⟨rfl,0,_,by rw [alloc_eq_grow,alloc_eq_grow,grow_grow];rfl⟩
def cmpV:Value:= .func (.func 62) #[] #[]
def pU:aY:=⟨Nat×(Int→bn)×List Int,fun g vs A=>(∀s,(g.2.1 s).ses=s)∧((g.2.2= []∧∃p cap,vs= [.slice p 0 cap,cmpV])∨
  (g.2.2≠ []∧g.2.2.length<4611686018427387904∧A.Room g.1 0 (g.2.2.length*3)∧A.rd g.1 0 (g.2.2.length*3)=some (g.2.2.flatMap fun s=>cz (g.2.1 s))∧∃cap,vs= [.slice (some ⟨g.1,0,none⟩) g.2.2.length cap,cmpV])),
 fun g _ A _ A'=>(g.2.2= []→A'=A)∧(g.2.2≠ []→A.Put A' g.1 0 ((ev g.2.2).flatMap fun s=>cz (g.2.1 s)))⟩
theorem xj:FOk Tryz.prog 61 pU:=by
 intro⟨g,gf,ks⟩ vs A w hA hp;refine eE Tryz.func61 ⟨by kernel_rfl,by kernel_rfl⟩ ?_;obtain⟨hs,hp⟩:=hp;rcases hp with⟨h0,p,cap,rfl⟩|⟨h0,hlt,⟨c,t,fz,hb,hle,hfz⟩,hr,cap,rfl⟩
 ·intro cs
  obtain⟨e,w',fr,⟨k1,k2⟩,k3⟩:=AnyF.slices_SortFunc_none CG p cap cmpV w cs;subst k2;exact⟨e,w',fr,⟨_,k1,A,⟨fun _=>rfl,fun h=>absurd h0 h⟩,rfl,rfl,rfl,fun _ _ _=>rfl,hA,fun k o ho=> .inl ⟨o,ho⟩⟩,k3⟩
 ·dsimp only at hs h0 hlt hle hr hb hfz
  have hw:=hA _ _ hb;have hsz:g<w.heap.size:=(Array.getElem?_eq_some_iff.1 hw).1;have hk3:∀x:Int,(cz (gf x)).length=3:=fun _=>rfl
  have hfl:=qS (fun s=>cz (gf s)) 3 hk3 (by omega) ks;have hfs:(flatK (fun s=>cz (gf s)) 3 ks.toArray).size=ks.length*3:=by rw [size_flatK];simp
  have hH:HoldsK (fun s=>cz (gf s)) 3 w g 0 ks.toArray:=fun j hj=>by
   have hj':j<ks.length*3:=by rw [hfs]at hj;exact hj
   constructor
   ·have hr':(c.toList.drop 0).take (ks.length*3)=ks.flatMap fun s=>cz (gf s):=by
      rw [A.rdeq]at hr;unfold xz at hr;rw [hb]at hr;simp only at hr;rw [if_pos (by omega)]at hr;injection hr
    have h3:((c.toList.drop 0).take (ks.length*3))[j]? =(flatK (fun s=>cz (gf s)) 3 ks.toArray).toList[j]? :=by rw [hr',hfl]
    rw [List.drop_zero,List.getElem?_take,if_pos hj']at h3;unfold World.cell?;rw [hw];simp only [Option.isSome_none,Bool.false_eq_true,if_false,Nat.zero_add];rw [←Array.getElem?_toList,h3,Array.getElem?_toList,Array.getElem?_eq_getElem hj,getElem!_pos (flatK (fun s=>cz (gf s)) 3 ks.toArray) j hj];rfl
   ·unfold World.frozen?
    rw [hw];have h9:=hfz.not (0+j) (by omega);obtain⟨lo,hi⟩:=fz;dsimp only at h9 ⊢;rw [←Bool.decide_and];exact decide_eq_false h9
  intro cs
  have hcon:=AnyQ.slices_SortFunc_total CG 3 Tryz.isAgg105 Tryz.sizeOf105 (fun s=>cz (gf s)) hk3 (fun x v hv=>by
   simp only [cz,List.mem_cons,List.not_mem_nil,or_false]at hv
   rcases hv with rfl|rfl|rfl<;>rfl) cfI swo_cfI 62 #[] g 0 cap ks.toArray w
   (enters_of Tryz.func62 (by kernel_rfl) rfl)
   (fun m os dk _ x y=>by
     have:=cmpSit (gf x) (gf y) (sortWorldK (fun s=>cz (gf s)) 3 w g 0 m dk os);rw [hs,hs]at this
     exact this) hH hsz (by simpa using hlt) (fun x y h1 h2=>by
     simp only [kA,decide_eq_false_iff_not]at h1 h2
     omega)
  rw [List.size_toArray]at hcon;obtain⟨e,w',fr,⟨k1,n,os,k2⟩,k3⟩:=hcon cs;have k2:w'=grow (putRow id (Sort.ahead w n) g 0 (flatK (fun s=>cz (gf s)) 3 (ev ks).toArray)) os:=k2;obtain⟨A',hP,hM⟩:=AD id hA hb (by rw [size_flatK,List.size_toArray,gz];omega) k2;rw [List.map_id,qS (fun s=>cz (gf s)) 3 hk3 (by omega)]at hP;exact⟨e,w',fr,⟨_,k1,A',⟨fun h=>absurd h h0,fun _=>hP⟩,hM⟩,k3⟩
end
end Go.Proofs.YtmmlhdiejkknnaaGreatDoor
namespace Go.Sx
noncomputable section
theorem iF{α:Type} :∀ {l k:List α},l.Nodup→(∀x∈l,x∈k)→l.length≤k.length
 | [],_,_,_=>Nat.zero_le _
 |x::xs,k,hn,hs=>by
  rw [List.nodup_cons]at hn;obtain⟨a,b,rfl⟩:=List.append_of_mem (hs x (by simp))
  have:=iF (k:=a++b) hn.2 fun y hy=>(by
   have:=hs y (List.mem_cons_of_mem _ hy);simp only [List.mem_append,List.mem_cons]at this ⊢;rcases this with h|rfl|h
   ·exact .inl h
   ·exact absurd hy hn.1
   ·exact .inr h)
  simp only [List.length_append,List.length_cons]at this ⊢;omega
theorem jy{κ α:Type}{l:List (κ×α)}(h:(l.map (·.1)).Nodup):l.Nodup:=
 (List.pairwise_map.1 h).imp fun hab e=>hab (by rw [e])
structure ed{κ α:Type}(kv:κ→Value)(f:α→Value)(A A1 As:aa)(i m:Nat)(l sk:List (κ×α)):Prop where
 old:A.Sub As
 dom:∀k,As.blk k=none→A1.blk k=none
 it:hZ As i m (l.map fun e=>(kv e.1,f e.2)) (sk.map fun e=>kv e.1)
 nd:(sk.map (·.1)).Nodup
 mem:∀e∈sk,e∈l
 fresh:A.blk i=none
 sub1:A.Sub A1
 iex:∃o,A1.blk i=some o
 mex:∃o,A1.blk m=some o
section
variable {κ α:Type} {kv:κ→Value} {f:α→Value} {A A1 As A':aa} {i m:Nat} {l sk:List (κ×α)}
theorem ed.start(hi:A.blk i=none)(hA1:∀k,k≠i→A1.blk k=A.blk k)(hI:hZ A1 i m (l.map fun e=>(kv e.1,f e.2)) []):ed kv f A A1 A1 i m l [] where
 old:=fun k o hk=>by rw [hA1 k fun e=>by subst e;rw [hi]at hk;cases hk];exact hk
 dom:=fun _ h=>h
 it:=hI
 nd:=List.nodup_nil
 mem:=fun _ h=>by cases h
 fresh:=hi
 sub1:=fun k o hk=>by rw [hA1 k fun e=>by subst e;rw [hi]at hk;cases hk];exact hk
 iex:=by
  obtain⟨es,clock,seen,h1,h2,h3,h4,h5,h6,h7⟩:=hI;exact⟨_,h6⟩
 mex:=by
  obtain⟨es,clock,seen,h1,h2,h3,h4,h5,h6,h7⟩:=hI;exact⟨_,h1⟩
theorem ed.next(h:ed kv f A A1 As i m l sk){e:Value×Value}(he:e∈l.map fun e=>(kv e.1,f e.2))(hn:e.1∉sk.map fun e=>kv e.1)
  (hA2:∀b,b≠i→A'.blk b=As.blk b) (hI2:hZ A' i m (l.map fun e=>(kv e.1,f e.2)) ((sk.map fun e=>kv e.1)++ [e.1])):
  ∃x∈l,e=(kv x.1,f x.2)∧x.1∉sk.map (·.1)∧ed kv f A A1 A' i m l (sk++ [x])∧sk.length<l.length:=by
 obtain⟨x,hx,rfl⟩:=List.mem_map.1 he
 have hns:x.1∉sk.map (·.1):=fun hh=>by
  obtain⟨y,hy,e⟩:=List.mem_map.1 hh;exact hn (List.mem_map.2 ⟨y,hy,by rw [e]⟩)
 have hnd:((sk++ [x]).map (·.1)).Nodup:=by
  rw [List.map_append];refine List.nodup_append.2 ⟨h.nd,by simp,fun a ha b hb=> ?_⟩;simp only [List.map_cons,List.map_nil,List.mem_singleton]at hb;subst hb;exact fun e=>hns (e▸ha)
 have hmem:∀e∈sk++ [x],e∈l:=fun e he=>by
  rcases List.mem_append.1 he with he|he
  ·exact h.mem e he
  ·simp only [List.mem_singleton]at he;subst he;exact hx
 have hlen:=iF (jy hnd) hmem;rw [List.length_append,List.length_singleton]at hlen;refine⟨x,hx,rfl,hns, { h with old:=fun k o hk=> ?_,dom:=fun k hk=> ?_,it:= ?_,nd:=hnd,mem:=hmem },by omega⟩
 ·rw [hA2 k fun e=>by subst e;rw [h.fresh]at hk;cases hk];exact h.old k o hk
 ·by_cases e:k=i
  ·subst e
   obtain⟨es,clock,seen,h1,h2,h3,h4,h5,h6,h7⟩:=hI2;rw [h6]at hk;cases hk
  ·rw [hA2 k e]at hk;exact h.dom k hk
 ·rw [List.map_append];exact hI2
theorem ed.more(h:ed kv f A A1 As i m l sk)(hk:∀k o,A1.blk k=some o→A'.blk k=As.blk k):ed kv f A A1 A' i m l sk:=
 { h with
   old:=fun k o ho=>by rw [hk k o (h.sub1 k o ho)];exact h.old k o ho
   dom:=fun k hn=>by
    cases h1:A1.blk k with
    |none=>rfl
    |some o=>rw [hk k o h1]at hn;rw [h.dom k hn]at h1;cases h1
   it:=h.it.sub fun b o hb ho=>by
    rcases hb with rfl|rfl
    ·rw [hk _ _ h.iex.choose_spec];exact ho
    ·rw [hk _ _ h.mex.choose_spec];exact ho }
theorem ed.sub(h:ed kv f A A1 As i m l sk)(hs:As.Sub A'):ed kv f A A1 A' i m l sk:=
 { h with
   old:=h.old.trans hs
   dom:=fun k hk=>h.dom k (by
    cases h8:As.blk k with
    |none=>rfl
    |some o=>rw [hs k o h8]at hk;cases hk)
   it:=h.it.sub fun b o _ hb=>hs b o hb }
theorem ed.done(h:ed kv f A A1 As i m l sk)(inj:∀a b,kv a=kv b→a=b)(hl:(l.map (·.1)).Nodup)(hall:∀e∈l.map fun e=>(kv e.1,f e.2),e.1∈sk.map fun e=>kv e.1):sk.Perm l:=by
 refine(List.perm_ext_iff_of_nodup (jy h.nd) (jy hl)).2 fun x=>⟨h.mem x,fun hx=> ?_⟩
 obtain⟨y,hy,e⟩:=List.mem_map.1 (hall _ (List.mem_map.2 ⟨x,hx,rfl⟩));have e1:y.1=x.1:=inj _ _ e;have hyl:=h.mem y hy
 have:y=x:=by
  obtain⟨a,b,rfl⟩:=List.append_of_mem hx;rw [List.map_append,List.map_cons]at hl;obtain⟨_,h2,h3⟩:=List.nodup_append.1 hl;rw [List.nodup_cons]at h2;rcases List.mem_append.1 hyl with h4|h4
  ·exact absurd e1 (h3 _ (List.mem_map.2 ⟨y,h4,rfl⟩) _ (by simp))
  ·rcases List.mem_cons.1 h4 with h4|h4
   ·exact h4
   ·exact absurd (List.mem_map.2 ⟨y,h4,e1⟩) h2.1
 exact this▸hy
theorem ed.le(h:ed kv f A A1 As i m l sk):sk.length≤l.length:=iF (jy h.nd) h.mem
theorem pJ(inj:∀a b,kv a=kv b→a=b)(hl:(l.map (·.1)).Nodup):((l.map fun e=>(kv e.1,f e.2)).map (·.1)).Nodup:=by
 rw [List.map_map];refine List.pairwise_map.2 ((List.pairwise_map.1 hl).imp fun hab e=>hab (inj _ _ e))
end
end
end Go.Sx
namespace Go.Proofs.YtmmlhdiejkknnaaGreatDoor
open Go.Sx Go.RowKit
noncomputable section
open Classical
def jH(T:aF):Prop:=∀e∈T.seats,e.2.ses=e.1
def eU(l:List (Int×bn))(s:Int):bn:=match aG s l with
 |some x=>if x.ses=s then x else⟨s,0,0⟩
 |none=>⟨s,0,0⟩
theorem gF(l:List (Int×bn))(s:Int):(eU l s).ses=s:=by
 unfold eU
 split
 ·split
  ·assumption
  ·rfl
 ·rfl
def ak(T:aF):List bn:=(ev (T.seats.map (·.1))).map (eU T.seats)
theorem kC{κ α:Type} [BEq κ](hr:∀q:κ,(q==q)=true)(hq:∀p q:κ,(p==q)=true→q=p){p:κ}{x:α} :∀ {l:List (κ×α)},(l.map (·.1)).Nodup→(p,x)∈l→aG p l=some x
 | [],_,h=>by cases h
 |(q,y)::l,hn,h=>by
  rw [List.map_cons,List.nodup_cons]at hn;simp only [aG];rcases List.mem_cons.1 h with h|h
  ·injection h with h1 h2
   subst h1;subst h2
   rw [hr];rfl
  ·cases hb:p==q with
   |false=>exact kC hr hq hn.2 h
   |true=>
    have e:=hq _ _ hb;subst e;exact absurd (List.mem_map.2 ⟨_,h,rfl⟩) hn.1
theorem kW{l:List (Int×bn)}(hn:(l.map (·.1)).Nodup)(hs:∀e∈l,e.2.ses=e.1){e:Int×bn}(he:e∈l):eU l e.1=e.2:=by
 unfold eU;rw [kC (fun q=>by simp) zB hn (show(e.1,e.2)∈l from he)];exact if_pos (hs e he)
theorem lz{l l':List Int}(h:l.Perm l'):ev l=ev l':=by
 rw [pW,pW];exact mergeSort_of_perm_i h
structure SG where
 A:aa
 sk:List (Int×bn)
 v:Value
theorem qR{α β:Type}{f g:α→List β} :∀ {l:List α},(∀e∈l,f e=g e)→l.flatMap f=l.flatMap g
 | [],_=>rfl
 |x::l,h=>by rw [List.flatMap_cons,List.flatMap_cons,h x (by simp),qR fun e he=>h e (List.mem_cons_of_mem _ he)]
abbrev intV(k:Int):Value:= .int .i64 k
def zd(A0 A1:aa)(i m:Nat)(l:List (Int×bn)):fj:=
 { γ:=SG,G:=fun g=>ed intV eh A0 A1 g.A i m l g.sk∧br A1 g.A 3 105 g.sk.length g.v (g.sk.flatMap fun e=>cz e.2),
   keepS:= [13],keepB:= [],sl:=fun g=> [(3,.v g.v)],bl:=fun _=> [],ar:=fun g=>g.A,mu:=fun g=>l.length-g.sk.length }
def kV:aY:=⟨TG,fun g vs A=>vs= [.pointer (some ⟨g.t,0,none⟩)]∧ba A g.B g.O g.t g.T∧jH g.T∧g.T.seats.length≤1000000,
 fun g _ A v A'=>A.Sub A'∧Sl (A'.minus A) 3 (ak g.T).length v ((ak g.T).flatMap cz)⟩
theorem oA:FOk Tryz.prog 12 kV:=by
 refine bG mixed fun⟨T,B,O,t⟩ vs A hp=> ?_
 obtain⟨rfl,⟨m,s,E,h⟩,hok,hlen⟩:vs= [.pointer (some ⟨t,0,none⟩)]∧ba A B O t T∧jH T∧T.seats.length≤1000000:=hp
 have hCt:aI Tryz.prog (bQ [aM 61 pU] noC):=aD (aA _) (fun x hx=>by
  simp only [List.mem_singleton]at hx
  subst hx;exact au xj)
 refine⟨_,ic Tryz.prog _ noL 60 [(12,0)],60,hCt,bg mixed hCt (az _) _ _,fun blk os out tape D hD=> ?_⟩;have htop0:A.rd t 0 1=some [.map (some m)]:=h.top.rd (o:=0) (n:=1) (by show 0+1≤2;omega);have htop:A.rd t 1 1=some [.map (some s)]:=h.top.rd (o:=1) (n:=1) (by show 1+1≤2;omega);conv=>lhs;whnf
 repeat(first|refine ai htop0 ?_|refine ai htop ?_|refine aj hD rfl ?_
        conv=>lhs;whnf)
 have hnd:=pJ (kv:=intV) (f:=eh) (fun a b e=>by injection e) h.skeys;refine(hD _).2 ⟨_,h.smap,hnd,fun i A1 hi hA1 hI=> ?_⟩;have hM1:ed intV eh A A1 A1 i s T.seats []:=ed.start hi hA1 hI;conv=>lhs;whnf
 refine(hD _).2 ⟨zd A A1 i s T.seats,⟨(⟨A1, [],.slice none 0 0⟩:SG),⟨hM1,br.nil _ _ _ _⟩,⟨rfl,trivial⟩,trivial,rfl⟩,fun(sg:SG) hG=>⟨⟨trivial,trivial⟩,trivial,?_⟩⟩;obtain⟨As,sk,v0⟩:=sg;obtain⟨hM,hGs⟩:ed intV eh A A1 As i s T.seats sk∧br A1 As 3 105 sk.length v0 (sk.flatMap fun e:Int×bn=>cz e.2):=hG;have hle:=hM.le;conv=>lhs;whnf
 refine(hD _).2 (.inl ⟨s,_,_,hM.it,fun e he hn A2 hA2 hI2 hent=> ?_,fun hall=> ?_⟩)
 ·obtain⟨⟨k,⟨a,b,c⟩⟩,hx,rfl,hns,hM2,hlt⟩:=hM.next he hn hA2 hI2
  have hent:A2.ent i=some (.tuple #[.int .i64 k,.agg #[.int .i64 a,.int .i64 b,.int .i64 c]]):=hent;have hG2:=hGs.ck (A':=A2) fun q hq=>hA2 q fun e=>by subst e;rw [hM.iex.choose_spec]at hq;cases hq
  conv=>lhs;whnf
  split
  rotate_left
  ·rename_i hv
   exact absurd (hent.symm.trans hv) (by simp)
  rename_i v hv;obtain rfl:=Option.some.inj (hent.symm.trans hv);conv=>lhs;whnf
  refine(hD _).2 fun gb A7 hN=> ?_
  have hN:A2.New A7 gb #[.int .i64 a,.int .i64 b,.int .i64 c] 105:=hN;have hM7:=hM2.sub hN.sub;have hG7:=hG2.sub hN.sub;obtain⟨base,cp,rfl,hbase,hP,hA⟩:=hG7.form;have hP:=hP 24 (by omega) (by omega);have hrow:A7.rd gb 0 (1*3)=some [.int .i64 a,.int .i64 b,.int .i64 c]:=hN.rd (o:=0) (n:=1*3) (by show 0+1*3≤3;omega);rcases hbase with rfl|⟨g0,rfl⟩<;>(conv=>lhs;whnf)
  all_goals
   refine(hD _).2 ⟨sk.flatMap fun e:Int×bn=>cz e.2, [.int .i64 a,.int .i64 b,.int .i64 c],hP.rd,?_,rfl,?_,?_,hP.cap,rfl,hP.none_,fun g' o' he' hle' _=>hP.room 3 rfl g' o' he' hle',fun v A6 hAp=> ?_⟩
   ·show(if 1*3=0 then some []else A7.rd gb 0 (1*3))=_
    rw [if_neg (by omega)];exact hrow
   ·intro v hv
    simp only [List.mem_cons,List.not_mem_nil,or_false]at hv;rcases hv with rfl|rfl|rfl<;>rfl
   ·show sk.length+1≤9223372036854775807
    omega
   ·obtain⟨hG6,hk6⟩:=hA _ _ _ rfl hM7.dom hAp
    have hM6:=hM7.more hk6;have hmu:T.seats.length-(sk++ [(k,(⟨a,b,c⟩:bn))]).length<T.seats.length-sk.length:=by rw [List.length_append,List.length_singleton];omega
    have hg6:(zd A A1 i s T.seats).G (⟨A6,sk++ [(k,(⟨a,b,c⟩:bn))],v⟩:SG):=⟨hM6,by
     show br A1 A6 3 105 (sk++ [(k,(⟨a,b,c⟩:bn))]).length v ((sk++ [(k,(⟨a,b,c⟩:bn))]).flatMap fun e=>cz e.2)
     rw [List.length_append,List.flatMap_append];exact hG6⟩
    conv=>lhs;whnf
    exact(hD _).2 ⟨(⟨A6,sk++ [(k,(⟨a,b,c⟩:bn))],v⟩:SG),⟨hg6,⟨rfl,trivial⟩,trivial,rfl⟩,hmu,⟨rfl,trivial⟩,trivial⟩
 ·have hperm:=hM.done (fun a b e=>by injection e) h.skeys hall
  have hkeys:ev (sk.map (·.1))=ev (T.seats.map (·.1)):=lz (hperm.map _)
  have hrows:∀l:List (Int×bn),(∀e∈l,e∈T.seats)→l.flatMap (fun e=>cz e.2)=(l.map (·.1)).flatMap fun k=>cz (eU T.seats k):=fun l hl=>by
   rw [List.flatMap_map];refine qR fun e he=> ?_
   rw [kW h.skeys hok (hl e he)]
  have hsk:=hrows sk hM.mem;have hlk:(sk.map (·.1)).length=sk.length:=List.length_map _
  have hlT:(ak T).length=sk.length:=by
   rw [ak,List.length_map,←hkeys,gz,hlk]
  have hend:∀x A5,A.Sub A5→Sl (A5.minus A) 3 sk.length x ((ev (sk.map (·.1))).flatMap fun k=>cz (eU T.seats k))→kV.post ⟨T,B,O,t⟩ [.pointer (some ⟨t,0,none⟩)] A x A5:=fun x A5 h5 hS=>by
   refine⟨h5,?_⟩;show Sl _ 3 (ak T).length x ((ak T).flatMap cz)
   rw [hlT,ak,List.flatMap_map,←hkeys];exact hS
  obtain⟨hl0,⟨h0,rfl⟩|⟨g0,nc,c,rfl,hle0,hpos0,hg0,hb0,hs0,ht0⟩⟩:=hGs
  ·have hk0:sk.map (·.1)= []:=List.length_eq_zero_iff.1 (hlk.trans h0)
   rw [hk0]at hend;conv=>lhs;whnf
   refine(hD _).2 ⟨(0,eU T.seats, []),⟨gF _,.inl ⟨rfl,none,0,rfl⟩⟩,fun v A5 hq=> ?_⟩;obtain rfl:A5=As:=hq.1 rfl;have hend:=hend (.slice none 0 0) A5 hM.old (by rw [h0];show Sl _ 3 0 _ ((ev []).flatMap _);rw [show ev []= []from List.mergeSort_nil];exact Sl.nil _ _);conv=>lhs;whnf
   exact(hD _).2 hend
  ·by_cases hk0:sk= []
   ·subst hk0
    conv=>lhs;whnf
    refine(hD _).2 ⟨(0,eU T.seats, []),⟨gF _,.inl ⟨rfl,some ⟨g0,0,none⟩,nc,rfl⟩⟩,fun v A5 hq=> ?_⟩;obtain rfl:A5=As:=hq.1 rfl;have hend:=hend (.slice (some ⟨g0,0,none⟩) 0 nc) A5 hM.old (by show Sl _ 3 0 _ ((ev []).flatMap _);rw [show ev []= []from List.mergeSort_nil];exact Sl.zero _ _ (fun h=>(by cases h)) fun a ha _=>by injection ha with ha;subst ha;rfl);conv=>lhs;whnf
    exact(hD _).2 hend
   ·have hroom:As.Room g0 0 ((sk.map (·.1)).length*3):=⟨c,105,(0,0),hb0,by rw [hlk,hs0];have:=Nat.mul_le_mul_right 3 hle0;omega,.inl rfl⟩
    have hrd0:As.rd g0 0 ((sk.map (·.1)).length*3)=some ((sk.map (·.1)).flatMap fun k=>cz (eU T.seats k)):=by
     rw [rd_mk hb0 (by rw [hlk,hs0];have:=Nat.mul_le_mul_right 3 hle0;omega),List.drop_zero,hlk,ht0,hsk]
    have hne:sk.map (·.1)≠ []:=fun e=>hk0 (List.map_eq_nil_iff.1 e)
    have hpre:pU.pre (g0,eU T.seats,sk.map (fun x:Int×bn=>x.1)) [.slice (some ⟨g0,0,none⟩) sk.length nc,cmpV] As:=by
     refine⟨gF _,.inr ⟨hne,?_,hroom,hrd0,nc,?_⟩⟩
     ·show(sk.map (·.1)).length<_;omega
     ·rw [←hlk]
    conv=>lhs;whnf
    refine(hD _).2 ⟨(g0,eU T.seats,sk.map (fun x:Int×bn=>x.1)),hpre,fun v A5 hq=> ?_⟩;have hP5:As.Put A5 g0 0 ((ev (sk.map (·.1))).flatMap fun k=>cz (eU T.seats k)):=hq.2 hne
    have hAg:A.blk g0=none:=by
     cases hA:A.blk g0 with
     |none=>rfl
     |some o=>rw [hM.sub1 _ _ hA]at hg0;cases hg0
    have hA5:A.Sub A5:=hP5.sub hM.old hAg
    have hsl:((ev (sk.map (·.1))).flatMap fun k=>cz (eU T.seats k)).length=sk.length*3:=by
     have:∀l:List Int,(l.flatMap fun k=>cz (eU T.seats k)).length=l.length*3:=fun l=>by
      induction l with
      |nil=>rfl
      |cons x l ih=>rw [List.flatMap_cons,List.length_append,ih,List.length_cons,Nat.succ_mul];show 3+_=_;omega
     rw [this,gz,hlk]
    have hend:=hend (.slice (some ⟨g0,0,none⟩) sk.length nc) A5 hA5 (by
     refine Sl.row hle0 (iU ?_ hAg);obtain⟨c0,t0,fz0,c',k1,k2,k3⟩:=hP5.at_;rw [hb0]at k1;injection k1 with k1;injection k1 with k1 k1' k1''
     subst k1;subst k1';subst k1''
     have h3:=Nat.mul_le_mul_right 3 hle0
     rw [rd_mk k2 (by
      rw [←Array.length_toList,k3];simp only [List.length_append,List.length_take,List.length_drop,hsl,Array.length_toList]
      omega),List.drop_zero,k3]
     simp [hsl])
    conv=>lhs;whnf
    exact(hD _).2 hend
def bc(T:aF):List (List UInt8):=eT (T.nodes.map fun e=>bx e.1)
theorem xe(q:ByteArray):ga (bx q)= .string q:=by
 obtain⟨⟨l⟩⟩:=q;rfl
abbrev uL(p:ByteArray):Value:= .string p
abbrev vt(x:Nat×aX):Value:=iV x.1
structure PG where
 A:aa
 sk:List (ByteArray×Nat×aX)
 v:Value
def vg(A0 A1:aa)(i m:Nat)(l:List (ByteArray×Nat×aX)):fj:=
 { γ:=PG,G:=fun g=>ed uL vt A0 A1 g.A i m l g.sk∧br A1 g.A 1 9 g.sk.length g.v (g.sk.map fun e=>ga (bx e.1)),
   keepS:= [11],keepB:= [],sl:=fun g=> [(3,.v g.v)],bl:=fun _=> [],ar:=fun g=>g.A,mu:=fun g=>l.length-g.sk.length }
def xL:aY:=⟨TG,fun g vs A=>vs= [.pointer (some ⟨g.t,0,none⟩)]∧ba A g.B g.O g.t g.T∧g.T.nodes.length≤1000000,
 fun g _ A v A'=>A.Sub A'∧Sl (A'.minus A) 1 (bc g.T).length v ((bc g.T).map ga)⟩
theorem Dh:FOk Tryz.prog 58 xL:=by
 refine bG mixed fun⟨T,B,O,t⟩ vs A hp=> ?_
 obtain⟨rfl,⟨m,s,E,h⟩,hlen⟩:vs= [.pointer (some ⟨t,0,none⟩)]∧ba A B O t T∧T.nodes.length≤1000000:=hp;have hlE:E.length≤1000000:=by rw [h.nodes,dX,List.length_map]at hlen;exact hlen
 have hCt:aI Tryz.prog (bQ [aM 121 CB] noC):=aD (aA _) (fun x hx=>by
  simp only [List.mem_singleton]at hx
  subst hx;exact au sort_ok)
 refine⟨_,ic Tryz.prog _ noL 60 [(58,0)],60,hCt,bg mixed hCt (az _) _ _,fun blk os out tape D hD=> ?_⟩;have htop0:A.rd t 0 1=some [.map (some m)]:=h.top.rd (o:=0) (n:=1) (by show 0+1≤2;omega);conv=>lhs;whnf
 repeat(first|refine ai htop0 ?_|refine aj hD rfl ?_
        conv=>lhs;whnf)
 have hLE:gd iV (dX (·.1) E)=E.map fun e=>(uL e.1,vt e.2):=by simp [gd,dX]
 have hnm:=h.nmap;rw [hLE]at hnm;have hnd:=pJ (kv:=uL) (f:=vt) (fun a b e=>by injection e) h.keys;refine(hD _).2 ⟨_,hnm,hnd,fun i A1 hi hA1 hI=> ?_⟩;have hM1:ed uL vt A A1 A1 i m E []:=ed.start hi hA1 hI;conv=>lhs;whnf
 refine(hD _).2 ⟨vg A A1 i m E,⟨(⟨A1, [],.slice none 0 0⟩:PG),⟨hM1,br.nil _ _ _ _⟩,⟨rfl,trivial⟩,trivial,rfl⟩,fun(sg:PG) hG=>⟨⟨trivial,trivial⟩,trivial,?_⟩⟩;obtain⟨As,sk,v0⟩:=sg;obtain⟨hM,hGs⟩:ed uL vt A A1 As i m E sk∧br A1 As 1 9 sk.length v0 (sk.map fun e:ByteArray×Nat×aX=>ga (bx e.1)):=hG;have hle:=hM.le;conv=>lhs;whnf
 refine(hD _).2 (.inl ⟨m,_,_,hM.it,fun e he hn A2 hA2 hI2 hent=> ?_,fun hall=> ?_⟩)
 ·obtain⟨⟨p,gn,n⟩,hx,rfl,hns,hM2,hlt⟩:=hM.next he hn hA2 hI2
  have hent:A2.ent i=some (.tuple #[.string p,.pointer (some ⟨gn,0,none⟩)]):=hent;have hG2:=hGs.ck (A':=A2) fun q hq=>hA2 q fun e=>by subst e;rw [hM.iex.choose_spec]at hq;cases hq
  conv=>lhs;whnf
  split
  rotate_left
  ·rename_i hv
   exact absurd (hent.symm.trans hv) (by simp)
  rename_i v hv;obtain rfl:=Option.some.inj (hent.symm.trans hv);conv=>lhs;whnf
  refine(hD _).2 fun gb A7 hN=> ?_
  have hN:A2.New A7 gb #[.string p] 9:=hN;have hM7:=hM2.sub hN.sub;have hG7:=hG2.sub hN.sub;obtain⟨base,cp,rfl,hbase,hP,hA⟩:=hG7.form;have hP:=hP 16 (by omega) (by omega);have hrow:A7.rd gb 0 (1*1)=some [.string p]:=hN.rd (o:=0) (n:=1*1) (by show 0+1*1≤1;omega);rcases hbase with rfl|⟨g0,rfl⟩<;>(conv=>lhs;whnf)
  all_goals
   refine(hD _).2 ⟨sk.map fun e:ByteArray×Nat×aX=>ga (bx e.1), [.string p],hP.rd,?_,rfl,?_,?_,hP.cap,rfl,hP.none_,fun g' o' he' hle' _=>hP.room 1 rfl g' o' he' hle',fun v A6 hAp=> ?_⟩
   ·show(if 1*1=0 then some []else A7.rd gb 0 (1*1))=_
    rw [if_neg (by omega)];exact hrow
   ·intro v hv
    simp only [List.mem_cons,List.not_mem_nil,or_false]at hv;subst hv;rfl
   ·show sk.length+1≤9223372036854775807
    omega
   ·obtain⟨hG6,hk6⟩:=hA _ _ _ rfl hM7.dom hAp
    have hM6:=hM7.more hk6;have hmu:E.length-(sk++ [(p,gn,n)]).length<E.length-sk.length:=by rw [List.length_append,List.length_singleton];omega
    have hg6:(vg A A1 i m E).G (⟨A6,sk++ [(p,gn,n)],v⟩:PG):=⟨hM6,by
     show br A1 A6 1 9 (sk++ [(p,gn,n)]).length v ((sk++ [(p,gn,n)]).map fun e=>ga (bx e.1))
     rw [List.length_append,List.map_append,List.map_singleton,xe];exact hG6⟩
    conv=>lhs;whnf
    exact(hD _).2 ⟨(⟨A6,sk++ [(p,gn,n)],v⟩:PG),⟨hg6,⟨rfl,trivial⟩,trivial,rfl⟩,hmu,⟨rfl,trivial⟩,trivial⟩
 ·have hperm:=hM.done (fun a b e=>by injection e) h.keys hall
  obtain⟨ps,hps⟩:∃ps:List (List UInt8),ps=sk.map fun e:ByteArray×Nat×aX=>bx e.1:=⟨_,rfl⟩
  have hsort:eT ps=bc T:=by
   rw [hps,bc,h.nodes,dX,List.map_map];exact mergeSort_of_perm (hperm.map _)
  have hpl:ps.length=sk.length:=by rw [hps,List.length_map]
  have hpv:(sk.map fun e:ByteArray×Nat×aX=>ga (bx e.1))=ps.map ga:=by rw [hps,List.map_map];rfl
  rw [hpv]at hGs
  have hend:∀x A5,A.Sub A5→Sl (A5.minus A) 1 ps.length x ((eT ps).map ga)→xL.post ⟨T,B,O,t⟩ [.pointer (some ⟨t,0,none⟩)] A x A5:=fun x A5 h5 hS=>by
   refine⟨h5,?_⟩;show Sl _ 1 (bc T).length x ((bc T).map ga)
   rw [←hsort,eS];exact hS
  have hold:=hM.old;have hsub1:=hM.sub1;rw [←hpl]at hGs;clear hpv hps;obtain⟨hl0,⟨h0,rfl⟩|⟨g0,nc,c,rfl,hle0,hpos0,hg0,hb0,hs0,ht0⟩⟩:=hGs
  ·obtain rfl:ps= []:=List.length_eq_zero_iff.1 h0
   conv=>lhs;whnf
   refine(hD _).2 ⟨(0, []),.inl ⟨rfl,none,0,rfl⟩,fun v A5 hq=> ?_⟩;obtain rfl:A5=As:=hq.1 rfl;have hend:=hend (.slice none 0 0) A5 hold (by show Sl _ 1 0 _ ((eT []).map ga);rw [show eT []= []from List.mergeSort_nil];exact Sl.nil _ _);conv=>lhs;whnf
   exact(hD _).2 hend
  ·by_cases hk0:ps= []
   ·subst hk0
    conv=>lhs;whnf
    refine(hD _).2 ⟨(0, []),.inl ⟨rfl,some ⟨g0,0,none⟩,nc,rfl⟩,fun v A5 hq=> ?_⟩;obtain rfl:A5=As:=hq.1 rfl;have hend:=hend (.slice (some ⟨g0,0,none⟩) 0 nc) A5 hold (by show Sl _ 1 0 _ ((eT []).map ga);rw [show eT []= []from List.mergeSort_nil];exact Sl.zero _ _ (fun h=>(by cases h)) fun a ha _=>by injection ha with ha;subst ha;rfl);conv=>lhs;whnf
    exact(hD _).2 hend
   ·have hroom:As.Room g0 0 ps.length:=⟨c,9,(0,0),hb0,by omega,.inl rfl⟩
    have hrd0:As.rd g0 0 ps.length=some (ps.map ga):=by
     rw [rd_mk hb0 (by omega),List.drop_zero];rw [Nat.mul_one]at ht0;rw [ht0]
    have hlt:ps.length<4611686018427387904:=by omega
    have hpre:CB.pre (g0,ps) [.slice (some ⟨g0,0,none⟩) ps.length nc] As:= .inr ⟨hk0,hlt,hroom,hrd0,nc,rfl⟩;conv=>lhs;whnf
    refine(hD _).2 ⟨(g0,ps),hpre,fun v A5 hq=> ?_⟩;have hP5:As.Put A5 g0 0 ((eT ps).map ga):=hq.2 hk0
    have hAg:A.blk g0=none:=by
     cases hA:A.blk g0 with
     |none=>rfl
     |some o=>rw [hsub1 _ _ hA]at hg0;cases hg0
    have hA5:A.Sub A5:=hP5.sub hold hAg
    have hend:=hend (.slice (some ⟨g0,0,none⟩) ps.length nc) A5 hA5 (by
     refine Sl.row hle0 (iU ?_ hAg);obtain⟨c0,t0,fz0,c',k1,k2,k3⟩:=hP5.at_;rw [hb0]at k1;injection k1 with k1;injection k1 with k1 k1' k1''
     subst k1;subst k1';subst k1''
     have hsl:=eS ps
     rw [Nat.mul_one,rd_mk k2 (by
      rw [←Array.length_toList,k3];simp only [List.length_append,List.length_take,List.length_drop,List.length_map,hsl,Array.length_toList]
      omega),List.drop_zero,k3]
     simp [hsl])
    conv=>lhs;whnf
    exact(hD _).2 hend
end
end Go.Proofs.YtmmlhdiejkknnaaGreatDoor
