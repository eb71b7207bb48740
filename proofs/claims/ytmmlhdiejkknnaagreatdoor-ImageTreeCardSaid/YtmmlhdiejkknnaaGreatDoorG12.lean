/-
  Parts of the proof: TrP TrHa TrJ TrM TrNa TrQ TrR TrS TrT TiA IvP IrP IrQ IxA IcP IcQ IxB IfP IkP IgP GrB LnA FlA IgA IbA
-/
import Derived.Test.YtmmlhdiejkknnaaGreatDoorG11
import Derived.Test.YtmmlhdiejkknnaaGreatDoorG06
import Derived.Test.YtmmlhdiejkknnaaGreatDoorG01
import Derived.Shelf.Bytes.GrowSlice
set_option maxRecDepth 100000
set_option maxHeartbeats 0
namespace Go.Proofs.YtmmlhdiejkknnaaGreatDoor
open Go.Sx Go.RowKit
noncomputable section
open Classical
instance :LawfulBEq ByteArray where
 eq_of_beq h:=(en _ _ h).symm
 rfl:=kJ _
section
variable {κ α:Type} [BEq κ] [LawfulBEq κ]
theorem iZ [DecidableEq κ](p q:κ)(x:α):∀l:List (κ×α),aG q (bS p x l)=if q=p then some x else aG q l
 | []=>by
   by_cases h:q=p
   ·subst h;simp [bS,aG]
   ·have hb:(q==p)=false:=by simpa using h
    simp [bS,aG,h,hb]
 |(r,y)::l=>by
  simp only [bS]
  by_cases hr:p=r
  ·subst hr
   simp only [BEq.rfl,cond_true,aG]
   by_cases h:q=p
   ·subst h;simp
   ·have hb:(q==p)=false:=by simpa using h
    simp [h,hb]
  ·have:(p==r)=false:=by simpa using hr
   simp only [this,cond_false,aG,iZ p q x l]
   by_cases h:q=p
   ·subst h
    simp [this]
   ·simp [h]
theorem qG [DecidableEq κ](p q:κ)(f:α→α):∀l:List (κ×α),aG q (dI p f l)=if q=p then(aG q l).map f else aG q l
 | []=>by simp [dI,aG]
 |(r,y)::l=>by
  simp only [dI]
  by_cases hr:p=r
  ·subst hr
   simp only [BEq.rfl,cond_true,aG]
   by_cases h:q=p
   ·subst h;simp
   ·have hb:(q==p)=false:=by simpa using h
    simp [h,hb]
  ·have:(p==r)=false:=by simpa using hr
   simp only [this,cond_false,aG,qG p q f l]
   by_cases h:q=p
   ·subst h
    simp [this]
   ·simp [h]
theorem gU{p:κ} :∀ {l:List (κ×α)},p∉l.map (·.1)→aG p l=none
 | [],_=>rfl
 |(r,y)::l,h=>by
  simp only [List.map_cons,List.mem_cons,not_or]at h;have:(p==r)=false:=by simpa using h.1
  simp only [aG,this,cond_false];exact gU h.2
theorem qH [DecidableEq κ](p q:κ):∀ {l:List (κ×α)},(l.map (·.1)).Nodup→aG q (dQ p l)=if q=p then none else aG q l
 | [],_=>by simp [dQ,aG]
 |(r,y)::l,hn=>by
  rw [List.map_cons,List.nodup_cons]at hn;simp only [dQ]
  by_cases hr:p=r
  ·subst hr
   simp only [BEq.rfl,cond_true,aG]
   by_cases h:q=p
   ·subst h
    rw [if_pos rfl];exact gU hn.1
   ·have hb:(q==p)=false:=by simpa using h
    simp [h,hb]
  ·have:(p==r)=false:=by simpa using hr
   simp only [this,cond_false,aG,qH p q hn.2]
   by_cases h:q=p
   ·subst h
    simp [this]
   ·simp [h]
theorem pw(p:κ)(x:α):∀ {l:List (κ×α)},(l.map (·.1)).Nodup→((bS p x l).map (·.1)).Nodup
 | [],_=>by simp [bS]
 |(r,y)::l,hn=>by
  rw [List.map_cons,List.nodup_cons]at hn;simp only [bS]
  by_cases hr:p=r
  ·subst hr
   simp only [BEq.rfl,cond_true,List.map_cons,List.nodup_cons];exact hn
  ·have:(p==r)=false:=by simpa using hr
   simp only [this,cond_false,List.map_cons,List.nodup_cons];refine⟨fun h=> ?_,pw p x hn.2⟩;rcases nI p x l r h with h|h
   ·exact hn.1 h
   ·exact hr h.symm
theorem eZ(p:κ):∀(l:List (κ×α)),(dQ p l).Sublist l
 | []=>by simp [dQ]
 |(r,y)::l=>by
  simp only [dQ]
  by_cases hr:p=r
  ·subst hr
   simp
  ·have:(p==r)=false:=by simpa using hr
   simp only [this,cond_false];exact(eZ p l).cons_cons _
theorem zz(p:κ){l:List (κ×α)}(h:(l.map (·.1)).Nodup):((dQ p l).map (·.1)).Nodup:=h.sublist ((eZ p l).map _)
theorem fU{p:κ}{l:List (κ×α)} :aG p l≠none↔p∈l.map (·.1):=by
 constructor
 ·intro h
  by_cases hm:p∈l.map (·.1)
  ·exact hm
  ·exact absurd (gU hm) h
 ·intro hm h
  exact gI (by simp) h hm
end
def kz(h:c7)(z:Int)(q:ByteArray)(o:Option aX):Option aX:=if q=bj h.path then o.map (gR z h.cver)else o
def rL(h:c7)(z time:Int)(q:ByteArray)(o:Option aX):Option aX:=
 if h.kind=3 then(if q=h.path then o.map (mJ h z time)else o)
 else if h.kind=1 then kz h z q (if q=h.path then some (kZ h z time)else o)
 else if h.kind=2 then kz h z q (if q=h.path then none else o)
 else kz h z q o
def ND(T:aF):Prop:=(T.nodes.map (·.1)).Nodup∧(T.seats.map (·.1)).Nodup
theorem qO(T:aF)(h:c7)(z:Int)(q:ByteArray):aG q (bT T h.path z h.cver).nodes=kz h z q (aG q T.nodes):=by
 unfold bT kz;exact qG (bj h.path) q (gR z h.cver) T.nodes
theorem qP{T:aF}(hn:ND T)(h:c7)(z time:Int)(q:ByteArray):aG q (aK T h z time).nodes=rL h z time q (aG q T.nodes):=by
 unfold aK rL
 by_cases h3:h.kind=3
 ·rw [if_pos h3,if_pos h3];exact qG h.path q (mJ h z time) T.nodes
 ·rw [if_neg h3,if_neg h3]
  by_cases h1:h.kind=1
  ·rw [if_pos h1,if_pos h1,qO,iZ]
  ·rw [if_neg h1,if_neg h1]
   by_cases h2:h.kind=2
   ·rw [if_pos h2,if_pos h2,qO,qH _ _ hn.1]
   ·rw [if_neg h2,if_neg h2,qO]
theorem tK{T:aF}(hn:ND T)(p:ByteArray)(z cv:Int):ND (bT T p z cv):=⟨by
 show((dI _ _ T.nodes).map (·.1)).Nodup
 rw [fH];exact hn.1,hn.2⟩
theorem gD(T:aF)(h:c7)(z time:Int):(aK T h z time).seats=T.seats:=by
 unfold aK bT
 split<;>(try split)<;>(try split)<;>rfl
theorem sy{T:aF}(hn:ND T)(h:c7)(z time:Int):ND (aK T h z time):=by
 unfold aK
 split
 ·exact⟨by show((dI _ _ T.nodes).map (·.1)).Nodup;rw [fH];exact hn.1,hn.2⟩
 ·split
  ·exact tK (T:=⟨bS h.path (kZ h z time) T.nodes,T.seats⟩) ⟨pw _ _ hn.1,hn.2⟩ _ _ _
  ·split
   ·exact tK (T:=⟨dQ h.path T.nodes,T.seats⟩) ⟨zz _ hn.1,hn.2⟩ _ _ _
   ·exact tK hn _ _ _
def qm(ps:List aU)(z time:Int)(q:ByteArray)(o:Option aX):Option aX:=ps.foldl (fun o p=>rL p.h z time q o) o
theorem nA(z time:Int):∀(ps:List aU) {T:aF},ND T→ND (bE T ps z time)∧(bE T ps z time).seats=T.seats∧∀q,aG q (bE T ps z time).nodes=qm ps z time q (aG q T.nodes)
 | [],T,hn=>⟨hn,rfl,fun _=>rfl⟩
 |p::ps,T,hn=>by
  obtain⟨h1,h2,h3⟩:=nA z time ps (sy hn p.h z time);refine⟨h1,h2.trans (gD T p.h z time),fun q=> ?_⟩;show aG q (bE (aK T p.h z time) ps z time).nodes=_
  rw [h3,qP hn];rfl
def doF(d:aU)(q:ByteArray)(o:Option aX):Option aX:=
 if d.h.kind=1∨d.h.kind=2∨d.h.kind=3 then rL d.h d.h.zxid d.h.time q o
 else if d.h.kind=5∨d.h.kind=8 then qm d.parts d.h.zxid d.h.time q o
 else o
def nk(d:aU)(s:Int)(o:Option bn):Option bn:=if s=d.h.ses then o.map fun x=>⟨x.ses,x.tmo,max x.turn d.h.turn⟩else o
def sitF(d:aU)(s:Int)(o:Option bn):Option bn:=
 nk d s (if d.h.kind=4 then(if s=d.h.zxid then some ⟨d.h.zxid,d.h.tmo,d.h.turn⟩else o)
  else if d.h.kind=5 then(if s=d.h.owner then none else o)else o)
theorem do_all{T:aF}(hn:ND T)(d:aU):ND (cC T d)∧(∀q,aG q (cC T d).nodes=doF d q (aG q T.nodes))∧
  ∀s,aG s (cC T d).seats=if d.h.kind=4 then(if s=d.h.zxid then some ⟨d.h.zxid,d.h.tmo,d.h.turn⟩else aG s T.seats)else if d.h.kind=5 then(if s=d.h.owner then none else aG s T.seats)else aG s T.seats:=by
 unfold cC doF
 by_cases h1:d.h.kind=1∨d.h.kind=2∨d.h.kind=3
 ·simp only [h1,if_true]
  refine⟨sy hn _ _ _,fun q=>qP hn _ _ _ q,fun s=> ?_⟩;rw [gD,if_neg (by omega),if_neg (by omega)]
 ·simp only [h1,if_false]
  by_cases h4:d.h.kind=4
  ·simp only [h4,if_true]
   refine⟨⟨hn.1,pw _ _ hn.2⟩,fun q=>rfl,fun s=>iZ _ _ _ _⟩
  ·simp only [h4,if_false]
   by_cases h5:d.h.kind=5
   ·simp only [h5,if_true,true_or]
    obtain⟨k1,k2,k3⟩:=nA d.h.zxid d.h.time d.parts (T:=⟨T.nodes,dQ d.h.owner T.seats⟩) ⟨hn.1,zz _ hn.2⟩;refine⟨k1,k3,fun s=> ?_⟩;rw [k2];exact qH _ _ hn.2
   ·simp only [h5,if_false,false_or]
    by_cases h8:d.h.kind=8
    ·simp only [h8,if_true]
     obtain⟨k1,k2,k3⟩:=nA d.h.zxid d.h.time d.parts hn;exact⟨k1,k3,fun s=>by rw [k2]⟩
    ·simp only [h8,if_false]
     exact⟨hn,fun _=>trivial,fun _=>trivial⟩
theorem Af{T:aF}(hn:ND T)(d:aU):ND (aR T d.h.ses d.h.turn)∧(aR T d.h.ses d.h.turn).nodes=T.nodes∧∀s,aG s (aR T d.h.ses d.h.turn).seats=nk d s (aG s T.seats):=by
 unfold aR nk
 cases hk:aG d.h.ses T.seats with
 |none=>
  refine⟨hn,rfl,fun s=> ?_⟩
  by_cases e:s=d.h.ses
  ·rw [if_pos e,e,hk];rfl
  ·rw [if_neg e]
 |some x=>
  refine⟨⟨hn.1,pw _ _ hn.2⟩,rfl,fun s=> ?_⟩;rw [iZ]
  by_cases e:s=d.h.ses
  ·rw [if_pos e,if_pos e,e,hk];rfl
  ·rw [if_neg e,if_neg e]
theorem lu{T:aF}(hn:ND T)(d:aU):ND (aC T d)∧(∀q,aG q (aC T d).nodes=if fi d then doF d q (aG q T.nodes)else aG q T.nodes)∧
  ∀s,aG s (aC T d).seats=if fi d then sitF d s (aG s T.seats)else aG s T.seats:=by
 unfold aC
 by_cases h:fi d
 ·simp only [h,if_true]
  obtain⟨k1,k2,k3⟩:=do_all hn d;obtain⟨j1,j2,j3⟩:=Af k1 d;refine⟨j1,fun q=>by rw [j2,k2],fun s=> ?_⟩;rw [j3,k3];rfl
 ·simp only [h,if_false]
  exact⟨hn,fun _=>trivial,fun _=>trivial⟩
def TEq(T U:aF):Prop:=(∀q,aG q T.nodes=aG q U.nodes)∧∀s,aG s T.seats=aG s U.seats
end
end Go.Proofs.YtmmlhdiejkknnaaGreatDoor
namespace Go.Proofs.YtmmlhdiejkknnaaGreatDoor
open Go.Sx Go.RowKit
noncomputable section
open Classical
theorem bq{A B A':aa}{O:Nat→Prop}{t:Nat}{T:aF}(h:ba A B O t T)(hs:A.Sub A'):ba A' B O t T:=by
 refine h.frame (fun k hk=> ?_) ?_
 ·obtain⟨m,s,E,hR⟩:=h
  obtain⟨o,ho⟩:=hR.live k hk;rw [hs k o ho,ho]
 ·obtain⟨m,s,E,hR⟩:=h
  exact hR.sub.trans hs
def eF(l:List (Int×bn))(s:bn):List (Int×bn):=if s.ses<1 then l else bS s.ses s l
def bz(l:List bn):List (Int×bn):=l.foldl eF []
theorem mw(l:List bn)(s:bn):bz (l++ [s])=eF (bz l) s:=by
 unfold bz;rw [List.foldl_append];rfl
def lj(sk:List (ByteArray×Nat×aX)):List (ByteArray×aX):=sk.foldl (fun l e=>bS e.1 e.2.2 l) aW.nodes
def lC(T:aF)(p:ByteArray):Nat:=(T.nodes.map (·.1)).countP fun q=>decide (bj q=p)
def toldOf(T:aF)(p:ByteArray):aO:=match aG p T.nodes with
 |some n=>⟨p,n.data, { n.stat with len:=n.data.length,kids:=lC T p }⟩
 |none=>⟨p, [],⟨0,0,0,0,0,0,0,0,0,0⟩⟩
def aJ(T:aF):List aO:=(bc T).map fun l=>toldOf T (bytesOf l)
structure A1G where
 k:Nat
 A:aa
 l:List (ByteArray×Nat)
def eY(ps:List (List UInt8))(q:ByteArray):Nat:=ps.countP fun x=>decide (bj (bytesOf x)=q)
theorem rG(ps:List (List UInt8))(k:Nat)(hk:k<ps.length)(q:ByteArray):eY (ps.take (k+1)) q=eY (ps.take k) q+if q=bj (bytesOf ps[k])then 1 else 0:=by
 unfold eY;rw [List.take_succ_eq_append_getElem hk,List.countP_append];congr 1
 by_cases h:q=bj (bytesOf ps[k])
 ·rw [if_pos h,h];simp
 ·rw [if_neg h]
  have h':¬bj (bytesOf ps[k])=q:=fun e=>h e.symm
  simp [h']
theorem vG(ps:List (List UInt8))(q:ByteArray):eY ps q≤ps.length:=List.countP_le_length
theorem gK(l:List (List UInt8)):(eT l).Perm l:=List.mergeSort_perm _ _
theorem iW{T:aF}{x:List UInt8}(h:x∈bc T):bytesOf x∈T.nodes.map (·.1):=by
 obtain⟨e,he,h3⟩:=List.mem_map.1 ((gK _).mem_iff.1 h);exact List.mem_map.2 ⟨e,he,by rw [←h3,iJ]⟩
theorem wx(T:aF)(q:ByteArray):eY (bc T) q=lC T q:=by
 rw [eY,lC,bc,(gK _).countP_eq,List.countP_map,List.countP_map];refine List.countP_congr fun e _=> ?_
 simp only [Function.comp_apply,iJ]
theorem qz{A K K':aa}(h:K.Sub K'):(K.minus A).Sub (K'.minus A):=fun k o hk=>by
 obtain⟨h1,h2⟩:=cj hk
 show(match A.blk k with
  |none=>K'.blk k
  |some _=>none)=some o
 rw [h1];exact h _ _ h2
theorem Bu{K K' A:aa}{es:Nat}{e:TypeId}{n:Nat}{v:Value}{cs:List Value}(h:br K A es e n v cs)(hk:∀k o,K.blk k=none→A.blk k=some o→K'.blk k=none):br K' A es e n v cs:=by
 obtain⟨h1,h2|⟨g,nc,c,h3,h4,h4',h5,h6,h7,h8⟩⟩:=h
 ·exact⟨h1,.inl h2⟩
 ·exact⟨h1,.inr ⟨g,nc,c,h3,h4,h4',hk g _ h5 h6,h6,h7,h8⟩⟩
theorem grow_sl{A0 K A:aa}{es:Nat}{e:TypeId}{n:Nat}{v:Value}{cs:List Value}(h:br K A es e n v cs)(h0:A0.Sub K):Sl (A.minus A0) es n v cs:=by
 obtain⟨h1,⟨rfl,rfl⟩|⟨g,nc,c,rfl,h4,h4',h5,h6,h7,h8⟩⟩:=h
 ·have hc:cs= []:=List.length_eq_zero_iff.1 (by rw [h1];simp)
  subst hc;exact Sl.nil _ _
 ·have hg:A0.blk g=none:=by
    cases hA:A0.blk g with
    |none=>rfl
    |some o=>rw [h0 _ _ hA]at h5;cases h5
  have hle:n*es≤nc*es:=Nat.mul_le_mul_right _ h4;refine Sl.row h4 (iU ?_ hg);rw [rd_mk h6 (by omega),List.drop_zero,h8]
def zZ(A2:aa)(c:Nat)(ps:List (List UInt8)):fj:=
 { γ:=A1G,G:=fun g=>g.k≤ps.length∧(∀b,b≠c→g.A.blk b=A2.blk b)∧bH g.A c (gd tM g.l)∧∀q,(aG q g.l).getD 0=eY (ps.take g.k) q,
   keepS:= [0,3,4,14,15],keepB:= [],sl:=fun g=> [(16,.v (.int .i64 g.k))],bl:=fun _=> [],ar:=fun g=>g.A,mu:=fun g=>ps.length-g.k }
structure A2G where
 k:Nat
 A:aa
 K:aa
 v:Value
 l:List (aO×Value)
def zY(A AL:aa)(T:aF)(ps:List (List UInt8)):fj:=
 { γ:=A2G,G:=fun g=>g.k≤ps.length∧g.K.Sub g.A∧AL.Sub g.K∧br g.K g.A 12 94 g.k g.v (g.l.flatMap cV)∧g.l.map (·.1)=(ps.take g.k).map (fun x=>toldOf T (bytesOf x))∧∀x∈g.l,SlB (g.K.minus A) x.2 x.1.data,
   keepS:= [0,3,4,26,27],keepB:= [],sl:=fun g=> [(28,.v (.int .i64 g.k)),(7,.v g.v)],bl:=fun _=> [],ar:=fun g=>g.A,mu:=fun g=>ps.length-g.k }
def allS:aY:=⟨TG,fun g vs A=>vs= [.pointer (some ⟨g.t,0,none⟩)]∧ba A g.B g.O g.t g.T∧g.T.nodes.length≤1000000,
 fun g _ A v A'=>A.Sub A'∧kO (A'.minus A) v (aJ g.T)⟩
theorem EU:FOk Tryz.prog 11 allS:=by
 refine bG mixed fun⟨T,B,O,t⟩ vs A hp=> ?_
 obtain⟨rfl,hT,hlen⟩:vs= [.pointer (some ⟨t,0,none⟩)]∧ba A B O t T∧T.nodes.length≤1000000:=hp
 have hCt:aI Tryz.prog (bQ [aM 58 xL,aM 59 tE,aM 60 Ct] noC):=aD (aA _) (fun x hx=>by
  simp only [List.mem_cons,List.not_mem_nil,or_false]at hx;rcases hx with rfl|rfl|rfl
  ·exact au Dh
  ·exact au sh
  ·exact au told_ok)
 refine⟨_,ic Tryz.prog _ noL 60 [(11,0),(11,2)],60,hCt,bg mixed hCt (az _) _ _,fun blk os out tape D hD=> ?_⟩;conv=>lhs;whnf
 refine(hD _).2 fun c A1 hc hA1 hM1=> ?_
 have hc:A.blk c=none:=hc;have hA1:∀k,k≠c→A1.blk k=A.blk k:=hA1;have hM1:bH A1 c []:=hM1;have s1:A.Sub A1:=fun k o hk=>by rw [hA1 k fun e=>by subst e;rw [hc]at hk;cases hk];exact hk
 conv=>lhs;whnf
 refine(hD _).2 ⟨⟨T,B,O,t⟩,⟨rfl,bq hT s1,hlen⟩,fun v A2 hq=> ?_⟩;obtain⟨s2,hS⟩:A1.Sub A2∧Sl (A2.minus A1) 1 (bc T).length v ((bc T).map ga):=hq;obtain⟨ps,hps⟩:∃ps,ps=bc T:=⟨_,rfl⟩;rw [←hps]at hS;have hpl:ps.length≤1000000:=by rw [hps,bc,eS,List.length_map];exact hlen
 obtain⟨ao,cp,rfl,hcp,_,ha1,ha2,ha3⟩:=hS;conv=>lhs;whnf
 refine(hD _).2 ⟨zZ A2 c ps,⟨(⟨0,A2, []⟩:A1G),⟨Nat.zero_le _,fun _ _=>rfl,hM1.sub fun o ho=>s2 _ _ ho,fun q=>rfl⟩,⟨rfl,trivial⟩,trivial,rfl⟩,fun(sg:A1G) hG=>⟨⟨trivial,trivial⟩,trivial,?_⟩⟩;obtain⟨k,As,l⟩:=sg;obtain⟨hk,hkeep,hM,hcnt⟩:k≤ps.length∧(∀b,b≠c→As.blk b=A2.blk b)∧bH As c (gd tM l)∧∀q,(aG q l).getD 0=eY (ps.take k) q:=hG
 obtain⟨oc,hoc⟩:∃o,A1.blk c=some o:=by
  obtain⟨es,cl,h1,_⟩:=hM1;exact⟨_,h1⟩
 have hPs:(A2.minus A1).Sub As:=fun b o hb=>by
  rw [hkeep b fun e=>by subst e;rw [eJ _ hoc]at hb;cases hb];exact(cj hb).2
 have hAs:A.Sub As:=fun b o hb=>by
  rw [hkeep b fun e=>by subst e;rw [hc]at hb;cases hb];exact s2 _ _ (s1 _ _ hb)
 conv=>lhs;whnf
 refine af (fun hlt=> ?_) (fun hlt=> ?_)<;>(conv=>lhs;whnf)
 ·have hkl:k<ps.length:=by
    have hlt:(k:Int)<(ps.length:Int):=hlt;omega
  obtain⟨g,o,rfl,hra⟩:=Sl.at_ hcp ha1 ha2 ha3 (by omega);have hrow:=bI hPs (y6 hra k hkl rfl);obtain⟨q,hq⟩:∃q,q=bytesOf ps[k]:=⟨_,rfl⟩;have hrow:As.rd g (o+k*1) 1=some [.string q]:=by rw [hrow,hq];rfl
  conv=>lhs;whnf
  refine jY (fun _ _=> ?_) (fun h=>by omega);conv=>lhs;whnf
  refine ai hrow ?_;conv=>lhs;whnf
  refine(hD _).2 ⟨q,rfl,fun v A9 hq9=> ?_⟩;obtain⟨h9,rfl⟩:As=A9∧v= .string (bj q):=⟨hq9.1.symm,hq9.2⟩;subst h9;conv=>lhs;whnf
  refine cW (kB hM (bj q)) ?_
  have hnb:(aG (bj q) l).getD 0≤1000000:=by
   rw [hcnt];have h1:=vG (ps.take k) (bj q);rw [List.length_take]at h1;omega
  have hnew:∀A3,(∀b,b≠c→A3.blk b=As.blk b)→bH A3 c (gd tM (bS (bj q) ((aG (bj q) l).getD 0+1) l))→(zZ A2 c ps).G (⟨k+1,A3,bS (bj q) ((aG (bj q) l).getD 0+1) l⟩:A1G):=fun A3 ho hm=>by
   refine⟨by show k+1≤ps.length;omega,fun b hb=>(ho b hb).trans (hkeep b hb),hm,fun q'=> ?_⟩;show(aG q' (bS (bj q) ((aG (bj q) l).getD 0+1) l)).getD 0=eY (ps.take (k+1)) q'
   rw [rG ps k hkl,←hq,iZ]
   by_cases e:q'=bj q
   ·rw [if_pos e,if_pos e,e,←hcnt];rfl
   ·rw [if_neg e,if_neg e,hcnt];rfl
  cases hkg:aG (bj q) l with
  |none=>
   rw [hkg]at hnew;conv=>lhs;whnf
   refine(hD _).2 ⟨_,hM,fy tM (bj q) _,fun A3 hm3 ho3=> ?_⟩;have hm3:bH A3 c (dV (.string (bj q)) (tM (0+1)) (gd tM l)):=hm3;rw [mn]at hm3;conv=>lhs;whnf
   exact(hD _).2 ⟨(⟨k+1,A3,bS (bj q) (0+1) l⟩:A1G),⟨hnew A3 ho3 hm3,⟨bf (k:=k) (by omega),trivial⟩,trivial,rfl⟩,by show ps.length-(k+1)<ps.length-k;omega,⟨rfl,rfl,rfl,rfl,rfl,trivial⟩,trivial⟩
  |some n=>
   rw [hkg]at hnew hnb;have hnb:n≤1000000:=hnb;conv=>lhs;whnf
   refine(hD _).2 ⟨_,hM,fy tM (bj q) _,fun A3 hm3 ho3=> ?_⟩;have hm3:bH A3 c (dV (.string (bj q)) (.int .i64 (IntKind.i64.wrap ((n:Int)+1))) (gd tM l)):=hm3;rw [Cl (by omega),show Value.int .i64 ((n+1:Nat):Int)=tM (n+1)from rfl,mn]at hm3;conv=>lhs;whnf
   exact(hD _).2 ⟨(⟨k+1,A3,bS (bj q) (n+1) l⟩:A1G),⟨hnew A3 ho3 hm3,⟨bf (k:=k) (by omega),trivial⟩,trivial,rfl⟩,by show ps.length-(k+1)<ps.length-k;omega,⟨rfl,rfl,rfl,rfl,rfl,trivial⟩,trivial⟩
 ·have e:k=ps.length:=by
    have hlt:¬(k:Int)<(ps.length:Int):=hlt;omega
  subst e;rw [List.take_length]at hcnt;have hTA:=bq hT hAs;refine(hD _).2 ⟨zY A As T ps,⟨(⟨0,As,As,.slice none 0 0, []⟩:A2G),⟨Nat.zero_le _,aa.Sub.refl _,aa.Sub.refl _,br.nil _ _ _ _,rfl,fun _ hx=>(by cases hx)⟩,⟨rfl,rfl,trivial⟩,trivial,rfl⟩,fun(sg:A2G) hG=>⟨⟨trivial,trivial,trivial⟩,trivial,?_⟩⟩;obtain⟨k,Ak,K,v0,rs⟩:=sg;obtain⟨hk,hKA,hLK,hGr,hrs,hdat⟩:k≤ps.length∧K.Sub Ak∧As.Sub K∧br K Ak 12 94 k v0 (rs.flatMap cV)∧rs.map (·.1)=(ps.take k).map (fun x=>toldOf T (bytesOf x))∧∀x∈rs,SlB (K.minus A) x.2 x.1.data:=hG;conv=>lhs;whnf
  refine af (fun hlt=> ?_) (fun hlt=> ?_)<;>(conv=>lhs;whnf)
  ·have hkl:k<ps.length:=by
     have hlt:(k:Int)<(ps.length:Int):=hlt;omega
   obtain⟨g,o,rfl,hra⟩:=Sl.at_ hcp ha1 ha2 ha3 (by omega);have hLA:=hLK.trans hKA;have hrow:=bI (hPs.trans hLA) (y6 hra k hkl rfl);obtain⟨q,hq⟩:∃q,q=bytesOf ps[k]:=⟨_,rfl⟩;have hrow:Ak.rd g (o+k*1) 1=some [.string q]:=by rw [hrow,hq];rfl
   have hqm:q∈T.nodes.map (·.1):=by
    rw [hq];exact iW (hps▸List.getElem_mem hkl)
   obtain⟨n,hn⟩:∃n,aG q T.nodes=some n:=by
    cases h:aG q T.nodes with
    |some n=>exact⟨n,rfl⟩
    |none=>exact absurd h (fU.2 hqm)
   conv=>lhs;whnf
   refine jY (fun _ _=> ?_) (fun h=>by omega);conv=>lhs;whnf
   refine ai hrow ?_;conv=>lhs;whnf
   refine cW (kB (hM.sub fun o ho=>hLA _ _ ho) q) ?_;obtain⟨cn,hcn⟩:∃cn,cn=(aG q l).getD 0:=⟨_,rfl⟩;have hkn:cn=lC T q:=by rw [hcn,hcnt,hps,wx]
   have htold:toldOf T q=⟨q,n.data, { n.stat with len:=n.data.length,kids:=cn }⟩:=by
    rw [toldOf,hn,hkn]
   rcases hkg:aG q l with _|n1
   all_goals
    rw [hkg]at hcn;conv=>lhs;whnf
    refine(hD _).2 ⟨(⟨T,B,O,t⟩,q,n,cn),⟨by rw [hcn];rfl,bq hT (hAs.trans hLA),hn⟩,fun v A4 hq4=> ?_⟩;obtain⟨s4,vd,rfl,hS4⟩:Ak.Sub A4∧∃vd,v=Dt q vd { n.stat with len:=n.data.length,kids:=cn } ∧SlB (A4.minus Ak) vd n.data:=hq4;obtain⟨ad,kd,rfl⟩:=hS4.1.form;conv=>lhs;whnf
    refine(hD _).2 fun gb A5 hN=> ?_
    obtain⟨x,hx⟩:∃x:aO×Value,x=(toldOf T q,.slice ad n.data.length kd):=⟨_,rfl⟩;have hNx:A4.New A5 gb (cV x).toArray 94:=by rw [hx,htold];exact hN
    have hxl:(cV x).length=12:=rfl;have hKA4:=hKA.trans s4;obtain⟨K',hK'⟩:∃K':aa,K'=K.plus (A4.minus Ak):=⟨_,rfl⟩;have hKK:K.Sub K':=by rw [hK'];exact qe _ _
    have hNK:(A4.minus Ak).Sub K':=by
     rw [hK'];refine xH fun j o hj=> ?_
     cases hKj:K.blk j with
     |none=>rfl
     |some o'=>rw [eJ _ (hKA _ _ hKj)]at hj;cases hj
    have hK4:K'.Sub A4:=fun j o hj=>by
     rw [hK']at hj;rcases fC hj with hj|⟨_,hj⟩
     ·exact hKA4 _ _ hj
     ·exact(cj hj).2
    have hG4:br K' Ak 12 94 k v0 (rs.flatMap cV):=Bu hGr fun j o h1 h2=>by
     rw [hK',kk,h1];exact eJ _ h2
    have hG5:=(hG4.sub s4).sub hN.sub;have hK5:=hK4.trans hN.sub
    have hd5:∀j,A5.blk j=none→K'.blk j=none:=fun j hj=>by
     cases h1:K'.blk j with
     |none=>rfl
     |some o=>rw [hK5 _ _ h1]at hj;cases hj
    obtain⟨base,c9,rfl,hbase,hP,hA⟩:=hG5.form;have hP:=hP 120 (by omega) (by omega);have hrow:A5.rd gb 0 (1*12)=some (cV x):=hNx.rd (o:=0) (n:=1*12) (by rw [List.size_toArray,hxl];omega);rcases hbase with rfl|⟨g0,rfl⟩<;>(conv=>lhs;whnf)
    all_goals
     refine(hD _).2 ⟨rs.flatMap cV,cV x,hP.rd,?_,rfl,?_,?_,hP.cap,rfl,hP.none_,fun g' o' he' hle' _=>hP.room 12 rfl g' o' he' hle',fun v A6 hAp=> ?_⟩
     ·show(if 1*12=0 then some []else A5.rd gb 0 (1*12))=_
      rw [if_neg (by omega)];exact hrow
     ·intro v hv
      rw [hx]at hv;simp only [cV,ec.cells,List.mem_cons,List.not_mem_nil,or_false]at hv;rcases hv with rfl|rfl|rfl|rfl|rfl|rfl|rfl|rfl|rfl|rfl|rfl|rfl<;>rfl
     ·show k+1≤9223372036854775807
      omega
     ·obtain⟨hG6,hk6⟩:=hA _ _ _ rfl hd5 hAp
      have hK6:K'.Sub A6:=fun j o hj=>by rw [hk6 j o hj];exact hK5 _ _ hj
      have hg6:(zY A As T ps).G (⟨k+1,A6,K',v,rs++ [x]⟩:A2G):=by
       refine⟨by show k+1≤ps.length;omega,hK6,hLK.trans hKK,?_,?_,fun y hy=> ?_⟩
       ·show br K' A6 12 94 (k+1) v ((rs++ [x]).flatMap cV)
        rw [List.flatMap_append,List.flatMap_singleton];exact hG6
       ·show(rs++ [x]).map (·.1)=(ps.take (k+1)).map fun y=>toldOf T (bytesOf y)
        rw [List.take_succ_eq_append_getElem hkl,List.map_append,List.map_append,hrs,List.map_singleton,List.map_singleton,←hq,hx]
       ·rcases List.mem_append.1 hy with hy|hy
        ·exact(hdat y hy).sub (qz hKK)
        ·simp only [List.mem_singleton]at hy
         subst hy;rw [hx,htold];refine hS4.sub fun j o hj=> ?_
         have hAj:A.blk j=none:=by
          cases hAj:A.blk j with
          |none=>rfl
          |some o'=>rw [eJ _ (hAs.trans hLA _ _ hAj)]at hj;cases hj
         show(match A.blk j with
          |none=>K'.blk j
          |some _=>none)=some o
         rw [hAj];exact hNK _ _ hj
      conv=>lhs;whnf
      exact(hD _).2 ⟨(⟨k+1,A6,K',v,rs++ [x]⟩:A2G),⟨hg6,⟨bf (k:=k) (by omega),rfl,trivial⟩,trivial,rfl⟩,by show ps.length-(k+1)<ps.length-k;omega,⟨rfl,rfl,rfl,rfl,rfl,trivial⟩,trivial⟩
  ·have e:k=ps.length:=by
     have hlt:¬(k:Int)<(ps.length:Int):=hlt;omega
   subst e;rw [List.take_length]at hrs;have hrs:rs.map (·.1)=aJ T:=by rw [hrs,hps];rfl
   have hl:(aJ T).length=ps.length:=by rw [aJ,List.length_map,hps]
   have hend:allS.post ⟨T,B,O,t⟩ [.pointer (some ⟨t,0,none⟩)] A v0 Ak:=by
    refine⟨hAs.trans (hLK.trans hKA),rs,hrs,?_,fun x hx=>(hdat x hx).sub (qz hKA)⟩;rw [hl];exact grow_sl hGr (hAs.trans hLK)
   exact(hD _).2 hend
theorem mf(T:aF):(ak T).length=T.seats.length:=by rw [ak,List.length_map,gz,List.length_map]
theorem oq(T:aF):(aJ T).length=T.nodes.length:=by rw [aJ,List.length_map,bc,eS,List.length_map]
def rn(T U:aF):Prop:=aJ T=aJ U∧ak T=ak U
def oX(T:aF):Prop:=jH T∧T.nodes.length≤1000000∧T.seats.length≤1000000
end
end Go.Proofs.YtmmlhdiejkknnaaGreatDoor
namespace Go.Proofs.YtmmlhdiejkknnaaGreatDoor
open Go.Sx Go.RowKit
noncomputable section
open Classical
section
variable {κ α : Type} [BEq κ] [LawfulBEq κ]
theorem dG{q:κ}{x:α}{l:List (κ×α)}(hn:(l.map (·.1)).Nodup):aG q l=some x↔(q,x)∈l:=
 ⟨fun h=>gV (fun _ h=>(eq_of_beq h).symm) h,fun h=>kC (fun _=>BEq.rfl) (fun _ _ h=>(eq_of_beq h).symm) hn h⟩
theorem Bm{l l':List (κ×α)}(h:l.Perm l')(hn:(l.map (·.1)).Nodup)(q:κ):aG q l=aG q l':=by
 have hn':(l'.map (·.1)).Nodup:=(h.map (·.1)).nodup_iff.1 hn
 cases hk:aG q l with
 |some x=>exact((dG hn').2 (h.mem_iff.1 ((dG hn).1 hk))).symm
 |none=>
  refine(gU fun hm=> ?_).symm;exact gI BEq.rfl hk ((h.map (·.1)).mem_iff.2 hm)
theorem lf [DecidableEq κ](q:κ):∀(l m:List (κ×α)),(l.map (·.1)).Nodup→aG q (l.foldl (fun m e=>bS e.1 e.2 m) m)=match aG q l with|some x=>some x|none=>aG q m
 | [],m,_=>rfl
 |(r,y)::l,m,hn=>by
  rw [List.map_cons,List.nodup_cons]at hn;rw [List.foldl_cons,lf q l _ hn.2,iZ]
  by_cases e:q=r
  ·subst e
   simp only [aG,BEq.rfl,cond_true,if_true];rw [gU hn.1]
  ·have hb:(q==r)=false:=by simpa using e
   simp only [aG,hb,cond_false,if_neg e]
theorem keys_perm{l l':List (κ×α)}(h:∀q,aG q l=aG q l')(hn:(l.map (·.1)).Nodup)(hn':(l'.map (·.1)).Nodup):(l.map (·.1)).Perm (l'.map (·.1)):=
 (List.perm_ext_iff_of_nodup hn hn').2 fun q=>by rw [←fU,←fU,h q]
end
theorem ba.nd{A B:aa}{O:Nat→Prop}{t:Nat}{T:aF}(h:ba A B O t T):ND T:=by
 obtain⟨m,s,E,h⟩:=h;exact⟨by rw [h.nodes,Bl];exact h.keys,h.skeys⟩
structure TOk(T:aF):Prop where
 nd:ND T
 ses:∀s x,aG s T.seats=some x→x.ses=s∧1≤s
 root:aG eV T.nodes≠none
theorem TOk.iq{T:aF}(h:TOk T):jH T:=fun e he=>(h.ses e.1 e.2 ((dG h.nd.2).2 he)).1
theorem tok_new:TOk aW:=⟨⟨by simp [aW],by simp [aW]⟩,fun s x h=>by simp [aW,aG]at h,by simp [aW,aG]⟩
theorem wz{h:c7}(hf:h.kind=1∨h.kind=2→h.path.data.toList≠ [47])(z time:Int){o:Option aX}(ho:o≠none):rL h z time eV o≠none:=by
 have hm:∀ {o:Option aX},o≠none→kz h z eV o≠none:=fun {o} ho=>by
  unfold kz
  split
  ·cases o with
   |none=>exact absurd rfl ho
   |some x=>simp
  ·exact ho
 unfold rL
 split
 ·split
  ·cases o with
   |none=>exact absurd rfl ho
   |some x=>simp
  ·exact ho
 ·split
  ·refine hm ?_
   split
   ·simp
   ·exact ho
  ·split
   ·rename_i h2
    refine hm ?_;rw [if_neg fun e=>hf (.inr h2) (by rw [←e];rfl)];exact ho
   ·exact hm ho
theorem sK{h:c7}{np:Nat}(hf:bZ h np):h.kind=1∨h.kind=2→h.path.data.toList≠ [47]:=by
 obtain⟨_,_,_,_,_,_,_,_,_,_,_,_,_,_,_,h9,_⟩:=hf;exact h9
theorem ql(z time:Int):∀(ps:List aU),(∀p∈ps,bZ p.h p.parts.length)→∀ {o:Option aX},o≠none→qm ps z time eV o≠none
 | [],_,o,ho=>ho
 |p::ps,hp,o,ho=>ql z time ps (fun q hq=>hp q (List.mem_cons_of_mem _ hq)) (wz (sK (hp p (by simp))) z time ho)
theorem TOk.apply{T:aF}(h:TOk T)(d:aU):TOk (aC T d):=by
 obtain⟨k0,k1,k2⟩:=lu h.nd d;refine⟨k0,fun s x hx=> ?_,?_⟩
 ·rw [k2]at hx
  by_cases hr:fi d
  ·rw [if_pos hr]at hx
   have hz:1≤d.h.zxid:=hr.1
   have key:∀o:Option bn,(∀y,o=some y→y.ses=s∧1≤s)→nk d s o=some x→x.ses=s∧1≤s:=fun o ho hx=>by
    unfold nk at hx
    split at hx
    ·cases o with
     |none=>cases hx
     |some y=>
      injection hx with hx
      subst hx;exact ho y rfl
    ·exact ho x hx
   refine key _ (fun y hy=> ?_) hx
   split at hy
   ·split at hy
    ·rename_i e
     injection hy with hy
     subst hy;rw [e];exact⟨rfl,hz⟩
    ·exact h.ses s y hy
   ·split at hy
    ·split at hy
     ·cases hy
     ·exact h.ses s y hy
    ·exact h.ses s y hy
  ·rw [if_neg hr]at hx
   exact h.ses s x hx
 ·rw [k1]
  by_cases hr:fi d
  ·rw [if_pos hr]
   unfold doF
   split
   ·exact wz (sK hr.2.2.2.2.2.2.1) _ _ h.root
   ·split
    ·rename_i h58
     refine ql _ _ _ (fun p hp=> ?_) h.root;rcases h58 with h5|h8
     ·exact((hr.2.2.2.2.2.2.2.1 h5).2.2 p hp).2.2.2.2.2.1
     ·exact((hr.2.2.2.2.2.2.2.2.2 h8).2.2 p hp).2.2.2.2.2.1
    ·exact h.root
  ·rw [if_neg hr];exact h.root
theorem DY{κ α:Type} [BEq κ] [LawfulBEq κ](p:κ)(l:List (κ×α)):(dQ p l).length≤l.length:=(eZ p l).length_le
theorem km(z time:Int):∀(ps:List aU) (T:aF),(bE T ps z time).seats=T.seats
 | [],_=>rfl
 |p::ps,T=>(km z time ps _).trans (gD T p.h z time)
theorem yO(T:aF)(d:aU):(aC T d).seats.length≤T.seats.length+2:=by
 have h1:(cC T d).seats.length≤T.seats.length+1:=by
  unfold cC
  split
  ·rw [gD];omega
  ·split
   ·exact iY _ _ _
   ·split
    ·rw [km]
     have:=DY d.h.owner T.seats;show(dQ d.h.owner T.seats).length≤_
     omega
    ·split
     ·rw [km];omega
     ·omega
 unfold aC
 split
 ·unfold aR
  split
  ·have:=iY d.h.ses ⟨‹bn›.ses, ‹bn›.tmo,max ‹bn›.turn d.h.turn⟩ (cC T d).seats
   show(bS _ _ (cC T d).seats).length≤_
   omega
  ·omega
 ·omega
theorem copy_eq{T:aF}(h:TOk T){E sk:List (ByteArray×Nat×aX)}(hE:T.nodes=dX (·.2) E)(hp:sk.Perm E):TEq T ⟨lj sk,bz (ak T)⟩:=by
 constructor
 ·intro q
  have h1:lj sk=(dX (·.2) sk).foldl (fun m e=>bS e.1 e.2 m) aW.nodes:=by
   unfold lj dX;rw [List.foldl_map]
  have hpm:T.nodes.Perm (dX (·.2) sk):=by
   rw [hE];exact(hp.map _).symm
  have hn:((dX (·.2) sk).map (·.1)).Nodup:=(hpm.map (·.1)).nodup_iff.1 h.nd.1;show aG q T.nodes=aG q (lj sk)
  rw [h1,lf q _ _ hn,←Bm hpm h.nd.1 q]
  cases hk:aG q T.nodes with
  |some x=>rfl
  |none=>
   by_cases e:q=eV
   ·subst e;exact absurd hk h.root
   ·have hb:(q==eV)=false:=by simpa using e
    simp [aW,aG,hb]
 ·intro s
  have hpos:∀x∈ak T,1≤x.ses∧aG x.ses T.seats=some x:=fun x hx=>by
   obtain⟨k,hk,rfl⟩:=List.mem_map.1 hx;have hk:=(fA _).mem_iff.1 hk;obtain⟨e,he,rfl⟩:=List.mem_map.1 hk;have hg:=(dG h.nd.2).2 (show(e.1,e.2)∈T.seats from he);have hs:=h.ses _ _ hg;have hso:eU T.seats e.1=e.2:=kW h.nd.2 h.iq he;rw [hso,hs.1];exact⟨hs.2,hg⟩
  have h1:∀(l:List bn) (m:List (Int×bn)),(∀x∈l,1≤x.ses)→l.foldl eF m=(l.map fun x=>(x.ses,x)).foldl (fun m e=>bS e.1 e.2 m) m:=fun l=>by
   induction l with
   |nil=>exact fun m _=>rfl
   |cons x l ih=>
    intro m hl;rw [List.foldl_cons,List.map_cons,List.foldl_cons,ih _ fun y hy=>hl y (List.mem_cons_of_mem _ hy)];have:=hl x (by simp);rw [eF,if_neg (by omega)]
  have hkeys:((ak T).map fun x=>(x.ses,x)).map (·.1)=ev (T.seats.map (·.1)):=by
   rw [List.map_map,ak,List.map_map];refine(List.map_congr_left fun k _=> ?_).trans (List.map_id _);exact gF _ _
  have hn:(((ak T).map fun x=>(x.ses,x)).map (·.1)).Nodup:=by
   rw [hkeys];exact(fA _).nodup_iff.2 h.nd.2
  show aG s T.seats=aG s (bz (ak T))
  unfold bz;rw [h1 _ _ fun x hx=>(hpos x hx).1,lf s _ _ hn]
  cases hk:aG s T.seats with
  |some x=>
   have hx:(s,x)∈(ak T).map fun x=>(x.ses,x):=by
    have hm:=(dG h.nd.2).1 hk;refine List.mem_map.2 ⟨x,List.mem_map.2 ⟨s,(fA _).mem_iff.2 (List.mem_map.2 ⟨_,hm,rfl⟩),kW h.nd.2 h.iq hm⟩,?_⟩;rw [(h.ses s x hk).1]
   rw [(dG hn).2 hx]
  |none=>
   rw [gU (l:=(ak T).map fun x=>(x.ses,x)) fun hm=> ?_]
   ·rfl
   ·rw [hkeys]at hm
    exact gI (by simp) hk ((fA _).mem_iff.1 hm)
end
end Go.Proofs.YtmmlhdiejkknnaaGreatDoor
namespace Go.Proofs.YtmmlhdiejkknnaaGreatDoor
open Go.Sx Go.RowKit
noncomputable section
open Classical
theorem AN{p q:ByteArray}(h:bx p=bx q):p=q:=ln h
theorem oE{T:aF}(h:ND T):(bc T).Nodup:=by
 refine(gK _).nodup_iff.2 ?_;have h1:=h.1;exact List.pairwise_map.2 ((List.pairwise_map.1 h1).imp fun hab e=>hab (AN e))
theorem mC{T:aF}(h:ND T):(bc T).Pairwise fun a b=>ltL a b=true:=by
 have hs:(bc T).Pairwise fun a b=>a≤b:=by
  have tr:∀a b c:List UInt8,decide (a≤b)=true→decide (b≤c)=true→decide (a≤c)=true:=fun a b c h1 h2=>by
   simp only [decide_eq_true_eq]at*;exact List.le_trans h1 h2
  have to:∀a b:List UInt8,(decide (a≤b)||decide (b≤a))=true:=fun a b=>by
   simp only [Bool.or_eq_true,decide_eq_true_eq];exact List.le_total a b
  exact(List.pairwise_mergeSort tr to _).imp fun h=>of_decide_eq_true h
 refine(hs.and (oE h)).imp fun {a b} hab=> ?_
 cases h:ltL a b with
 |true=>rfl
 |false=>
  refine absurd (tP h ?_) hab.2
  cases h2:ltL b a with
  |false=>rfl
  |true=>exact absurd ((pr b a).1 h2) (List.not_lt.2 hab.1)
def yT(n:aX):Prop:=n.data.length≤1000∧iM n.stat
def nb(T:aF):Prop:=∀q n,aG q T.nodes=some n→yT n
theorem EA{h:c7}{np:Nat}(hf:bZ h np){z time:Int}(hz:0≤z)(ht:0≤time){q:ByteArray}{o:Option aX}(ho:∀n,o=some n→yT n):∀n,rL h z time q o=some n→yT n:=by
 obtain⟨_,_,_,_,_,_,_,_,_,_,_,h1,h2,h3,h4,_⟩:=hf
 have hm:∀ {o:Option aX},(∀n,o=some n→yT n)→∀n,kz h z q o=some n→yT n:=fun {o} ho n hn=>by
  unfold kz at hn
  split at hn
  ·cases o with
   |none=>cases hn
   |some x=>
    injection hn with hn
    obtain⟨k1,k2,k3,k4,k5,k6,k7,k8,k9,k10,k11⟩:=ho x rfl;subst hn;exact⟨k1,k2,k3,hz,k5,k6,k7,h4,k9,k10,k11⟩
  ·exact ho n hn
 intro n hn;unfold rL at hn
 split at hn
 ·split at hn
  ·cases o with
   |none=>cases hn
   |some x=>
    injection hn with hn
    obtain⟨k1,k2,k3,k4,k5,k6,k7,k8,k9,k10,k11⟩:=ho x rfl;subst hn;exact⟨h1,k2,hz,k4,k5,ht,h3,k8,k9,k10,k11⟩
  ·exact ho n hn
 ·split at hn
  ·refine hm (fun m hm=> ?_) n hn
   split at hm
   ·injection hm with hm
    subst hm;exact⟨h1,hz,hz,hz,ht,ht,Int.le_refl _,Int.le_refl _,h2,Int.le_refl _,Int.le_refl _⟩
   ·exact ho m hm
  ·split at hn
   ·refine hm (fun m hm=> ?_) n hn
    split at hm
    ·cases hm
    ·exact ho m hm
   ·exact hm ho n hn
theorem vi{z time:Int}(hz:0≤z)(ht:0≤time){q:ByteArray} :∀(ps:List aU),(∀p∈ps,bZ p.h p.parts.length)→∀ {o:Option aX},(∀n,o=some n→yT n)→∀n,qm ps z time q o=some n→yT n
 | [],_,_,ho=>ho
 |p::ps,hp,_,ho=>vi hz ht ps (fun q hq=>hp q (List.mem_cons_of_mem _ hq)) (EA (hp p (by simp)) hz ht ho)
theorem nb.apply{T:aF}(h:nb T)(hn:ND T)(d:aU):nb (aC T d):=fun q n hq=>by
 obtain⟨_,k1,_⟩:=lu hn d;rw [k1]at hq
 by_cases hr:fi d
 ·rw [if_pos hr]at hq
  have hz:0≤d.h.zxid:=by have:=hr.1;omega
  have ht:0≤d.h.time:=hr.2.2.2.2.2.1;unfold doF at hq
  split at hq
  ·exact EA hr.2.2.2.2.2.2.1 hz ht (h q) n hq
  ·split at hq
   ·rename_i h58
    refine vi hz ht d.parts (fun p hp=> ?_) (h q) n hq;rcases h58 with h5|h8
    ·exact((hr.2.2.2.2.2.2.2.1 h5).2.2 p hp).2.2.2.2.2.1
    ·exact((hr.2.2.2.2.2.2.2.2.2 h8).2.2 p hp).2.2.2.2.2.1
   ·exact h q n hq
 ·rw [if_neg hr]at hq
  exact h q n hq
theorem vr:nb aW:=fun q n hq=>by
 simp only [aW,aG]at hq
 cases hb:q==eV with
 |false=>rw [hb]at hq;cases hq
 |true=>
  rw [hb]at hq;injection hq with hq
  subst hq;exact⟨by simp,by simp [iM]⟩
def erN(n:aX):aX:=⟨n.data, { n.stat with len:=0,kids:=0 }⟩
def Cf(T U:aF):Prop:=(∀q,(aG q T.nodes).map erN=(aG q U.nodes).map erN)∧∀s,aG s T.seats=aG s U.seats
theorem DV{T U:aF}(h:Cf T U)(hT:ND T)(hU:ND U):(T.nodes.map (·.1)).Perm (U.nodes.map (·.1)):=
 (List.perm_ext_iff_of_nodup hT.1 hU.1).2 fun q=>by
   rw [←fU,←fU];have:=h.1 q
   cases h1:aG q T.nodes<;>cases h2:aG q U.nodes<;>rw [h1,h2]at this<;>simp at this<;>simp
theorem Cf.same{T U:aF}(h:Cf T U)(hT:ND T)(hU:ND U):rn T U:=by
 have hp:=DV h hT hU;constructor
 ·have e:bc T=bc U:=by
    have hp:=hp.map bx;rw [List.map_map,List.map_map]at hp;exact mergeSort_of_perm hp
  rw [aJ,aJ,e];refine List.map_congr_left fun x _=> ?_
  have hk:lC T (bytesOf x)=lC U (bytesOf x):=hp.countP_eq _;have:=h.1 (bytesOf x);unfold toldOf;rw [hk]
  cases h1:aG (bytesOf x) T.nodes with
  |none=>
   cases h2:aG (bytesOf x) U.nodes with
   |none=>rfl
   |some m=>rw [h1,h2]at this;cases this
  |some n=>
   cases h2:aG (bytesOf x) U.nodes with
   |none=>rw [h1,h2]at this;cases this
   |some m=>
    rw [h1,h2]at this;injection this with this
    obtain⟨nd,⟨n1,n2,n3,n4,n5,n6,n7,n8,n9,n10⟩⟩:=n;obtain⟨md,⟨m1,m2,m3,m4,m5,m6,m7,m8,m9,m10⟩⟩:=m;simp only [erN,aX.mk.injEq,ec.mk.injEq]at this;obtain⟨rfl,rfl,rfl,rfl,rfl,rfl,rfl,rfl,rfl, -⟩:=this;rfl
 ·have hs:eU T.seats=eU U.seats:=by
    funext s
    unfold eU;rw [h.2 s]
  have hks:=keys_perm h.2 hT.2 hU.2;rw [ak,ak,hs,lz hks]
def cw(l:List aO):List (ByteArray×aX):=l.foldl (fun m x=>bS x.path ⟨x.data,x.stat⟩ m) []
theorem yd(l:List aO)(x:aO):cw (l++ [x])=bS x.path ⟨x.data,x.stat⟩ (cw l):=by
 unfold cw;rw [List.foldl_append];rfl
theorem nG{l:List aO}(hn:(l.map (·.path)).Nodup)(q:ByteArray):aG q (cw l)=aG q (l.map fun x=>(x.path,(⟨x.data,x.stat⟩:aX))):=by
 have h1:cw l=(l.map fun x=>(x.path,(⟨x.data,x.stat⟩:aX))).foldl (fun m e=>bS e.1 e.2 m) []:=by
  unfold cw;rw [List.foldl_map]
 rw [h1,lf q _ _ (by rw [List.map_map];exact hn)]
 cases aG q (l.map fun x=>(x.path,(⟨x.data,x.stat⟩:aX)))<;>rfl
theorem kR(T:aF)(p:ByteArray):(toldOf T p).path=p:=by
 unfold toldOf;split<;>rfl
theorem sT(T:aF):(aJ T).map (·.path)=(bc T).map bytesOf:=by
 rw [aJ,List.map_map];exact List.map_congr_left fun x _=>kR T _
theorem og{T:aF}(h:ND T):((aJ T).map (·.path)).Nodup:=by
 rw [sT];refine List.pairwise_map.2 ((oE h).imp fun {a b} hab e=>hab ?_);have:=congrArg bx e;simpa [bx,bytesOf]using this
theorem vC{T:aF}(h:ND T)(q:ByteArray):(aG q (cw (aJ T))).map erN=(aG q T.nodes).map erN:=by
 rw [nG (og h)]
 have hn:(((aJ T).map fun x=>(x.path,(⟨x.data,x.stat⟩:aX))).map (·.1)).Nodup:=by
  rw [List.map_map];exact og h
 cases hk:aG q T.nodes with
 |some n=>
  have hm:bx q∈bc T:=(gK _).mem_iff.2 (List.mem_map.2 ⟨(q,n),(dG h.1).1 hk,rfl⟩);have ht:toldOf T q=⟨q,n.data, { n.stat with len:=n.data.length,kids:=lC T q }⟩:=by unfold toldOf;rw [hk]
  have hx:(q,(⟨n.data, { n.stat with len:=n.data.length,kids:=lC T q }⟩:aX))∈(aJ T).map fun x=>(x.path,(⟨x.data,x.stat⟩:aX)):=by
   refine List.mem_map.2 ⟨toldOf T q,List.mem_map.2 ⟨bx q,hm,by rw [iJ]⟩,?_⟩;rw [ht]
  rw [(dG hn).2 hx];rfl
 |none=>
  rw [gU fun hm=> ?_];rw [List.map_map]at hm;have hm:q∈(aJ T).map (·.path):=hm;rw [sT]at hm;obtain⟨x,hx,rfl⟩:=List.mem_map.1 hm;exact fU.2 (iW hx) hk
def bN(T:aF)(ds:List aU):aF:=ds.foldl aC T
theorem pZ(T:aF)(ds es:List aU):bN T (ds++es)=bN (bN T ds) es:=by
 unfold bN;rw [List.foldl_append]
structure jh(T:aF):Prop where
 ok:TOk T
 keys:gu T
 nodes:nb T
theorem kS:jh aW:=⟨tok_new,fun e he=>by
 simp only [aW,List.mem_singleton]at he
 subst he;rfl,vr⟩
theorem jh.apply{T:aF}(h:jh T)(d:aU):jh (aC T d):=⟨h.ok.apply d,yP h.keys d,h.nodes.apply h.ok.nd d⟩
theorem jh.row{T:aF}(h:jh T):∀ds:List aU,jh (bN T ds):=fun ds=>by
 induction ds generalizing T with
 |nil=>exact h
 |cons d ds ih=>exact ih (h.apply d)
theorem rO{T:aF}{p:ByteArray}{n:aX}(h:aG p T.nodes=some n):toldOf T p=⟨p,n.data, { n.stat with len:=n.data.length,kids:=lC T p }⟩:=by
 unfold toldOf;rw [h]
theorem zX{T:aF}{x:List UInt8}(hx:x∈bc T):∃n,aG (bytesOf x) T.nodes=some n:=by
 cases h:aG (bytesOf x) T.nodes with
 |some n=>exact⟨n,rfl⟩
 |none=>exact absurd h (fU.2 (iW hx))
theorem iD(x:List UInt8):bx (bytesOf x)=x:=by simp [bx,bytesOf]
theorem xr{T:aF}(h:jh T):∃ps,bc T= [47]::ps:=by
 have hr:([47]:List UInt8)∈bc T:=by
  obtain⟨e,he,h1⟩:=List.mem_map.1 (fU.1 h.ok.root);exact(gK _).mem_iff.2 (List.mem_map.2 ⟨e,he,by rw [h1];rfl⟩)
 have hs:=mC h.ok.nd
 cases hp:bc T with
 |nil=>rw [hp]at hr;cases hr
 |cons x ps=>
  rw [hp]at hr hs;rcases List.mem_cons.1 hr with e|hm
  ·exact⟨ps,by rw [e]⟩
  ·have hlt:=(List.pairwise_cons.1 hs).1 _ hm
   have hx:x∈bc T:=by rw [hp];simp
   obtain⟨e,he,h1⟩:=List.mem_map.1 (iW hx);have hk:=h.keys e he;have e2:e.1.data.toList=x:=by rw [h1];exact iD x
   rw [e2]at hk;exfalso;unfold bR at hk
   split at hk
   ·rename_i q
    simp [ltL]at hlt
   ·cases hk
theorem tS{T:aF}(h:jh T):EY (aJ T):=by
 refine⟨fun x hx=> ?_,?_,?_⟩
 ·obtain⟨y,hy,rfl⟩:=List.mem_map.1 hx
  obtain⟨n,hn⟩:=zX hy;obtain⟨h1,h2,h3,h4,h5,h6,h7,h8,h9,_,_⟩:=h.nodes _ _ hn;rw [rO hn];obtain⟨e,he,h0⟩:=List.mem_map.1 (iW hy);have hk:=h.keys e he;rw [h0]at hk;exact⟨hk,h1,h2,h3,h4,h5,h6,h7,h8,h9,by show(0:Int)≤(n.data.length:Int);omega,by show(0:Int)≤(lC T (bytesOf y):Int);omega⟩
 ·rw [aJ]
  refine List.pairwise_map.2 ((mC h.ok.nd).imp fun {a b} hab=> ?_);rw [kR,kR,iD,iD];exact hab
 ·obtain⟨ps,hp⟩:=xr h
  rw [aJ,hp];exact⟨_,rfl,kR T _⟩
theorem yb{T:aF}(h:jh T):Cf T ⟨cw (aJ T),bz (ak T)⟩:=
 ⟨fun q=>(vC h.ok.nd q).symm,fun s=>by
   have hE:T.nodes=dX (·.2) (T.nodes.map fun e=>(e.1,(0:Nat),e.2)):=by
    unfold dX;rw [List.map_map];exact(List.map_id _).symm
   exact(copy_eq h.ok hE (List.Perm.refl _)).2 s⟩
structure gY(T:aF):Prop where
 nodes:∀q n,aG q T.nodes=some n→fh n.stat
 seats:∀s x,aG s T.seats=some x→na x∧0≤x.tmo∧0≤x.turn
theorem dE:I64 0:=⟨by decide,by decide⟩
theorem EB{h:c7}(hh:H64 h){z time:Int}(hz:I64 z)(ht:I64 time){q:ByteArray}{o:Option aX}(ho:∀n,o=some n→fh n.stat):∀n,rL h z time q o=some n→fh n.stat:=by
 obtain⟨_,_,_,_,_,h2,h3,h4,_⟩:=hh
 have hm:∀ {o:Option aX},(∀n,o=some n→fh n.stat)→∀n,kz h z q o=some n→fh n.stat:=fun {o} ho n hn=>by
  unfold kz at hn
  split at hn
  ·cases o with
   |none=>cases hn
   |some x=>
    injection hn with hn
    obtain⟨k2,k3,k4,k5,k6,k7,k8,k9⟩:=ho x rfl;subst hn;exact⟨k2,k3,hz,k5,k6,k7,h4,k9⟩
  ·exact ho n hn
 intro n hn;unfold rL at hn
 split at hn
 ·split at hn
  ·cases o with
   |none=>cases hn
   |some x=>
    injection hn with hn
    obtain⟨k2,k3,k4,k5,k6,k7,k8,k9⟩:=ho x rfl;subst hn;exact⟨k2,hz,k4,k5,ht,h3,k8,k9⟩
  ·exact ho n hn
 ·split at hn
  ·refine hm (fun m hm=> ?_) n hn
   split at hm
   ·injection hm with hm
    subst hm;exact⟨hz,hz,hz,ht,ht,dE,dE,h2⟩
   ·exact ho m hm
  ·split at hn
   ·refine hm (fun m hm=> ?_) n hn
    split at hm
    ·cases hm
    ·exact ho m hm
   ·exact hm ho n hn
theorem vk{z time:Int}(hz:I64 z)(ht:I64 time){q:ByteArray} :∀(ps:List aU),(∀p∈ps,H64 p.h)→∀ {o:Option aX},(∀n,o=some n→fh n.stat)→∀n,qm ps z time q o=some n→fh n.stat
 | [],_,_,ho=>ho
 |p::ps,hp,_,ho=>vk hz ht ps (fun q hq=>hp q (List.mem_cons_of_mem _ hq)) (EB (hp p (by simp)) hz ht ho)
theorem gY.apply{T:aF}(h:gY T)(hn:ND T){d:aU}(hd:ib d):gY (aC T d):=by
 obtain⟨_,k1,k2⟩:=lu hn d;obtain⟨⟨d1,d2,d3,d4,d5,d6,d7,d8,d9,_⟩,dp⟩:=hd;have hd1:H64 d.h:=⟨d1,d2,d3,d4,d5,d6,d7,d8,d9,by assumption⟩;refine⟨fun q n hq=> ?_,fun s x hs=> ?_⟩
 ·rw [k1]at hq
  split at hq
  ·unfold doF at hq
   split at hq
   ·exact EB hd1 d1 d5 (h.nodes q) n hq
   ·split at hq
    ·exact vk d1 d5 d.parts dp (h.nodes q) n hq
    ·exact h.nodes q n hq
  ·exact h.nodes q n hq
 ·rw [k2]at hs
  split at hs
  ·rename_i hr
   have ht:0≤d.h.turn:=hr.2.2.2.1
   have hin:∀x,(if d.h.kind=4 then(if s=d.h.zxid then some (⟨d.h.zxid,d.h.tmo,d.h.turn⟩:bn)else aG s T.seats)else if d.h.kind=5 then(if s=d.h.owner then none else aG s T.seats)else aG s T.seats)=some x→na x∧0≤x.tmo∧0≤x.turn:=fun x hx=>by
    split at hx
    ·rename_i h4
     split at hx
     ·injection hx with hx
      subst hx;have h5:=hr.2.2.2.2.2.2.1.2.2.2.2.2.2.2.2.2.2.2.2.2.2.2.2.1 h4;exact⟨⟨d1,d9,d3⟩,by show 0≤d.h.tmo;omega,ht⟩
     ·exact h.seats s x hx
    ·split at hx
     ·split at hx
      ·cases hx
      ·exact h.seats s x hx
     ·exact h.seats s x hx
   unfold sitF nk at hs
   split at hs
   ·cases hy:(if d.h.kind=4 then(if s=d.h.zxid then some (⟨d.h.zxid,d.h.tmo,d.h.turn⟩:bn)else aG s T.seats)else if d.h.kind=5 then(if s=d.h.owner then none else aG s T.seats)else aG s T.seats)with
    |none=>rw [hy]at hs;cases hs
    |some y=>
     rw [hy]at hs;injection hs with hs
     subst hs;obtain⟨⟨y1,y2,y3⟩,y4,y5⟩:=hin y hy;refine⟨⟨y1,y2,?_⟩,y4,by show 0≤max y.turn d.h.turn;omega⟩;unfold I64 at*;show-9223372036854775808≤max y.turn d.h.turn∧max y.turn d.h.turn≤9223372036854775807
     omega
   ·exact hin x hs
  ·exact h.seats s x hs
theorem pN:gY aW:=⟨fun q n hq=>by
 simp only [aW,aG]at hq
 cases hb:q==eV with
 |false=>rw [hb]at hq;cases hq
 |true=>
  rw [hb]at hq;injection hq with hq
  subst hq
  exact⟨dE,dE,dE,dE,dE,dE,dE,dE⟩,fun s x hs=>by simp [aW,aG]at hs⟩
theorem gY.row{T:aF}(h:gY T)(hn:ND T):∀ds:List aU,(∀d∈ds,ib d)→gY (bN T ds):=fun ds hd=>by
 induction ds generalizing T with
 |nil=>exact h
 |cons d ds ih=>exact ih (h.apply hn (hd d (by simp))) (lu hn d).1 fun e he=>hd e (List.mem_cons_of_mem _ he)
theorem EV{T:aF}(h:gY T):∀x∈aJ T,fh x.stat:=fun x hx=>by
 obtain⟨y,hy,rfl⟩:=List.mem_map.1 hx;obtain⟨n,hn⟩:=zX hy;rw [rO hn];exact h.nodes _ _ hn
theorem uP{T:aF}(h:ND T)(hs:jH T){x:bn}(hx:x∈ak T):aG x.ses T.seats=some x:=by
 obtain⟨s,hm,rfl⟩:=List.mem_map.1 hx;have hm:=(fA _).mem_iff.1 hm;obtain⟨e,he,rfl⟩:=List.mem_map.1 hm;rw [kW h.2 hs he,hs e he];exact(dG h.2).2 he
theorem pX{T:aF}(h:ND T)(hs:jH T)(hi:gY T):∀x∈ak T,na x∧0≤x.tmo∧0≤x.turn:=fun x hx=>hi.seats x.ses x (uP h hs hx)
theorem Am{T:aF}(h:ND T):(ak T).Pairwise fun a b=>a.ses<b.ses:=by
 have h1:(ev (T.seats.map (·.1))).Pairwise fun a b=>a<b:=by
  have h2:(ev (T.seats.map (·.1))).Pairwise fun a b=>a≤b:=by
   rw [pW]
   have tr:∀a b c:Int,decide (a≤b)=true→decide (b≤c)=true→decide (a≤c)=true:=fun a b c h1 h2=>by
    simp only [decide_eq_true_eq]at*;omega
   have to:∀a b:Int,(decide (a≤b)||decide (b≤a))=true:=fun a b=>by
    simp only [Bool.or_eq_true,decide_eq_true_eq];omega
   exact(List.pairwise_mergeSort tr to _).imp fun h=>of_decide_eq_true h
  have h3:(ev (T.seats.map (·.1))).Nodup:=(fA _).nodup_iff.2 h.2;refine(h2.and h3).imp fun {a b} hab=> ?_
  have:=hab.2;omega
 unfold ak;refine List.pairwise_map.2 (h1.imp fun {a b} hab=> ?_);rw [gF,gF];exact hab
end
end Go.Proofs.YtmmlhdiejkknnaaGreatDoor
namespace Go.Proofs.YtmmlhdiejkknnaaGreatDoor
open Go.Sx Go.RowKit
noncomputable section
def zig(n:Int):Nat:=if 0≤n then(2*n).toNat else(-2*n-1).toNat
theorem Ci{n:Int}(h1: -9223372036854775808≤n)(h2:n≤9223372036854775807):zig n<18446744073709551616:=by
 unfold zig
 split<;>omega
def nj:Nat→Nat→List UInt8
 |0,u=> [UInt8.ofNat u]
 |f+1,u=>if u<128 then [UInt8.ofNat u]else UInt8.ofNat (u%128+128)::nj f (u/128)
def ab(n:Int):List UInt8:=nj 9 (zig n)
theorem fR:∀f u,(nj f u).length≤f+1
 |0,_=>Nat.le_refl _
 |f+1,u=>by
  unfold nj
  split
  ·simp
  ·have:=fR f (u/128)
   simp only [List.length_cons];omega
def VI(T L:List UInt8)(u f:Nat):Prop:=L++nj f u=T∧u<2*128^f
theorem VI.start{n:Int}(h1: -9223372036854775808≤n)(h2:n≤9223372036854775807)(L:List UInt8):VI (L++ab n) L (zig n) 9:=
 ⟨rfl,by have:=Ci h1 h2;exact Nat.lt_of_lt_of_eq this (by decide)⟩
theorem VI.next{T L:List UInt8}{u f:Nat}(h:VI T L u f)(hu:128≤u):∃f',VI T (L++ [UInt8.ofNat (u%128+128)]) (u/128) f':=by
 obtain⟨h1,h2⟩:=h
 cases f with
 |zero=>exact absurd h2 (by simp;omega)
 |succ f=>
  refine⟨f,?_,?_⟩
  ·rw [←h1]
   show _=L++(if u<128 then _ else _)
   rw [if_neg (by omega),List.append_assoc];rfl
  ·rw [Nat.pow_succ]at h2
   omega
theorem VI.last{T L:List UInt8}{u f:Nat}(h:VI T L u f)(hu:u<128):L++ [UInt8.ofNat u]=T:=by
 obtain⟨h1,_⟩:=h;rw [←h1]
 cases f with
 |zero=>rfl
 |succ f=>
  show _=L++(if u<128 then _ else _)
  rw [if_pos hu]
theorem VI.len{T L:List UInt8}{u f:Nat}(h:VI T L u f):L.length≤T.length:=by
 rw [←h.1,List.length_append];omega
theorem pb(u:Nat):IntKind.u8.wrap (u:Int)=((u%256:Nat):Int):=by
 have h:IntKind.u8.wrap (u:Int)=(u:Int)%256:=rfl;rw [h];omega
theorem mc{n:Int}(h0:0≤n)(h1:n<18446744073709551616):IntKind.u64.wrap n=n:=by
 have h:IntKind.u64.wrap n=n%18446744073709551616:=rfl;rw [h];omega
theorem or_128(u:Nat):bitsOf .or .u8 ((u%256:Nat):Int) 128=((u%128+128:Nat):Int):=by
 have key:∀x:Fin 256,bitsOf .or .u8 ((x.val:Nat):Int) 128=((x.val%128+128:Nat):Int):=by decide+kernel
 have:=key ⟨u%256,Nat.mod_lt _ (by decide)⟩;rw [this];congr 1;show u%256%128+128=_
 omega
theorem wE{x:Nat}(h:x<256):bv (UInt8.ofNat x)= .int .u8 (x:Int):=by
 unfold bv;rw [UInt8.toNat_ofNat_of_lt' h]
theorem shr_7(u:Nat):(u:Int).fdiv (2^(min (7:Int).toNat IntKind.u64.bits))=((u/128:Nat):Int):=by
 show(u:Int).fdiv 128=_
 rw [Int.fdiv_eq_ediv_of_nonneg _ (by decide)];omega
theorem shr_63{n:Int}(h1: -9223372036854775808≤n)(h2:n≤9223372036854775807):n.fdiv (2^(min (63:Int).toNat IntKind.i64.bits))=if 0≤n then 0 else-1:=by
 show n.fdiv 9223372036854775808=_
 rw [Int.fdiv_eq_ediv_of_nonneg _ (by decide)]
 split<;>omega
theorem Ch{n:Int}(h1: -9223372036854775808≤n)(h2:n≤9223372036854775807):
  bitsOf .xor .u64 (IntKind.u64.wrap (IntKind.u64.wrap n*2^(min (1:Int).toNat IntKind.u64.bits))) (IntKind.u64.wrap (n.fdiv (2^(min (63:Int).toNat IntKind.i64.bits))))=(zig n:Int):=by
 rw [shr_63 h1 h2];have hw:∀m:Int,IntKind.u64.wrap m=m%18446744073709551616:=fun _=>rfl
 unfold zig
 by_cases h0:0≤n
 ·rw [if_pos h0,if_pos h0]
  have e1:IntKind.u64.wrap (IntKind.u64.wrap n*2^(min (1:Int).toNat IntKind.u64.bits))=((2*n).toNat:Int):=by
   rw [hw,hw];show n%18446744073709551616*2%18446744073709551616=_
   omega
  rw [e1];show IntKind.u64.wrap (BitVec.ofInt 64 ((2*n).toNat:Int)^^^BitVec.ofInt 64 0).toNat=_
  have e2:BitVec.ofInt 64 0=0#64:=rfl;rw [e2,BitVec.xor_zero,hw,BitVec.toNat_ofInt];omega
 ·rw [if_neg h0,if_neg h0]
  have e1:IntKind.u64.wrap (IntKind.u64.wrap n*2^(min (1:Int).toNat IntKind.u64.bits))=18446744073709551616+2*n:=by
   rw [hw,hw];show n%18446744073709551616*2%18446744073709551616=_
   omega
  rw [e1];show IntKind.u64.wrap (BitVec.ofInt 64 (18446744073709551616+2*n)^^^BitVec.ofInt 64 (IntKind.u64.wrap (-1))).toNat=_
  have e2:BitVec.ofInt 64 (IntKind.u64.wrap (-1))=BitVec.allOnes 64:=by decide+kernel
  rw [e2,BitVec.xor_allOnes,BitVec.toNat_not,BitVec.toNat_ofInt,hw];omega
theorem i64_in{n:Int}(h0: -9223372036854775808≤n)(h1:n≤9223372036854775807):IntKind.i64.wrap n=n:=by
 simp only [IntKind.wrap,IntKind.bits,IntKind.signed];simp;omega
def fm:Nat→Nat→List UInt8→Option (Nat×List UInt8)
 |_,_, []=>none
 |k,u,c::l=>if 128≤c.toNat∧k<9 then fm (k+1) (u+(c.toNat-128)*128^k) l
  else if c.toNat=0∧0<k∨1<c.toNat∧k=9 then none
  else some (u+c.toNat*128^k,l)
def zag(u:Nat):Int:=if u%2=0 then((u/2:Nat):Int)else-((u/2:Nat):Int)-1
def jP(l:List UInt8):Option (Int×List UInt8):=match fm 0 0 l with
 |some r=>some (zag r.1,r.2)
 |none=>none
theorem zag_le(u:Nat)(h:u<18446744073709551616): -9223372036854775808≤zag u∧zag u≤9223372036854775807:=by
 unfold zag
 split<;>omega
theorem pK:∀(l:List UInt8) (k u v:Nat) (r:List UInt8),k≤9→u<128^k→fm k u l=some (v,r)→v<18446744073709551616∧r.length<l.length
 | [],_,_,_,_,_,_,h=>by cases h
 |c::l,k,u,v,r,hk,hu,h=>by
  unfold fm at h;have hc:=c.toNat_lt
  split at h
  ·rename_i h1
   have h2:=pK l (k+1) _ v r (by omega) (by
    rw [Nat.pow_succ];have:(c.toNat-128)*128^k≤127*128^k:=Nat.mul_le_mul_right _ (by omega)
    omega) h
   exact⟨h2.1,by simp only [List.length_cons];omega⟩
  ·rename_i h1
   split at h
   ·cases h
   ·rename_i h2
    injection h with h
    injection h with h3 h4
    subst h3;subst h4
    refine⟨?_,by simp⟩
    by_cases h9:k=9
    ·subst h9
     have:c.toNat*128^9≤1*128^9:=Nat.mul_le_mul_right _ (by omega);have e:(128:Nat)^9=9223372036854775808:=by decide
     omega
    ·have h10:c.toNat≤127:=by omega
     have:c.toNat*128^k≤127*128^k:=Nat.mul_le_mul_right _ h10;have hp:(128:Nat)^k≤128^8:=Nat.pow_le_pow_right (by decide) (by omega);have e:(128:Nat)^8=72057594037927936:=by decide
     omega
theorem y0{l:List UInt8}{n:Int}{r:List UInt8}(h:jP l=some (n,r)):(-9223372036854775808≤n∧n≤9223372036854775807)∧r.length<l.length:=by
 unfold jP at h
 split at h
 ·rename_i x hx
  obtain⟨v,r'⟩:=x;injection h with h
  injection h with h1 h2
  have h1:zag v=n:=h1;have h2:r'=r:=h2;subst h1;subst h2
  have:=pK l 0 0 v r' (by decide) (by decide) hx;exact⟨zag_le v this.1,this.2⟩
 ·cases h
theorem uE:∀(f k u0 u:Nat) (r:List UInt8),f+k=9→u<2*128^f→(0<k→0<u)→fm k u0 (nj f u++r)=some (u0+u*128^k,r)
 |0,k,u0,u,r,hk,hu,h0=>by
  have hk:k=9:=by omega
  subst hk;have hu:u<2:=by simpa using hu
  have hp:=h0 (by decide);show fm 9 u0 (UInt8.ofNat u::r)=_
  unfold fm;rw [UInt8.toNat_ofNat_of_lt' (by omega:u<256),if_neg (by omega),if_neg (by omega)]
 |f+1,k,u0,u,r,hk,hu,h0=>by
  unfold nj
  split
  ·rename_i h1
   show fm k u0 (UInt8.ofNat u::r)=_
   unfold fm;rw [UInt8.toNat_ofNat_of_lt' (by omega:u<256),if_neg (by omega),if_neg (by omega)]
  ·rename_i h1
   show fm k u0 (UInt8.ofNat (u%128+128)::(nj f (u/128)++r))=_
   unfold fm;rw [UInt8.toNat_ofNat_of_lt' (by omega:u%128+128<256),if_pos (by omega),uE f (k+1) _ (u/128) r (by omega) (by rw [Nat.pow_succ]at hu;omega) (fun _=>by omega)];congr 2;rw [Nat.pow_succ,Nat.add_sub_cancel,Nat.add_assoc,Nat.mul_comm (128^k) 128,←Nat.mul_assoc,←Nat.add_mul];congr 2;omega
theorem zag_zig{n:Int} :zag (zig n)=n:=by
 unfold zag zig
 split<;>split<;>omega
theorem wV{n:Int}(h1: -9223372036854775808≤n)(h2:n≤9223372036854775807)(r:List UInt8):jP (ab n++r)=some (n,r):=by
 unfold jP ab;rw [uE 9 0 0 (zig n) r rfl (by have:=Ci h1 h2;exact Nat.lt_of_lt_of_eq this (by decide)) (fun h=>absurd h (by decide))];show some (zag (0+zig n*128^0),r)=_
 rw [Nat.zero_add,Nat.pow_zero,Nat.mul_one,zag_zig]
abbrev bt:=Option (List UInt8)
def dL:bt→UInt8×bt
 |some (c::r)=>(c,some r)
 |_=>(0,none)
def bA:bt→Int×bt
 |none=>(0,none)
 |some l=>match jP l with
  |some (n,r)=>(n,some r)
  |none=>(0,none)
def ah(most:Int)(s:bt):Int×bt:=if (bA s).1<0∨most<(bA s).1 then(0,none)else bA s
def aZ(most:Int)(s:bt):List UInt8×bt:=match (ah most s).2 with
 |none=>([],none)
 |some l=>if (ah most s).1.toNat≤l.length then(l.take (ah most s).1.toNat,some (l.drop (ah most s).1.toNat))else([],none)
theorem pInt_in(s:bt): -9223372036854775808≤(bA s).1∧(bA s).1≤9223372036854775807:=by
 unfold bA
 split
 ·exact⟨by decide,by decide⟩
 ·split
  ·rename_i h
   exact(y0 h).1
  ·exact⟨by decide,by decide⟩
def bd:bt→Nat
 |none=>0
 |some l=>l.length
theorem qu(s:bt):bd (bA s).2≤bd s:=by
 unfold bA
 split
 ·exact Nat.le_refl _
 ·split
  ·rename_i h
   exact Nat.le_of_lt (y0 h).2
  ·exact Nat.zero_le _
theorem bU(most:Int)(s:bt):bd (ah most s).2≤bd s:=by
 unfold ah
 split
 ·exact Nat.zero_le _
 ·exact qu s
theorem gG(most:Int)(s:bt):bd (aZ most s).2≤bd s∧(aZ most s).1.length≤bd s:=by
 have h:=bU most s;unfold aZ
 split
 ·exact⟨Nat.zero_le _,Nat.zero_le _⟩
 ·rename_i l hl
  rw [hl]at h;have h:l.length≤bd s:=h
  split
  ·refine⟨?_,?_⟩
   ·show(l.drop _).length≤_
    rw [List.length_drop];omega
   ·show(l.take _).length≤_
    rw [List.length_take];omega
  ·exact⟨Nat.zero_le _,Nat.zero_le _⟩
theorem AS(s:bt):bd (dL s).2≤bd s:=by
 unfold dL
 split
 ·exact Nat.le_succ _
 ·exact Nat.zero_le _
theorem ej{most:Int}{s:bt}(hm:0≤most):0≤(ah most s).1∧(ah most s).1≤most:=by
 unfold ah
 split
 ·exact⟨Int.le_refl _,hm⟩
 ·omega
theorem or_add{u c k:Nat}(hu:u<128^k)(hc:c<128)(hk:k≤9)(h9:k=9→c≤1):
  bitsOf .or .u64 (u:Int) (IntKind.u64.wrap ((c:Int)*2^(min (7*k) 64)))=((u+c*128^k:Nat):Int):=by
 have e7:128^k=2^(7*k):=by rw [show 128=2^7 from rfl,←Nat.pow_mul]
 have hmin:min (7*k) 64=7*k:=by omega
 have hlt:u+c*128^k<18446744073709551616:=by
  by_cases h:k=9
  ·subst h
   have:=h9 rfl;have e:(128:Nat)^9=9223372036854775808:=by decide
   rw [e]at hu ⊢;omega
  ·have h1:c*128^k≤127*128^k:=Nat.mul_le_mul_right _ (by omega)
   have h2:128^(k+1)≤128^9:=Nat.pow_le_pow_right (by decide) (by omega);have e:(128:Nat)^9=9223372036854775808:=by decide
   rw [Nat.pow_succ]at h2;rw [e]at h2;omega
 have hw:IntKind.u64.wrap ((c:Int)*2^(min (7*k) 64))=((c*128^k:Nat):Int):=by
  rw [hmin,mc]
  ·rw [e7];push_cast;rfl
  ·exact Int.mul_nonneg (Int.natCast_nonneg _) (by exact_mod_cast Nat.zero_le (2^(7*k)))
  ·have:((c:Int)*2^(7*k))=((c*128^k:Nat):Int):=by rw [e7];push_cast;rfl
   rw [this];omega
 rw [hw];show IntKind.u64.wrap (((BitVec.ofInt 64 ((u:Nat):Int)|||BitVec.ofInt 64 ((c*128^k:Nat):Int)).toNat:Nat):Int)=_
 rw [BitVec.ofInt_natCast,BitVec.ofInt_natCast,BitVec.toNat_or,BitVec.toNat_ofNat,BitVec.toNat_ofNat,Nat.mod_eq_of_lt (by omega),Nat.mod_eq_of_lt (by omega)]
 have hor:u|||c*128^k=u+c*128^k:=by
  rw [e7]at hu ⊢;rw [Nat.or_comm,←Nat.shiftLeft_eq,←Nat.shiftLeft_add_eq_or_of_lt hu,Nat.add_comm]
 rw [hor,mc (by omega) (by omega)]
theorem and_127{c:Nat}(h:c<256):bitsOf .and .u64 (c:Int) 127=((c%128:Nat):Int):=by
 have key:∀x:Fin 256,bitsOf .and .u64 ((x.val:Nat):Int) 127=((x.val%128:Nat):Int):=by decide+kernel
 exact key ⟨c,h⟩
theorem and_1(u:Nat)(h:u<18446744073709551616):bitsOf .and .u64 (u:Int) 1=((u%2:Nat):Int):=by
 show IntKind.u64.wrap (((BitVec.ofInt 64 ((u:Nat):Int)&&&BitVec.ofInt 64 1).toNat:Nat):Int)=_
 have e:BitVec.ofInt 64 1=1#64:=rfl;rw [e,BitVec.ofInt_natCast,BitVec.toNat_and,BitVec.toNat_ofNat,Nat.mod_eq_of_lt (by omega)];have e2:(1#64).toNat=1:=rfl;rw [e2,Nat.and_one_is_mod,mc (by omega) (by omega)]
theorem iN{u:Nat}(h:u<18446744073709551616):
  bitsOf .xor .i64 (IntKind.i64.wrap ((u:Int).fdiv (2^(min (1:Int).toNat IntKind.u64.bits)))) (IntKind.i64.wrap (0-IntKind.i64.wrap (bitsOf .and .u64 (u:Int) 1)))=zag u:=by
 have e1:(u:Int).fdiv (2^(min (1:Int).toNat IntKind.u64.bits))=((u/2:Nat):Int):=by
  show(u:Int).fdiv 2=_
  rw [Int.fdiv_eq_ediv_of_nonneg _ (by decide)];omega
 rw [e1,and_1 u h,i64_in (by omega) (by omega),i64_in (n:=((u%2:Nat):Int)) (by omega) (by omega),i64_in (by omega) (by omega)];show IntKind.i64.wrap (((BitVec.ofInt 64 ((u/2:Nat):Int)^^^BitVec.ofInt 64 (0-((u%2:Nat):Int))).toNat:Nat):Int)=_
 unfold zag
 by_cases h0:u%2=0
 ·rw [if_pos h0,h0]
  have e:BitVec.ofInt 64 (0-((0:Nat):Int))=0#64:=by decide
  rw [e,BitVec.xor_zero,BitVec.ofInt_natCast,BitVec.toNat_ofNat,Nat.mod_eq_of_lt (by omega),i64_in (by omega) (by omega)]
 ·have h1:u%2=1:=by omega
  rw [if_neg h0,h1];have e:BitVec.ofInt 64 (0-((1:Nat):Int))=BitVec.allOnes 64:=by decide+kernel
  rw [e,BitVec.xor_allOnes,BitVec.toNat_not,BitVec.ofInt_natCast,BitVec.toNat_ofNat,Nat.mod_eq_of_lt (by omega)]
  have hw:∀n:Nat,n<9223372036854775808→IntKind.i64.wrap ((18446744073709551615-n:Nat):Int)= -(n:Int)-1:=fun n hn=>by
   simp only [IntKind.wrap,IntKind.bits,IntKind.signed];simp;omega
  exact hw _ (by omega)
def GI(l:List UInt8)(k u:Nat):Prop:=k≤l.length∧k≤9∧u<128^k∧fm k u (l.drop k)=fm 0 0 l
theorem GI.zero(l:List UInt8):GI l 0 0:=⟨Nat.zero_le _,by decide,by decide,rfl⟩
theorem GI.next{l:List UInt8}{k u:Nat}(h:GI l k u)(hk:k<l.length)(hc:128≤l[k].toNat)(h9:k<9):GI l (k+1) (u+(l[k].toNat-128)*128^k):=by
 obtain⟨_,h2,h3,h4⟩:=h;have hb:=l[k].toNat_lt;refine⟨hk,h9,?_,?_⟩
 ·rw [Nat.pow_succ]
  have:(l[k].toNat-128)*128^k≤127*128^k:=Nat.mul_le_mul_right _ (by omega);omega
 ·rw [←h4,List.drop_eq_getElem_cons hk]
  conv=>rhs;unfold fm
  rw [if_pos ⟨hc,h9⟩]
theorem GI.Dq{l:List UInt8}{u:Nat}(h:GI l l.length u):jP l=none:=by
 obtain⟨_,_,_,h4⟩:=h;unfold jP;rw [←h4,List.drop_length];unfold fm;rfl
theorem GI.bad{l:List UInt8}{k u:Nat}(h:GI l k u)(hk:k<l.length)(hno:¬(128≤l[k].toNat∧k<9))(hb:l[k].toNat=0∧0<k∨1<l[k].toNat∧k=9):jP l=none:=by
 obtain⟨_,_,_,h4⟩:=h;unfold jP;rw [←h4,List.drop_eq_getElem_cons hk];unfold fm;rw [if_neg hno,if_pos hb]
theorem GI.done{l:List UInt8}{k u:Nat}(h:GI l k u)(hk:k<l.length)(hno:¬(128≤l[k].toNat∧k<9))(hb:¬(l[k].toNat=0∧0<k∨1<l[k].toNat∧k=9)):
  jP l=some (zag (u+l[k].toNat*128^k),l.drop (k+1))∧l[k].toNat<128∧(k=9→l[k].toNat≤1)∧u+l[k].toNat*128^k<18446744073709551616:=by
 obtain⟨_,h2,h3,h4⟩:=h
 have hv:fm k u (l.drop k)=some (u+l[k].toNat*128^k,l.drop (k+1)):=by
  rw [List.drop_eq_getElem_cons hk]
  conv=>lhs;unfold fm
  rw [if_neg hno,if_neg hb]
 refine⟨?_,by omega,by omega,(pK (l.drop k) k u _ _ h2 h3 hv).1⟩;unfold jP;rw [←h4,hv]
theorem mH{n:Int}(h1: -9223372036854775808≤n)(h2:n≤9223372036854775807)(r:List UInt8):bA (some (ab n++r))=(n,some r):=by
 show(match jP (ab n++r)with
  |some (n,r)=>(n,some r)
  |none=>(0,none))=_
 rw [wV h1 h2]
def fN(c:BitVec 32):BitVec 32:=(c>>>1)^^^(if c.getLsbD 0 then 0xEDB88320#32 else 0#32)
def cg:Nat→BitVec 32→BitVec 32
 |0,c=>c
 |n+1,c=>cg n (fN c)
def lV(i:BitVec 32):BitVec 32:=cg 4 i
def lW(c:BitVec 32):BitVec 32:=(c>>>4)^^^lV (c&&&15#32)
theorem yz(a b:BitVec 32):fN (a^^^b)=fN a^^^fN b:=by
 unfold fN;rw [BitVec.ushiftRight_xor_distrib,BitVec.getLsbD_xor]
 have h:∀x y:BitVec 32,∀p q:Bool,x^^^y^^^(if (p^^q)=true then 0xEDB88320#32 else 0#32)=(x^^^(if p=true then 0xEDB88320#32 else 0#32))^^^(y^^^(if q=true then 0xEDB88320#32 else 0#32)):=fun x y p q=>by
  have e:(if (p^^q)=true then 0xEDB88320#32 else 0#32)=(if p=true then 0xEDB88320#32 else 0#32)^^^(if q=true then 0xEDB88320#32 else 0#32):=by
   cases p<;>cases q<;>decide
  rw [e]
  ac_rfl
 exact h _ _ _ _
theorem oS:∀(n:Nat) (a b:BitVec 32),cg n (a^^^b)=cg n a^^^cg n b
 |0,_,_=>rfl
 |n+1,a,b=>by
  show cg n (fN (a^^^b))=cg n (fN a)^^^cg n (fN b)
  rw [yz,oS n]
theorem wv{c:BitVec 32}(h:c.getLsbD 0=false):fN c=c>>>1:=by
 unfold fN;rw [h,if_neg Bool.false_ne_true,BitVec.xor_zero]
theorem mX:∀(n:Nat) {c:BitVec 32},(∀i,i<n→c.getLsbD i=false)→cg n c=c>>>n
 |0,c,_=>by show c=c>>>0;rw [BitVec.ushiftRight_zero]
 |n+1,c,h=>by
  show cg n (fN c)=c>>>(n+1)
  rw [wv (h 0 (Nat.succ_pos _)),mX n fun i hi=> ?_]
  ·rw [Nat.add_comm n 1,BitVec.shiftRight_add]
  ·rw [BitVec.getLsbD_ushiftRight]
   exact h _ (by omega)
theorem crc_low(c:BitVec 32):c=(c&&&15#32)^^^(c&&&0xFFFFFFF0#32):=by
 apply BitVec.eq_of_getLsbD_eq;intro i hi;rw [BitVec.getLsbD_xor,BitVec.getLsbD_and,BitVec.getLsbD_and];have key:∀k,k<32→((15#32).getLsbD k^^(0xFFFFFFF0#32).getLsbD k)=true:=by decide
 have:=key i hi;revert this
 cases c.getLsbD i<;>cases (15#32).getLsbD i<;>cases (0xFFFFFFF0#32).getLsbD i<;>decide
theorem Eu(c:BitVec 32):(c&&&0xFFFFFFF0#32)>>>4=c>>>4:=by
 apply BitVec.eq_of_getLsbD_eq;intro i hi;rw [BitVec.getLsbD_ushiftRight,BitVec.getLsbD_ushiftRight,BitVec.getLsbD_and]
 by_cases h:4+i<32
 ·have:(0xFFFFFFF0#32).getLsbD (4+i)=true:=by
    have key:∀k,k<28→(0xFFFFFFF0#32).getLsbD (4+k)=true:=by decide
    exact key i (by omega)
  rw [this,Bool.and_true]
 ·rw [BitVec.getLsbD_of_ge c _ (by omega),Bool.false_and]
theorem sN(c:BitVec 32):lW c=cg 4 c:=by
 have h:cg 4 c=cg 4 (c&&&15#32)^^^cg 4 (c&&&0xFFFFFFF0#32):=by
  rw [←oS,←crc_low]
 rw [h,mX 4 (c:=c&&&0xFFFFFFF0#32) fun i hi=> ?_,Eu]
 ·show c>>>4^^^cg 4 (c&&&15#32)=_
  rw [BitVec.xor_comm]
 ·rw [BitVec.getLsbD_and]
  have key:∀k,k<4→(0xFFFFFFF0#32).getLsbD k=false:=by decide
  rw [key i hi,Bool.and_false]
theorem oT:∀(m n:Nat) (c:BitVec 32),cg (m+n) c=cg n (cg m c)
 |0,n,c=>by rw [Nat.zero_add];rfl
 |m+1,n,c=>by
  rw [show m+1+n=(m+n)+1 by omega];show cg (m+n) (fN c)=cg n (cg m (fN c))
  exact oT m n _
def zS(c:BitVec 32)(x:UInt8):BitVec 32:=cg 8 (c^^^x.toBitVec.setWidth 32)
theorem wu(c:BitVec 32)(x:UInt8):zS c x=lW (lW (c^^^x.toBitVec.setWidth 32)):=by
 rw [sN,sN,←oT];rfl
def iA(l:List UInt8)(c:BitVec 32):BitVec 32:=l.foldl zS c
def fM(l:List UInt8):BitVec 32:= ~~~ iA l (BitVec.allOnes 32)
def dn(c:BitVec 32):Int:=(c.toNat:Int)
theorem fS{n:Nat}(h:n<4294967296):IntKind.u32.wrap (n:Int)=(n:Int):=by
 have h:IntKind.u32.wrap (n:Int)=(n:Int)%4294967296:=rfl;rw [h];omega
theorem ofInt_u32(c:BitVec 32):BitVec.ofInt IntKind.u32.bits (dn c)=c:=by
 show BitVec.ofInt 32 ((c.toNat:Nat):Int)=c
 rw [BitVec.ofInt_natCast,BitVec.ofNat_toNat,BitVec.setWidth_eq]
theorem sX(a b:BitVec 32):bitsOf .xor .u32 (dn a) (dn b)=dn (a^^^b):=by
 show IntKind.u32.wrap (((BitVec.ofInt IntKind.u32.bits (dn a)^^^BitVec.ofInt IntKind.u32.bits (dn b)).toNat:Nat):Int)=_
 rw [ofInt_u32,ofInt_u32,fS (BitVec.isLt _)];rfl
theorem and_u32(a b:BitVec 32):bitsOf .and .u32 (dn a) (dn b)=dn (a&&&b):=by
 show IntKind.u32.wrap (((BitVec.ofInt IntKind.u32.bits (dn a)&&&BitVec.ofInt IntKind.u32.bits (dn b)).toNat:Nat):Int)=_
 rw [ofInt_u32,ofInt_u32,fS (BitVec.isLt _)];rfl
theorem De(k:Nat):(0:Int)≤2^k:=by exact_mod_cast Nat.zero_le (2^k)
theorem shr_u32(a:BitVec 32)(k:Nat)(hk:k≤32):(dn a).fdiv (2^(min (k:Int).toNat IntKind.u32.bits))=dn (a>>>k):=by
 have e:min (k:Int).toNat IntKind.u32.bits=k:=by
  show min k 32=k
  omega
 unfold dn;rw [e,Int.fdiv_eq_ediv_of_nonneg _ (De k),BitVec.toNat_ushiftRight,Nat.shiftRight_eq_div_pow]
 norm_cast
theorem EG(x:UInt8):IntKind.u32.wrap ((x.toNat:Nat):Int)=dn (x.toBitVec.setWidth 32):=by
 have hx:x.toNat<256:=x.toNat_lt;rw [fS (by omega)];unfold dn;rw [BitVec.toNat_setWidth];show((x.toNat:Nat):Int)=((x.toNat%4294967296:Nat):Int)
 rw [Nat.mod_eq_of_lt (by omega)]
def oY(c:Int):Int:=bitsOf .xor .u32 (c.fdiv (2^(min (1:Int).toNat IntKind.u32.bits))) (IntKind.u32.wrap (3988292384*bitsOf .and .u32 c 1))
theorem tab_eq(i:Nat)(h:i<16):oY (oY (oY (oY (IntKind.u32.wrap (i:Int)))))=dn (lV (BitVec.ofNat 32 i)):=by
 have key:∀i:Fin 16,oY (oY (oY (oY (IntKind.u32.wrap ((i.val:Nat):Int)))))=dn (lV (BitVec.ofNat 32 i.val)):=by decide+kernel
 exact key ⟨i,h⟩
theorem low_lt(c:BitVec 32):(c&&&15#32).toNat<16:=by
 rw [BitVec.toNat_and];exact Nat.lt_of_le_of_lt Nat.and_le_right (by decide)
theorem nib_u32(c:BitVec 32):bitsOf .xor .u32 ((dn c).fdiv (2^(min (4:Int).toNat IntKind.u32.bits))) (dn (lV (BitVec.ofNat 32 (c&&&15#32).toNat)))=dn (lW c):=by
 rw [show(4:Int)=((4:Nat):Int)from rfl,shr_u32 c 4 (by decide),sX,BitVec.ofNat_toNat,BitVec.setWidth_eq];rfl
def iy(n:Nat):List UInt8:= [UInt8.ofNat (n%256),UInt8.ofNat (n/256%256),UInt8.ofNat (n/65536%256),UInt8.ofNat (n/16777216%256)]
theorem tZ(n k:Nat)(hk:k≤32):Value.int .u8 (IntKind.u8.wrap ((n:Int).fdiv (2^(min (k:Int).toNat IntKind.u32.bits))))=bv (UInt8.ofNat (n/2^k%256)):=by
 have e:min (k:Int).toNat IntKind.u32.bits=k:=by
  show min k 32=k
  omega
 rw [e,Int.fdiv_eq_ediv_of_nonneg _ (De k),wE (Nat.mod_lt _ (by decide))];have h2:((n:Int)/2^k)=((n/2^k:Nat):Int):=by norm_cast
 rw [h2,pb]
end
end Go.Proofs.YtmmlhdiejkknnaaGreatDoor
namespace Go.Proofs.YtmmlhdiejkknnaaGreatDoor
open Go.Sx Go.RowKit
noncomputable section
open Classical
def ky(m:bC):List UInt8:=ab m.id++ab m.role++ab m.weight++ab m.group
def dJ(ver:Int)(ms:List bC):List UInt8:=ab ver++ab ms.length++ms.flatMap ky
def wR(m:bC):Prop:=0≤m.id∧m.id≤7∧0≤m.role∧m.role≤2∧0≤m.weight∧m.weight≤1000∧0≤m.group∧m.group≤7
theorem we:∀(ms:List bC) {last w:Int} {x:Int×Int},0≤last→kI last w ms=some x→∀m∈ms,wR m
 | [],_,_,_,_,_,m,hm=>by cases hm
 |a::ms,last,w,x,hl,h,m,hm=>by
  simp only [kI]at h
  split at h
  ·rename_i hk
   have hk:=(jx _ _).1 hk;rcases List.mem_cons.1 hm with rfl|hm
   ·unfold wR
    omega
   ·exact we ms (by omega) h m hm
  ·cases h
theorem yx{ver:Int}{ms:List bC}(h:fL ver ms=0):ms.length≤7∧0≤ver∧ver≤4611686018427387904∧∀m∈ms,wR m:=by
 unfold fL at h
 split at h
 ·cases h
 ·rename_i h7
  split at h
  ·cases h
  ·rename_i last w hg
   split at h
   ·cases h
   ·rename_i hv
    refine⟨by omega,by omega,by omega,we ms (Int.le_refl 0) hg⟩
theorem vz(m:bC):(ky m).length≤40:=by
 unfold ky;have h1:=fR 9 (zig m.id);have h2:=fR 9 (zig m.role);have h3:=fR 9 (zig m.weight);have h4:=fR 9 (zig m.group);simp only [List.length_append];show(nj 9 (zig m.id)).length+(nj 9 (zig m.role)).length+(nj 9 (zig m.weight)).length+(nj 9 (zig m.group)).length≤40
 omega
theorem iz{α:Type}{f:α→List UInt8}{c:Nat}(h:∀x,(f x).length≤c):∀l:List α,(l.flatMap f).length≤l.length*c
 | []=>by simp
 |x::l=>by
  have h1:=h x;have h2:=iz h l;rw [List.flatMap_cons,List.length_append,List.length_cons,Nat.succ_mul];omega
theorem aV(n:Int):(ab n).length≤10:=fR 9 (zig n)
theorem mQ{α β:Type}(f:α→List β)(l:List α){k:Nat}(h:k<l.length):(l.take (k+1)).flatMap f=(l.take k).flatMap f++f l[k]:=by
 rw [List.take_succ_eq_append_getElem h,List.flatMap_append];simp
def dT:Int→List bn→Bool
 |_, []=>true
 |last,s::l=>if last<s.ses∧0≤s.tmo∧0≤s.turn then dT s.ses l else false
def fP(l:List aO)(ss:List bn)(ver:Int)(ms:List bC)(f t:Int):Prop:=hF l∧l.length≤500∧ss.length≤200∧fL ver ms=0∧0≤f∧f≤t∧dT 0 ss=true
structure ji where
 l:List (aO×Value)
 ss:List bn
 ver:Int
 ms:List bC
 f:Int
 t:Int
def ImgA(g:ji)(vs:List Value)(A:aa):Prop:=∃x y vm,vs= [x,y,.agg #[.int .i64 g.ver,vm],.int .i64 g.f,.int .i64 g.t]∧eL A x g.l∧SlS A y g.ss∧gq A vm g.ms∧g.l.length≤1000000∧oh g.l
def ji.ok(g:ji):Prop:=fP (g.l.map (·.1)) g.ss g.ver g.ms g.f g.t
def yS(ss:List bn)(s:Nat×Int):Prop:=s.1≤ss.length∧dT s.2 (ss.drop s.1)=dT 0 ss
theorem Ap(ss:List bn):yS ss (0,0):=⟨Nat.zero_le _,rfl⟩
theorem Aq{ss:List bn}{k:Nat}{last:Int}(h:yS ss (k,last))(hk:k<ss.length)(h1:last<ss[k].ses)(h2:0≤ss[k].tmo)(h3:0≤ss[k].turn):yS ss (k+1,ss[k].ses):=by
 obtain⟨_,h⟩:=h;refine⟨hk,?_⟩;rw [←h];show _=dT last (ss.drop k)
 rw [List.drop_eq_getElem_cons hk,dT,if_pos ⟨h1,h2,h3⟩]
theorem CE{ss:List bn}{k:Nat}{last:Int}(h:yS ss (k,last))(hk:k<ss.length)(h1:¬(last<ss[k].ses∧0≤ss[k].tmo∧0≤ss[k].turn)):dT 0 ss=false:=by
 obtain⟨_,h⟩:=h;rw [←h];show dT last (ss.drop k)=false
 rw [List.drop_eq_getElem_cons hk,dT,if_neg h1]
theorem CD{ss:List bn}{last:Int}(h:yS ss (ss.length,last)):dT 0 ss=true:=by
 rw [←h.2];show dT last (ss.drop ss.length)=true
 rw [List.drop_eq_nil_of_le (Nat.le_refl _),dT]
theorem D1{g:ji}(h:¬g.ok):Value.bool false= .bool (decide g.ok):=by rw [decide_eq_false h]
theorem zC{g:ji}(h:g.ok):Value.bool true= .bool (decide g.ok):=by rw [decide_eq_true h]
def EZ(g:ji):Prop:=(∀x∈g.l,fh x.1.stat)∧(∀s∈g.ss,na s)∧I64 g.f∧I64 g.t
def zb(s:ec):List UInt8:=ab s.czxid++ab s.mzxid++ab s.pzxid++ab s.ctime++ab s.mtime++ab s.ver++ab s.cver++ab s.owner
def fp(x:aO):List UInt8:=ab x.path.data.toList.length++x.path.data.toList++(ab x.data.length++x.data)++zb x.stat
def j0(s:bn):List UInt8:=ab s.ses++ab s.tmo++ab s.turn
def ew(l:List aO)(ss:List bn)(ver:Int)(ms:List bC)(f t:Int):List UInt8:=
 [1]++ab l.length++l.flatMap fp++ab ss.length++ss.flatMap j0++ab (dJ ver ms).length++dJ ver ms++ab f++ab t
theorem gN{l:List UInt8}(h:bR l=true):l.length≤200:=by
 unfold bR at h
 split at h
 ·simp at h
  simp;omega
 ·cases h
theorem Ds{x:aO}(h:bM x):(fp x).length≤1310:=by
 have h1:=gN h.1;have h2:=h.2.1;have k1:=aV (x.path.data.toList.length:Int);have k2:=aV (x.data.length:Int);have s1:=aV x.stat.czxid;have s2:=aV x.stat.mzxid;have s3:=aV x.stat.pzxid;have s4:=aV x.stat.ctime;have s5:=aV x.stat.mtime;have s6:=aV x.stat.ver;have s7:=aV x.stat.cver;have s8:=aV x.stat.owner;unfold fp zb;simp only [List.length_append];omega
theorem CF(s:bn):(j0 s).length≤30:=by
 have s1:=aV s.ses;have s2:=aV s.tmo;have s3:=aV s.turn;unfold j0;simp only [List.length_append];omega
theorem qx:∀ {l:List aO},(∀x∈l,bM x)→(l.flatMap fp).length≤l.length*1310
 | [],_=>by simp
 |x::l,h=>by
  have h1:=Ds (h x (by simp));have h2:=qx (l:=l) fun y hy=>h y (List.mem_cons_of_mem _ hy)
  rw [List.flatMap_cons,List.length_append,List.length_cons,Nat.succ_mul];omega
theorem p6{l:List aO}{ss:List bn}{ver:Int}{ms:List bC}{f t:Int}(h:fP l ss ver ms f t):∀x∈l,bM x:=fun x hx=>by
 obtain⟨i,hi,rfl⟩:=List.mem_iff_getElem.1 hx;exact(h.1.1 i hi).1
def nC(s:bt):bC×bt:=
 (⟨(ah 7 s).1,(ah 2 (ah 7 s).2).1,(ah 1000 (ah 2 (ah 7 s).2).2).1,(ah 7 (ah 1000 (ah 2 (ah 7 s).2).2).2).1⟩,(ah 7 (ah 1000 (ah 2 (ah 7 s).2).2).2).2)
def bP:Nat→bt→List bC×bt
 |0,s=>([],s)
 |k+1,s=>((bP k s).1++ [(nC (bP k s).2).1],(nC (bP k s).2).2)
def nS(l:List UInt8):Option (Int×List bC):=
 if (bP (ah 7 (bA (some l)).2).1.toNat (ah 7 (bA (some l)).2).2).2=some []∧fL (bA (some l)).1 (bP (ah 7 (bA (some l)).2).1.toNat (ah 7 (bA (some l)).2).2).1=0
 then some ((bA (some l)).1,(bP (ah 7 (bA (some l)).2).1.toNat (ah 7 (bA (some l)).2).2).1)else none
def eW(most:Int)(s:bt):Int×bt:=(if (bA s).1<0∨most<(bA s).1 then most+1 else(bA s).1,(bA s).2)
def dMem(s:bt):bC×bt:=
 (⟨(eW 7 s).1,(eW 2 (eW 7 s).2).1,(eW 1000 (eW 2 (eW 7 s).2).2).1,(eW 7 (eW 1000 (eW 2 (eW 7 s).2).2).2).1⟩,(eW 7 (eW 1000 (eW 2 (eW 7 s).2).2).2).2)
def sM:Nat→bt→List bC×bt
 |0,s=>([],s)
 |k+1,s=>((sM k s).1++ [(dMem (sM k s).2).1],(dMem (sM k s).2).2)
def getD(l:List UInt8):Option (Int×List bC):=
 if (sM (ah 7 (bA (some l)).2).1.toNat (ah 7 (bA (some l)).2).2).2=some []∧fL (bA (some l)).1 (sM (ah 7 (bA (some l)).2).1.toNat (ah 7 (bA (some l)).2).2).1=0
 then some ((bA (some l)).1,(sM (ah 7 (bA (some l)).2).1.toNat (ah 7 (bA (some l)).2).2).1)else none
theorem eN{most:Int}(h:0≤most):ah most none=(0,none):=if_neg (by show ¬((0:Int)<0∨most<0);omega)
theorem AR:nC none=(⟨0,0,0,0⟩,none):=by
 unfold nC;rw [eN (by decide:(0:Int)≤7),eN (by decide:(0:Int)≤2),eN (by decide:(0:Int)≤1000)];simp only [eN (by decide:(0:Int)≤7)]
theorem xO:∀k,(bP k none).2=none
 |0=>rfl
 |k+1=>by
  show(nC (bP k none).2).2=none
  rw [xO k,AR]
theorem sq(s:bt):∀k,(bP k s).1.length=k
 |0=>rfl
 |k+1=>by
  show((bP k s).1++ [_]).length=k+1
  rw [List.length_append,sq s k];rfl
theorem xP(s:bt):bd (nC s).2≤bd s:=by
 have h1:=bU 7 s;have h2:=bU 2 (ah 7 s).2;have h3:=bU 1000 (ah 2 (ah 7 s).2).2;have h4:=bU 7 (ah 1000 (ah 2 (ah 7 s).2).2).2;show bd (ah 7 (ah 1000 (ah 2 (ah 7 s).2).2).2).2≤_
 omega
theorem oI(s:bt):∀k,bd (bP k s).2≤bd s
 |0=>Nat.le_refl _
 |k+1=>Nat.le_trans (xP _) (oI s k)
end
end Go.Proofs.YtmmlhdiejkknnaaGreatDoor
namespace Go.Sx
noncomputable section
structure GrowM(A:aa)(base:Option (Nat×Nat))(n m c es bytes:Nat)(cs:List Value):Prop where
 rd:jF A base (n*es)=some cs
 cap:c<n+m→Builtin.nextslicecap (n+m) c*bytes≤281474976710656
 none_:base=none→n=0∧c=0
 room:∀(k:Nat),k=m*es→∀g o,base=some (g,o)→n+m≤c→A.Room g (o+n*es) k
theorem br.sJ{A1 A:aa}{es:Nat}{e:TypeId}{n:Nat}{v:Value}{cs:List Value}(h:br A1 A es e n v cs):
  ∃base c,v= .slice (cq base) n c∧(base=none∨∃g,base=some (g,0))∧(∀m bytes,bytes≤65536→n+m≤1000000000→GrowM A base n m c es bytes cs)∧
  ∀m ys v' A',ys.length=m*es→(∀k,A.blk k=none→A1.blk k=none)→jk A base n c es e cs ys m v' A'→br A1 A' es e (n+m) v' (cs++ys)∧∀k o,A1.blk k=some o→A'.blk k=A.blk k:=by
 obtain⟨hl,⟨rfl,rfl⟩|⟨g,nc,c,rfl,hn,hpos,hg,hb,hsz,ht⟩⟩:=h
 ·have hcs:cs= []:=List.length_eq_zero_iff.1 (by rw [hl];simp)
  subst hcs;refine⟨none,0,rfl,.inl rfl,fun m bytes hby hn=>⟨by simp [jF],fun h=> ?_,fun _=>⟨rfl,rfl⟩,fun _ _ _ _ h=>(by cases h)⟩,fun m ys v' A' hy hd ha=> ?_⟩
  ·have:=fF h
   calc _≤(2*(0+m)+768)*65536:=Nat.mul_le_mul this hby
    _≤_:=by omega
  ·rcases ha with⟨h0,rfl,h3⟩|⟨hlt,g,nc,c,zs,rfl,hnc,hc,hz,hN⟩
   ·have hm:m=0:=by omega
    subst hm;have hys:ys= []:=List.length_eq_zero_iff.1 (by rw [hy];simp);subst hys;rcases h3 with⟨_,rfl⟩|⟨g,o,h,_⟩
    ·exact⟨br.nil _ _ _ _,fun _ _ _=>rfl⟩
    ·cases h
   ·refine⟨⟨by simp [hy],.inr ⟨g,nc,c,rfl,hnc,by omega,hd g hN.none_,hN.at_,?_,?_⟩⟩,fun k o hk=>hN.other k fun e=>(by subst e;rw [hd _ hN.none_]at hk;cases hk)⟩
    ·rw [←Array.length_toList,hc]
     simp only [List.nil_append,List.length_append,hy,hz,Nat.zero_add];rw [←Nat.add_mul];congr 1;omega
    ·rw [hc,Nat.zero_add,List.nil_append,List.take_append_of_le_length (by omega),List.take_of_length_le (by omega)]
 ·have hle:n*es≤nc*es:=Nat.mul_le_mul_right _ hn
  refine⟨some (g,0),nc,rfl,.inr ⟨g,rfl⟩,fun m bytes hby hnb=>⟨?_,fun h=> ?_,fun h=>(by cases h),fun k hk g' o' h hlt=> ?_⟩,fun m ys v' A' hy hd ha=> ?_⟩
  ·show(if n*es=0 then some []else A.rd g 0 (n*es))=some cs
   by_cases h0:n*es=0
   ·rw [if_pos h0]
    rw [h0]at hl;rw [List.length_eq_zero_iff.1 hl]
   ·rw [if_neg h0,rd_mk hb (by omega)];simp [ht]
  ·have:=fF h
   calc _≤(2*(n+m)+768)*65536:=Nat.mul_le_mul this hby
    _≤_:=by omega
  ·injection h with h;injection h with h1 h2;subst h1;subst h2;subst hk
   refine⟨c,e,(0,0),hb,?_,.inl rfl⟩;have:=Nat.mul_le_mul_right es hlt;rw [Nat.add_mul]at this;omega
  ·rcases ha with⟨h0,rfl,h3⟩|⟨h0,g',nc',c',zs,rfl,hnc,hc,hz,hN⟩
   ·obtain⟨c',k1,k2,k3⟩:∃c',A'.blk g=some (.cells c' e (0,0))∧(∀k,k≠g→A'.blk k=A.blk k)∧c'.toList=c.toList.take (n*es)++ys++c.toList.drop (n*es+ys.length):=by
      rcases h3 with⟨rfl,rfl⟩|⟨g',o',h,hP⟩
      ·exact⟨c,hb,fun _ _=>rfl,by simp⟩
      ·injection h with h;injection h with h1 h2;subst h1;subst h2
       obtain⟨c0,t0,fz0,c',k1,k2,k3⟩:=hP.at_;rw [hb]at k1;injection k1 with k1;injection k1 with k1 k1' k1''
       subst k1;subst k1';subst k1''
       exact⟨c',k2,hP.other,by rw [k3];simp⟩
    have hlen:n*es+m*es≤nc*es:=by rw [←Nat.add_mul];exact Nat.mul_le_mul_right _ h0
    have hcl:(cs++ys).length=(n+m)*es:=by rw [List.length_append,hl,hy,Nat.add_mul]
    refine⟨⟨hcl,.inr ⟨g,nc,c',rfl,h0,hpos,hg,k1,?_,?_⟩⟩,fun k o hk=>k2 k fun e=>(by subst e;rw [hg]at hk;cases hk)⟩
    ·rw [←Array.length_toList,k3]
     simp only [List.length_append,List.length_take,List.length_drop,Array.length_toList,hsz,hy];omega
    ·rw [k3,ht,List.take_append_of_le_length (by omega),List.take_of_length_le (by omega)]
   ·have hcl:(cs++ys).length=(n+m)*es:=by rw [List.length_append,hl,hy,Nat.add_mul]
    refine⟨⟨hcl,.inr ⟨g',nc',c',rfl,hnc,by omega,hd g' hN.none_,hN.at_,?_,?_⟩⟩,fun k o hk=>hN.other k fun e=>(by subst e;rw [hd _ hN.none_]at hk;cases hk)⟩
    ·rw [←Array.length_toList,hc]
     simp only [List.length_append,hl,hy,hz];rw [←Nat.add_mul,←Nat.add_mul];congr 1;omega
    ·rw [hc,List.take_append_of_le_length (by omega),List.take_of_length_le (by omega)]
theorem fO{b b':Option (Nat×Nat)}(h:cq b=cq b'):b=b':=by
 cases b with
 |none=>cases b' with
  |none=>rfl
  |some y=>cases h
 |some x=>cases b' with
  |none=>cases h
  |some y=>
   obtain⟨g,o⟩:=x;obtain⟨g',o'⟩:=y;injection h with h
   injection h with h1 h2
   rw [h1,h2]
theorem br.sl{A1 A:aa}{es:Nat}{e:TypeId}{n:Nat}{v:Value}{cs:List Value}(h:br A1 A es e n v cs):Sl A es n v cs:=by
 obtain⟨h1,⟨rfl,rfl⟩|⟨g,nc,c,rfl,h4,h4',h5,h6,h7,h8⟩⟩:=h
 ·have hc:cs= []:=List.length_eq_zero_iff.1 (by rw [h1];simp)
  subst hc;exact Sl.nil _ _
 ·have hle:n*es≤nc*es:=Nat.mul_le_mul_right _ h4
  refine Sl.row h4 ?_;rw [rd_mk h6 (by omega),List.drop_zero,h8]
end
end Go.Sx
namespace Go.Proofs.YtmmlhdiejkknnaaGreatDoor
open Go.Sx Go.RowKit
noncomputable section
open Classical
structure ee(A:aa)(g es:Nat)(e:TypeId)(n c:Nat)(cs:List Value):Prop where
 at_:∃cc,A.blk g=some (.cells cc e (0,0))∧cc.size=c*es∧cc.toList.take (n*es)=cs
 le:n≤c
 len:cs.length=n*es
theorem ee.sub{A A':aa}{g es:Nat}{e:TypeId}{n c:Nat}{cs:List Value}(h:ee A g es e n c cs)(hs:A.Sub A'):ee A' g es e n c cs:=by
 obtain⟨⟨cc,h1,h2,h3⟩,h4,h5⟩:=h;exact⟨⟨cc,hs _ _ h1,h2,h3⟩,h4,h5⟩
theorem ee.ck{A A':aa}{g es:Nat}{e:TypeId}{n c:Nat}{cs:List Value}(h:ee A g es e n c cs)(hs:A'.blk g=A.blk g):ee A' g es e n c cs:=by
 obtain⟨⟨cc,h1,h2,h3⟩,h4,h5⟩:=h;exact⟨⟨cc,by rw [hs];exact h1,h2,h3⟩,h4,h5⟩
theorem ee.rd{A:aa}{g es:Nat}{e:TypeId}{n c:Nat}{cs:List Value}(h:ee A g es e n c cs):A.rd g 0 (n*es)=some cs:=by
 obtain⟨⟨cc,h1,h2,h3⟩,h4,h5⟩:=h;have:=Nat.mul_le_mul_right es h4;rw [rd_mk h1 (by omega),List.drop_zero,h3]
theorem ee.base{A:aa}{g es:Nat}{e:TypeId}{n c:Nat}{cs:List Value}(h:ee A g es e n c cs):jF A (some (g,0)) (n*es)=some cs:=by
 show(if n*es=0 then some []else A.rd g 0 (n*es))=some cs
 by_cases h0:n*es=0
 ·rw [if_pos h0]
  have:=h.len;rw [h0]at this;rw [List.length_eq_zero_iff.1 this]
 ·rw [if_neg h0,h.rd]
theorem ee.room{A:aa}{g es:Nat}{e:TypeId}{n c:Nat}{cs:List Value}(h:ee A g es e n c cs){o k:Nat}(hk:o+k≤c*es):A.Room g o k:=by
 obtain⟨⟨cc,h1,h2,h3⟩,h4,h5⟩:=h;exact⟨cc,e,(0,0),h1,by omega,.inl rfl⟩
theorem ee.add{A A2:aa}{g es:Nat}{e:TypeId}{n c m:Nat}{cs ys:List Value}{v:Value}(h:ee A g es e n c cs)(hm:n+m≤c)(hy:ys.length=m*es)(ha:jk A (some (g,0)) n c es e cs ys m v A2):
  v= .slice (some ⟨g,0,none⟩) (n+m) c∧ee A2 g es e (n+m) c (cs++ys)∧∀k,k≠g→A2.blk k=A.blk k:=by
 obtain⟨⟨cc,h1,h2,h3⟩,h4,h5⟩:=h;rcases ha with⟨_,rfl,h6⟩|⟨h6,_⟩
 ·refine⟨rfl,?_⟩
  have hlen:(cs++ys).length=(n+m)*es:=by rw [List.length_append,h5,hy,Nat.add_mul]
  rcases h6 with⟨rfl,rfl⟩|⟨g',o',e1,hP⟩
  ·refine⟨⟨⟨cc,h1,h2,?_⟩,hm,hlen⟩,fun _ _=>rfl⟩
   have:m*es=0:=by rw [←hy];rfl
   rw [Nat.add_mul,this,Nat.add_zero,h3,List.append_nil]
  ·injection e1 with e1
   injection e1 with e1 e2
   subst e1;subst e2
   obtain⟨c0,t0,fz0,c',k1,k2,k3⟩:=hP.at_;rw [h1]at k1;injection k1 with k1
   injection k1 with k1 k1' k1''
   subst k1;subst k1';subst k1''
   have hle:=Nat.mul_le_mul_right es hm;rw [Nat.add_mul]at hle;refine⟨⟨⟨c',k2,?_,?_⟩,hm,hlen⟩,hP.other⟩
   ·rw [←Array.length_toList,k3]
    simp only [List.length_append,List.length_take,List.length_drop,Array.length_toList,h2,hy];omega
   ·rw [k3,Nat.zero_add,h3,List.take_append_of_le_length (by omega),List.take_of_length_le (by omega)]
 ·omega
structure LsD where
 v:Value
 n:Nat
 c:Nat
 g:Option Nat
def LsR(A:aa)(es:Nat)(e:TypeId)(L:LsD)(cs:List Value):Prop:=
 (L.g=none∧L.n=0∧L.c=0∧cs= []∧∃base,L.v= .slice (cq base) 0 0)∨
 ∃g,L.g=some g∧L.v= .slice (some ⟨g,0,none⟩) L.n L.c∧0<L.c∧ee A g es e L.n L.c cs
theorem LsR.len{A:aa}{es:Nat}{e:TypeId}{L:LsD}{cs:List Value}(h:LsR A es e L cs):cs.length=L.n*es:=by
 rcases h with⟨_,h2,_,rfl,_⟩|⟨g,_,_,_,h⟩
 ·rw [h2];simp
 ·exact h.len
theorem LsR.ck{A A':aa}{es:Nat}{e:TypeId}{L:LsD}{cs:List Value}(h:LsR A es e L cs)(hk:∀g o,L.g=some g→A.blk g=some o→A'.blk g=some o):LsR A' es e L cs:=by
 rcases h with h|⟨g,h1,h2,h3,h4⟩
 ·exact .inl h
 ·refine .inr ⟨g,h1,h2,h3,h4.ck ?_⟩
  obtain⟨cc,h5,_⟩:=h4.at_;rw [h5,hk g _ h1 h5]
theorem LsR.live{A:aa}{es:Nat}{e:TypeId}{L:LsD}{cs:List Value}(h:LsR A es e L cs){g:Nat}(hg:L.g=some g):∃o,A.blk g=some o:=by
 rcases h with⟨h1,_⟩|⟨g',h1,_,_,h4⟩
 ·rw [h1]at hg;cases hg
 ·rw [h1]at hg
  injection hg with hg
  subst hg;obtain⟨cc,h5,_⟩:=h4.at_;exact⟨_,h5⟩
theorem xW{m c:Nat}(h:c<m):Builtin.nextslicecap m c≤2*m+768:=fF h
theorem LsR.app{A:aa}{es:Nat}{e:TypeId}{L:LsD}{cs:List Value}(h:LsR A es e L cs):∃base,L.v= .slice (cq base) L.n L.c∧(base=none∨∃g o,base=some (g,o))∧
  (∀m bytes,bytes≤65536→L.n+m≤1000000000→0<m→GrowM A base L.n m L.c es bytes cs)∧
  ∀m ys v' A',ys.length=m*es→0<m→jk A base L.n L.c es e cs ys m v' A'→
   ∃L':LsD,L'.v=v'∧L'.n=L.n+m∧LsR A' es e L' (cs++ys)∧(∀g,L'.g=some g→L.g=some g∨A.blk g=none)∧(∀k o,A.blk k=some o→L.g≠some k→A'.blk k=some o)∧LsR A' es e L cs∧∀g,L'.g=some g→L.g=some g→L'.c=L.c:=by
 have hcap:∀ {m bytes},bytes≤65536→L.n+m≤1000000000→L.c<L.n+m→Builtin.nextslicecap (L.n+m) L.c*bytes≤281474976710656:=fun {m bytes} hb hn hc=>by
  have h1:=xW hc
  calc _≤(2*(L.n+m)+768)*65536:=Nat.mul_le_mul h1 hb
   _≤_:=by omega
 rcases h with⟨h1,h2,h3,rfl,base,h4⟩|⟨g,h1,h2,h3,h4⟩
 ·rw [h2,h3]at hcap ⊢
  refine⟨base,h4,?_,fun m bytes hb hn hm=>⟨?_,hcap hb hn,fun hb0=>⟨rfl,rfl⟩,fun k hk g o _ hle=>by omega⟩,fun m ys v' A' hy hm ha=> ?_⟩
  ·cases base with
   |none=>exact .inl rfl
   |some x=>exact .inr ⟨x.1,x.2,rfl⟩
  ·cases base with
   |none=>simp [jF]
   |some x=>
    obtain⟨g,o⟩:=x;show(if 0*es=0 then some []else A.rd g o (0*es))=some []
    rw [if_pos (Nat.zero_mul _)]
  ·rcases ha with⟨h0,_⟩|⟨_,g,nc,c0,zs,hv,hnc,hc,hz,hN⟩
   ·omega
   ·refine⟨⟨v',0+m,nc,some g⟩,rfl,rfl,.inr ⟨g,rfl,hv,by show 0<nc;omega,⟨c0,hN.at_,?_,?_⟩,hnc,?_⟩,fun g' hg'=> ?_,fun k o hk _=> ?_,.inl ⟨h1,h2,h3,rfl,base,h4⟩,fun g9 _ h=>by rw [h1]at h;cases h⟩
    ·rw [←Array.length_toList,hc]
     simp only [List.nil_append,List.length_append,hy,hz];have:nc*es=(m+(nc-(0+m)))*es:=by congr 1;omega
     show m*es+(nc-(0+m))*es=nc*es
     rw [this,Nat.add_mul]
    ·show c0.toList.take ((0+m)*es)=_
     rw [hc,Nat.zero_add,List.nil_append,List.take_append_of_le_length (by omega),List.take_of_length_le (by omega)]
    ·show([]++ys).length=(0+m)*es
     rw [Nat.zero_add];simpa using hy
    ·have hg':some g=some g':=hg'
     injection hg' with hg'
     subst hg';exact .inr hN.none_
    ·rw [hN.other k fun e=>(by rw [e,hN.none_]at hk;cases hk)]
     exact hk
 ·refine⟨some (g,0),h2,.inr ⟨g,0,rfl⟩,fun m bytes hb hn hm=>⟨h4.base,hcap hb hn,fun h=>(by cases h),fun k hk g' o he hle=> ?_⟩,fun m ys v' A' hy hm ha=> ?_⟩
  ·injection he with he
   injection he with he1 he2
   subst he1;subst he2;subst hk
   have:=Nat.mul_le_mul_right es hle;rw [Nat.add_mul]at this;exact h4.room (by omega)
  ·have h4':=h4
   obtain⟨cc,k1,k2,k3⟩:=h4'.at_;rcases ha with hin|⟨h0,g',nc,c0,zs,hv,hnc,hc,hz,hN⟩
   ·obtain⟨hv,hrow,hoth⟩:=h4.add hin.1 hy (.inl hin)
    refine⟨⟨v',L.n+m,L.c,some g⟩,rfl,rfl,.inr ⟨g,rfl,hv,h3,hrow⟩,fun g' hg'=> ?_,fun k o hk hne=> ?_,.inr ⟨g,h1,h2,h3,?_⟩,fun _ _ _=>rfl⟩
    ·have hg':some g=some g':=hg'
     rw [←hg'];exact .inl h1
    ·rw [hoth k fun e=>hne (by rw [e];exact h1)]
     exact hk
    ·obtain⟨⟨c2,j1,j2,j3⟩,j4,j5⟩:=hrow
     refine⟨⟨c2,j1,j2,?_⟩,h4.le,h4.len⟩;have h9:=congrArg (List.take (L.n*es)) j3;rw [List.take_take,Nat.min_eq_left (Nat.mul_le_mul_right _ (by omega)),List.take_append_of_le_length (by rw [h4.len];omega),List.take_of_length_le (l:=cs) (by rw [h4.len];omega)]at h9;exact h9
   ·refine⟨⟨v',L.n+m,nc,some g'⟩,rfl,rfl,.inr ⟨g',rfl,hv,by show 0<nc;omega,⟨c0,hN.at_,?_,?_⟩,hnc,?_⟩,fun g9 hg9=> ?_,fun k o hk _=> ?_,.inr ⟨g,h1,h2,h3,h4.ck (hN.other g fun e=> ?_)⟩,fun g9 hg9 hgl=> ?_⟩
    ·rw [←Array.length_toList,hc]
     simp only [List.length_append,hy,hz,h4.len];have:nc*es=(L.n+m+(nc-(L.n+m)))*es:=by congr 1;omega
     show L.n*es+m*es+(nc-(L.n+m))*es=nc*es
     rw [this,Nat.add_mul,Nat.add_mul]
    ·show c0.toList.take ((L.n+m)*es)=_
     have hl:(cs++ys).length=(L.n+m)*es:=by rw [List.length_append,h4.len,hy,Nat.add_mul]
     rw [hc,List.take_append_of_le_length (by omega),List.take_of_length_le (by omega)]
    ·show(cs++ys).length=(L.n+m)*es
     rw [List.length_append,h4.len,hy,Nat.add_mul]
    ·have hg9:some g'=some g9:=hg9
     injection hg9 with hg9
     subst hg9;exact .inr hN.none_
    ·rw [hN.other k fun e=>(by rw [e,hN.none_]at hk;cases hk)]
     exact hk
    ·have:=hN.none_
     rw [←e,k1]at this
     cases this
    ·have hg9:some g'=some g9:=hg9
     have:=hN.none_;rw [h1,←hg9]at hgl;injection hgl with hgl
     rw [←hgl,k1]at this
     cases this
end
end Go.Proofs.YtmmlhdiejkknnaaGreatDoor
namespace Go.Proofs.YtmmlhdiejkknnaaGreatDoor
open Go.Sx Go.RowKit Go.Shelf
noncomputable section
open Classical
def gsRen:Go.Shelf.Ren:=⟨fun|290=>265|324=>284|n=>n,fun|0=>0|3=>3|4=>4|5=>5|9=>9|20=>20|37=>28|75=>197|80=>374|n=>n,fun|14=>1|n=>n⟩
theorem ym:LaysM.n290 Tryz.prog gsRen where
 mixed:=by kernel_rfl
 f290:=Tryz.func265.trans (congrArg some (by kernel_rfl))
 f324:=Tryz.func284.trans (congrArg some (by kernel_rfl))
 t0:=Tryz.underlying0
 a0:=Tryz.isAgg0
 z0:=Tryz.sizeOf0
 v0:=Tryz.zeroValue0
 t3:=Tryz.underlying3
 a3:=Tryz.isAgg3
 z3:=Tryz.sizeOf3
 v3:=Tryz.zeroValue3
 t4:=Tryz.underlying4
 a4:=Tryz.isAgg4
 z4:=Tryz.sizeOf4
 v4:=Tryz.zeroValue4
 t20:=Tryz.underlying20
 a20:=Tryz.isAgg20
 z20:=Tryz.sizeOf20
 v20:=Tryz.zeroValue20
 t37:=Tryz.underlying28
 a37:=Tryz.isAgg28
 z37:=Tryz.sizeOf28
 v37:=Tryz.zeroValue28
 t75:=Tryz.underlying197
 a75:=Tryz.isAgg197
 z75:=Tryz.sizeOf197
 v75:=Tryz.zeroValue197
 g14:=by kernel_rfl
 t5:=Tryz.underlying5
 a5:=Tryz.isAgg5
 z5:=Tryz.sizeOf5
 v5:=Tryz.zeroValue5
 t9:=Tryz.underlying9
 a9:=Tryz.isAgg9
 z9:=Tryz.sizeOf9
 v9:=Tryz.zeroValue9
 t80:=Tryz.underlying374
 a80:=Tryz.isAgg374
 z80:=Tryz.sizeOf374
 v80:=Tryz.zeroValue374
 i0:=by kernel_rfl
 i3:=by kernel_rfl
 i4:=by kernel_rfl
 i5:=by kernel_rfl
 i9:=by kernel_rfl
 i20:=by kernel_rfl
 i37:=by kernel_rfl
 i75:=by kernel_rfl
 i80:=by kernel_rfl
 m14:=by kernel_rfl
structure GsG where
 L:LsD
 cs:List Value
 n:Nat
def qM:aY:=⟨GsG,fun g vs A=>vs= [g.L.v,.int .i64 g.n]∧LsR A 1 5 g.L g.cs∧1≤g.n∧g.L.c≤140737488355328∧g.L.n+g.n≤1000000000∧(∀v∈g.cs,v.oneCell'=true)∧(g.L.g=none→g.L.v= .slice none 0 0),
 fun g _ A v A'=>A.Sub A'∧∃L':LsD,v=L'.v∧L'.n=g.L.n∧g.L.n+g.n≤L'.c∧L'.c≤9223372036854775807∧LsR A' 1 5 L' g.cs∧∃k,L'.g=some k∧A.blk k=none⟩
theorem sA{A:aa}{w w':World}{cells:Array Value}{t:TypeId}(hA:∀k o,A.blk k=some o→w.heap[k]? =some o)(hb:Below w.heap.size w w')(hn:w'.heap[w.heap.size]? =some (.cells cells t (0,0))):
  A.blk w.heap.size=none∧z1 A (aa.of (fun k=>if k=w.heap.size then some (.cells cells t (0,0))else A.blk k)) w w':=by
 have hlt:∀k o,A.blk k=some o→k<w.heap.size:=fun k o hk=>(Array.getElem?_eq_some_iff.1 (hA k o hk)).1
 have h0:A.blk w.heap.size=none:=by
  cases h:A.blk w.heap.size with
  |none=>rfl
  |some o=>exact absurd (hlt _ _ h) (Nat.lt_irrefl _)
 obtain⟨b1,b2,b3,_,b5⟩:=hb;refine⟨h0,b1,b3,b2,fun k _ hk=>b5 k hk,fun k o hk=> ?_,fun k o hk=> ?_⟩
 ·have hk:(if k=w.heap.size then some (Obj.cells cells t (0,0))else A.blk k)=some o:=hk
  by_cases e:k=w.heap.size
  ·rw [if_pos e]at hk
   rw [e,hn,hk]
  ·rw [if_neg e]at hk
   exact(b5 k (hlt k o hk)).trans (hA k o hk)
 ·have hk:(if k=w.heap.size then some (Obj.cells cells t (0,0))else A.blk k)=some o:=hk
  by_cases e:k=w.heap.size
  ·exact .inr (by omega)
  ·rw [if_neg e]at hk
   exact .inl ⟨o,hk⟩
theorem tX:FOk Tryz.prog 265 qM:=by
 intro⟨L,cs,n⟩ vs A w hA hp;obtain⟨rfl,hL,h1,hc,hn,hone,hnil⟩:vs= [L.v,.int .i64 n]∧LsR A 1 5 L cs∧1≤n∧L.c≤140737488355328∧L.n+n≤1000000000∧(∀v∈cs,v.oneCell'=true)∧(L.g=none→L.v= .slice none 0 0):=hp;refine eE ym.f290 ⟨by kernel_rfl,by kernel_rfl⟩ ?_;rcases hL with⟨k1,k2,k3,rfl,base,k4⟩|⟨g,k1,k2,k3,⟨⟨cc,j1,j2,j3⟩,j4,j5⟩⟩
 ·rw [hnil k1]
  intro fs;obtain⟨e,w',fr,⟨cap2,cells,q1,q2,q3,q4,q5,q6⟩,q7⟩:=Any.bytes_growSlice_nil ym n w h1 (by omega) fs;obtain⟨h0,hM⟩:=sA hA q6 q2;refine⟨e,w',fr,⟨_,q1,_,⟨fun k o hk=> ?_,⟨.slice (some ⟨w.heap.size,0,none⟩) 0 cap2,0,cap2,some w.heap.size⟩,rfl,k2.symm,by show L.n+n≤cap2;omega,q5,.inr ⟨w.heap.size,rfl,rfl,by show 0<cap2;omega,⟨⟨cells,if_pos rfl,by show cells.size=cap2*1;omega,by simp⟩,Nat.zero_le _,by simp⟩⟩,w.heap.size,rfl,h0⟩,hM⟩,q7⟩;show(if k=w.heap.size then _ else A.blk k)=some o
  rw [if_neg fun e=>(by rw [e,h0]at hk;cases hk)];exact hk
 ·rw [k2]
  have hcc:cc.size=L.c:=by omega
  have hone':∀v∈cc.toList.take L.n,v.oneCell'=true:=fun v hv=>hone v (by rw [←j3,Nat.mul_one];exact hv)
  intro fs;obtain⟨e,w',fr,⟨cap2,cells,q1,q2,q3,q4,q5,q6,q8⟩,q7⟩:=Any.bytes_growSlice_row ym g L.n L.c n cc w (hA _ _ j1) hcc j4 h1 (by omega) (by omega) hone' fs;obtain⟨h0,hM⟩:=sA hA q8 q2;refine⟨e,w',fr,⟨_,q1,_,⟨fun k o hk=> ?_,⟨.slice (some ⟨w.heap.size,0,none⟩) L.n cap2,L.n,cap2,some w.heap.size⟩,rfl,rfl,q5,q6,.inr ⟨w.heap.size,rfl,rfl,by show 0<cap2;omega,⟨⟨cells,if_pos rfl,by show cells.size=cap2*1;omega,?_⟩,by show L.n≤cap2;omega,j5⟩⟩,w.heap.size,rfl,h0⟩,hM⟩,q7⟩
  ·show(if k=w.heap.size then _ else A.blk k)=some o
   rw [if_neg fun e=>(by rw [e,h0]at hk;cases hk)];exact hk
  ·show cells.toList.take (L.n*1)=cs
   rw [Nat.mul_one,q4,←j3,Nat.mul_one]
end
end Go.Proofs.YtmmlhdiejkknnaaGreatDoor
namespace Go.Proofs.YtmmlhdiejkknnaaGreatDoor
open Go.Sx Go.RowKit
noncomputable section
open Classical
structure BfR(A:aa)(w:Nat)(L:LsD)(l:List UInt8):Prop where
 top:∃lr,aE A w [L.v,.int .i64 0,.int .i8 lr]
 row:LsR A 1 5 L (l.map bv)
 ne:L.g≠some w
 nil:L.g=none→L.v= .slice none 0 0
 cap:L.c≤9223372036854775807
theorem BfR.len{A:aa}{w:Nat}{L:LsD}{l:List UInt8}(h:BfR A w L l):L.n=l.length:=by
 have:=h.row.len;rw [List.length_map]at this;omega
def fk(A:aa)(w:Nat)(L:LsD)(l:List UInt8)(A':aa):Prop:=
 ∃L',BfR A' w L' l∧(∀k o,A.blk k=some o→k≠w→L.g≠some k→A'.blk k=some o)∧∀g,L'.g=some g→L.g=some g∨A.blk g=none
def mb(A:aa)(w:Nat)(L:LsD)(l:List UInt8)(n:Nat)(A':aa):Prop:=
 ∃(k c:Nat) (zs:List Value),(∃lr,aE A' w [.slice (some ⟨k,0,none⟩) (l.length+n) c,.int .i64 0,.int .i8 lr])∧ee A' k 1 5 (l.length+n) c (l.map bv++zs)∧zs.length=n∧0<c∧c≤9223372036854775807∧k≠w∧(L.g=some k∨A.blk k=none)∧
  ∀k' o,A.blk k'=some o→k'≠w→L.g≠some k'→A'.blk k'=some o
theorem iK(l:List UInt8):∀v∈l.map bv,v.oneCell'=true:=fun v hv=>by
 obtain⟨b,_,rfl⟩:=List.mem_map.1 hv;rfl
theorem gX{x:Int}{c k:Nat}(hx:x=k)(hk:k≤c):((decide ((0:Int)≤0)&&decide ((0:Int)≤x))&&(false||decide (x≤(c:Int))))=true:=by
 subst hx;exact Bool.and_eq_true_iff.2 ⟨Bool.and_eq_true_iff.2 ⟨decide_eq_true (by omega),decide_eq_true (by omega)⟩,Bool.or_eq_true_iff.2 (.inr (decide_eq_true (by omega)))⟩
theorem LsR.rowAt{A:aa}{es:Nat}{e:TypeId}{L:LsD}{cs:List Value}{k:Nat}(h:LsR A es e L cs)(hk:L.g=some k):L.v= .slice (some ⟨k,0,none⟩) L.n L.c∧0<L.c∧ee A k es e L.n L.c cs:=by
 rcases h with⟨h1,_⟩|⟨g,h1,h2,h3,h4⟩
 ·rw [h1]at hk;cases hk
 ·rw [h1]at hk
  injection hk with hk
  subst hk;exact⟨h2,h3,h4⟩
theorem ee.wide{A:aa}{k:Nat}{e:TypeId}{m c n:Nat}{cs:List Value}(h:ee A k 1 e m c cs)(hn:m+n≤c):∃zs:List Value,zs.length=n∧ee A k 1 e (m+n) c (cs++zs):=by
 obtain⟨⟨cc,h1,h2,h3⟩,h4,h5⟩:=h;have hcl:cc.toList.length=c:=by rw [Array.length_toList];omega
 have hz:((cc.toList.drop m).take n).length=n:=by rw [List.length_take,List.length_drop];omega
 refine⟨(cc.toList.drop m).take n,hz,⟨cc,h1,h2,?_⟩,hn,by rw [List.length_append,hz];omega⟩;rw [Nat.mul_one]at h3 ⊢;rw [List.take_add,h3]
structure BfG where
 w:Nat
 L:LsD
 l:List UInt8
 n:Nat
def jE:aY:=⟨BfG,fun g vs A=>vs= [.pointer (some ⟨g.w,0,none⟩),.int .i64 g.n]∧BfR A g.w g.L g.l∧1≤g.n∧g.l.length+g.n≤900000000∧g.L.c<g.l.length+g.n,fun g _ A v A'=>v= .int .i64 g.l.length∧mb A g.w g.L g.l g.n A'⟩
theorem oa:FOk Tryz.prog 201 jE:=by
 refine bG mixed fun⟨w,L,l,n⟩ vs A hp=> ?_
 obtain⟨rfl,hW,hn1,hlen,hfull⟩:vs= [.pointer (some ⟨w,0,none⟩),.int .i64 n]∧BfR A w L l∧1≤n∧l.length+n≤900000000∧L.c<l.length+n:=hp
 have hC:aI Tryz.prog (bQ [aM 265 qM] noC):=aD (aA _) (fun x hx=>by
  simp only [List.mem_singleton]at hx;subst hx
  exact au tX)
 refine⟨_,noL,60,hC,az _,fun blk os out tape D hD=> ?_⟩;have hL:=hW.len;obtain⟨lr,htop⟩:=hW.top;have hrow:=hW.row;rcases hrow with⟨k1,k2,k3,k4, -⟩|⟨g,k1,k2,k3,k5⟩
 ·have hv:=hW.nil k1
  rw [hv]at htop;have r1:A.rd w 0 1=some [.slice none 0 0]:=htop.rd (o:=0) (n:=1) (by show 0+1≤3;omega);have r2:A.rd w 1 1=some [.int .i64 0]:=htop.rd (o:=1) (n:=1) (by show 1+1≤3;omega);conv=>lhs;whnf
  repeat(first|refine ai r1 ?_|refine ai r2 ?_|refine aj hD rfl ?_
         conv=>lhs;whnf)
  refine af (fun h=>absurd h (by show ¬((n:Int)≤0);omega)) (fun _=> ?_);conv=>lhs;whnf
  repeat(first|refine ai r1 ?_|refine ai r2 ?_|refine aj hD rfl ?_
         conv=>lhs;whnf)
  refine af (fun h64=> ?_) (fun h64=> ?_)<;>(conv=>lhs;whnf)
  all_goals
   repeat(first|refine ai r1 ?_|refine ai r2 ?_|refine aj hD rfl ?_
          conv=>lhs;whnf)
  ·refine(hD _).2 ⟨by omega,h64,by decide,by decide,rfl,fun gb A1 c1 hc1 hN1=> ?_⟩
   have hN1:A.New A1 gb c1 5:=hN1;have hroom:A1.Room w 0 1:=(htop.sub fun o ho=>hN1.sub w o ho).room (by show 0+1≤3;omega);conv=>lhs;whnf
   repeat(first|refine ai r1 ?_|refine ai r2 ?_|refine aj hD rfl ?_
          conv=>lhs;whnf)
   refine(hD _).2 ⟨hroom,fun A6 hPut=> ?_⟩;have hPut:A1.Put A6 w 0 [.slice (some ⟨gb,0,none⟩) n 64]:=hPut;conv=>lhs;whnf
   repeat(first|refine ai r1 ?_|refine ai r2 ?_|refine aj hD rfl ?_
          conv=>lhs;whnf)
   have hc1':c1.toList=List.replicate 64 (.int .u8 0):=by
    rw [hc1];show(List.replicate 64 [Value.int .u8 0]).flatten=_
    rw [List.flatten_replicate_singleton]
   have h64':n≤64:=by
    have h64:(n:Int)≤64:=h64;omega
   have hgw:gb≠w:=fun e=>(by
    have hd:=htop.dom;obtain⟨o,ho⟩:=hd
    rw [←e,hN1.none_]at ho;cases ho)
   have hend:jE.post ⟨w,L,l,n⟩ [] A (.int .i64 0) A6:=by
    have hl0:l.length=0:=by omega
    refine⟨congrArg (Value.int .i64) (show(0:Int)=(l.length:Int)by omega),gb,64,c1.toList.take n,⟨lr,?_⟩,⟨⟨c1,?_,?_,?_⟩,?_,?_⟩,?_,by decide,by decide,hgw,.inr hN1.none_,fun k' o hk hw _=> ?_⟩
    ·have h9:aE A6 w [.slice (some ⟨gb,0,none⟩) n 64,.int .i64 0,.int .i8 lr]:=(htop.sub fun o ho=>hN1.sub w o ho).put hPut (by show 0+1≤3;omega)
     show aE A6 w [.slice (some ⟨gb,0,none⟩) (l.length+n) 64,.int .i64 0,.int .i8 lr]
     rw [hl0,Nat.zero_add];exact h9
    ·rw [hPut.other gb hgw]
     exact hN1.at_
    ·rw [←Array.length_toList,hc1',List.length_replicate]
    ·show c1.toList.take ((l.length+n)*1)=l.map bv++c1.toList.take n
     rw [k4,hl0,Nat.zero_add,Nat.mul_one];rfl
    ·show l.length+n≤64
     omega
    ·show(l.map bv++c1.toList.take n).length=(l.length+n)*1
     rw [k4,List.nil_append,List.length_take,hc1',List.length_replicate];omega
    ·show(c1.toList.take n).length=n
     rw [List.length_take,hc1',List.length_replicate];omega
    ·rw [hPut.other k' hw]
     exact hN1.sub k' o hk
   exact(hD _).2 hend
  ·have e2:IntKind.i64.wrap (IntKind.i64.wrap ((0:Int).tdiv 2)-IntKind.i64.wrap ((0:Int)-0))=0:=by decide+kernel
   refine af (fun h=>absurd h (by
    intro h;have h:(n:Int)≤IntKind.i64.wrap (IntKind.i64.wrap ((0:Int).tdiv 2)-IntKind.i64.wrap ((0:Int)-0)):=h;rw [e2]at h
    omega)) (fun _=> ?_)
   conv=>lhs;whnf
   repeat(first|refine ai r1 ?_|refine ai r2 ?_|refine aj hD rfl ?_
          conv=>lhs;whnf)
   have e3:IntKind.i64.wrap (IntKind.i64.wrap ((9223372036854775807:Int)-0)-(n:Int))=9223372036854775807-(n:Int):=by
    rw [i64_in (n:=(9223372036854775807:Int)-0) (by omega) (by omega),i64_in (by omega) (by omega)];omega
   refine af (fun h=>absurd h (by
    intro h;have h:IntKind.i64.wrap (IntKind.i64.wrap ((9223372036854775807:Int)-0)-(n:Int))<0:=h;rw [e3]at h
    omega)) (fun _=> ?_)
   conv=>lhs;whnf
   repeat(first|refine ai r1 ?_|refine ai r2 ?_|refine aj hD rfl ?_
          conv=>lhs;whnf)
   have e4:IntKind.i64.wrap ((0:Int)+(n:Int))=(n:Int):=by rw [Int.zero_add];exact i64_in (by omega) (by omega)
   have e6:IntKind.i64.wrap (IntKind.i64.wrap ((0:Int)-0)+(n:Int))=((L.n+n:Nat):Int):=by
    have e7:IntKind.i64.wrap ((0:Int)-0)=0:=by decide+kernel
    rw [e7,i64_in (by omega) (by omega)];omega
   have harg: [Value.slice none 0 0,.int .i64 (IntKind.i64.wrap ((0:Int)+(n:Int)))]= [L.v,.int .i64 (n:Int)]:=by rw [hv,e4]
   refine(hD _).2 ⟨(⟨L,l.map bv,n⟩:GsG),⟨harg,hW.row,hn1,by show L.c≤140737488355328;omega,by show L.n+n≤1000000000;omega,iK l,hW.nil⟩,fun v A1 hq=> ?_⟩;obtain⟨s1,⟨v',n',c',g'⟩,hv',hn',hc',hcm,hR,kb,hkb,hkA⟩:A.Sub A1∧∃L':LsD,v=L'.v∧L'.n=L.n∧L.n+n≤L'.c∧L'.c≤9223372036854775807∧LsR A1 1 5 L' (l.map bv)∧∃k,L'.g=some k∧A.blk k=none:=hq;have hf:=hR.rowAt hkb;obtain⟨z2,z3,z4⟩:=hf;have hn':n'=L.n:=hn';have z2:v'= .slice (some ⟨kb,0,none⟩) n' c':=z2;have hv':v=v':=hv';subst hn';subst hv';subst z2
   have hc':L.n+n≤c':=hc'
   have hkw:kb≠w:=fun e=>(by
    have hd:=htop.dom;obtain⟨o,ho⟩:=hd
    rw [←e,hkA]at ho;cases ho)
   have ht1:=htop.sub fun o ho=>s1 w o ho
   have hroom:A1.Room w 0 1:=ht1.room (by show 0+1≤3;omega);conv=>lhs;whnf
   repeat(first|refine ai r1 ?_|refine ai r2 ?_|refine aj hD rfl ?_
          conv=>lhs;whnf)
   refine(hD _).2 ⟨hroom,fun A2 hP2=> ?_⟩;conv=>lhs;whnf
   repeat(first|refine ai r1 ?_|refine ai r2 ?_|refine aj hD rfl ?_
          conv=>lhs;whnf)
   have hP2:A1.Put A2 w 0 [.slice (some ⟨kb,0,none⟩) L.n c']:=hP2;have ht2:aE A2 w [.slice (some ⟨kb,0,none⟩) L.n c',.int .i64 0,.int .i8 lr]:=ht1.put hP2 (by show 0+1≤3;omega);refine(hD _).2 ⟨ht2.room (by show 1+1≤3;omega),fun A3 hP3=> ?_⟩;have hP3:A2.Put A3 w 1 [.int .i64 0]:=hP3;have ht3:aE A3 w [.slice (some ⟨kb,0,none⟩) L.n c',.int .i64 0,.int .i8 lr]:=ht2.put hP3 (by show 1+1≤3;omega);have r3:A3.rd w 0 1=some [.slice (some ⟨kb,0,none⟩) L.n c']:=ht3.rd (o:=0) (n:=1) (by show 0+1≤3;omega);conv=>lhs;whnf
   repeat(first|refine ai r3 ?_|refine aj hD rfl ?_
          conv=>lhs;whnf)
   refine gB (gX e6 hc') ?_;conv=>lhs;whnf
   repeat(first|refine ai r3 ?_|refine aj hD rfl ?_
          conv=>lhs;whnf)
   refine(hD _).2 ⟨ht3.room (by show 0+1≤3;omega),fun A4 hP4=> ?_⟩;have hP4:A3.Put A4 w 0 [.slice (some ⟨kb,0+(bif c'.beq (Int.toNat 0)then 0 else Int.toNat 0*1),none⟩) ((IntKind.i64.wrap (IntKind.i64.wrap ((0:Int)-0)+(n:Int))).toNat-Int.toNat 0) (c'-Int.toNat 0)]:=hP4;have e8:(bif c'.beq (Int.toNat 0)then 0 else Int.toNat 0*1)=0:=by cases c'.beq (Int.toNat 0)<;>rfl
   rw [e6,e8]at hP4;have hP4:A3.Put A4 w 0 [.slice (some ⟨kb,0,none⟩) (L.n+n) c']:=hP4;have ht4:aE A4 w [.slice (some ⟨kb,0,none⟩) (L.n+n) c',.int .i64 0,.int .i8 lr]:=ht3.put hP4 (by show 0+1≤3;omega);have hoth:∀k,k≠w→A4.blk k=A1.blk k:=fun k hk=>by rw [hP4.other k hk,hP3.other k hk,hP2.other k hk]
   have z4:ee A1 kb 1 5 L.n c' (l.map bv):=z4;have hwide:=z4.wide hc';obtain⟨zs,hz,hrow9⟩:=hwide;rw [hL]at ht4 hrow9
   have hend:jE.post ⟨w,L,l,n⟩ [] A (.int .i64 (IntKind.i64.wrap ((0:Int)-0))) A4:=by
    refine⟨congrArg (Value.int .i64) (by rw [show IntKind.i64.wrap ((0:Int)-0)=0 by decide+kernel];show(0:Int)=(l.length:Int);omega),kb,c',zs,⟨lr,ht4⟩,hrow9.ck (hoth kb hkw),hz,z3,hcm,hkw,.inr hkA,fun k' o hk hw _=> ?_⟩;rw [hoth k' hw];exact s1 k' o hk
   conv=>lhs;whnf
   repeat(first|refine aj hD rfl ?_
          conv=>lhs;whnf)
   exact(hD _).2 hend
 ·rw [k2]at htop
  have r1:A.rd w 0 1=some [.slice (some ⟨g,0,none⟩) L.n L.c]:=htop.rd (o:=0) (n:=1) (by show 0+1≤3;omega);have r2:A.rd w 1 1=some [.int .i64 0]:=htop.rd (o:=1) (n:=1) (by show 1+1≤3;omega);conv=>lhs;whnf
  repeat(first|refine ai r1 ?_|refine ai r2 ?_|refine aj hD rfl ?_
         conv=>lhs;whnf)
  have hcp:=hW.cap;have e0:IntKind.i64.wrap ((L.n:Int)-0)=(L.n:Int):=i64_in (by omega) (by omega);have e1:IntKind.i64.wrap ((L.c:Int)-(L.n:Int))=(L.c:Int)-(L.n:Int):=i64_in (by omega) (by omega)
  have e2:IntKind.i64.wrap (IntKind.i64.wrap ((L.c:Int).tdiv 2)-IntKind.i64.wrap ((L.n:Int)-0))=((L.c/2:Nat):Int)-(L.n:Int):=by
   rw [e0,Int.tdiv_eq_ediv_of_nonneg (by omega),i64_in (n:=(L.c:Int)/2) (by omega) (by omega),i64_in (by omega) (by omega)];omega
  have e3:IntKind.i64.wrap (IntKind.i64.wrap ((9223372036854775807:Int)-(L.c:Int))-(n:Int))=9223372036854775807-(L.c:Int)-(n:Int):=by
   rw [i64_in (n:=(9223372036854775807:Int)-(L.c:Int)) (by omega) (by omega),i64_in (by omega) (by omega)]
  have e4:IntKind.i64.wrap ((0:Int)+(n:Int))=(n:Int):=by rw [Int.zero_add];exact i64_in (by omega) (by omega)
  have harg: [Value.slice (some ⟨g,0+(bif L.c.beq (Int.toNat 0)then 0 else Int.toNat 0*1),none⟩) ((L.n:Int).toNat-Int.toNat 0) (L.c-Int.toNat 0),.int .i64 (IntKind.i64.wrap ((0:Int)+(n:Int)))]= [L.v,.int .i64 (n:Int)]:=by
   have e5:(bif L.c.beq (Int.toNat 0)then 0 else Int.toNat 0*1)=0:=by cases L.c.beq (Int.toNat 0)<;>rfl
   rw [e4,k2,e5];rfl
  have e6:IntKind.i64.wrap (IntKind.i64.wrap ((L.n:Int)-0)+(n:Int))=((L.n+n:Nat):Int):=by
   rw [e0,i64_in (by omega) (by omega)];omega
  refine af (fun h0=> ?_) (fun h0=> ?_)<;>(conv=>lhs;whnf)
  all_goals
   repeat(first|refine ai r1 ?_|refine ai r2 ?_|refine aj hD rfl ?_
          conv=>lhs;whnf)
   refine af (fun h=>absurd h (by rw [e1];omega)) (fun _=> ?_);conv=>lhs;whnf
   repeat(first|refine ai r1 ?_|refine ai r2 ?_|refine aj hD rfl ?_
          conv=>lhs;whnf)
   refine af (fun h=>absurd h (by rw [e2];omega)) (fun _=> ?_);conv=>lhs;whnf
   repeat(first|refine ai r1 ?_|refine ai r2 ?_|refine aj hD rfl ?_
          conv=>lhs;whnf)
  all_goals
   refine af (fun h=>absurd h (by rw [e3];omega)) (fun _=> ?_);conv=>lhs;whnf
   repeat(first|refine ai r1 ?_|refine ai r2 ?_|refine aj hD rfl ?_
          conv=>lhs;whnf)
  all_goals
   refine(hD _).2 ⟨(⟨L,l.map bv,n⟩:GsG),⟨harg,hW.row,hn1,by show L.c≤140737488355328;omega,by show L.n+n≤1000000000;omega,iK l,hW.nil⟩,fun v A1 hq=> ?_⟩;obtain⟨s1,⟨v',n',c',g'⟩,hv',hn',hc',hcm,hR,kb,hkb,hkA⟩:A.Sub A1∧∃L':LsD,v=L'.v∧L'.n=L.n∧L.n+n≤L'.c∧L'.c≤9223372036854775807∧LsR A1 1 5 L' (l.map bv)∧∃k,L'.g=some k∧A.blk k=none:=hq;have hf:=hR.rowAt hkb;obtain⟨z2,z3,z4⟩:=hf;have hn':n'=L.n:=hn';have z2:v'= .slice (some ⟨kb,0,none⟩) n' c':=z2;have hv':v=v':=hv';subst hn';subst hv';subst z2
   have hc':L.n+n≤c':=hc'
   have hkw:kb≠w:=fun e=>(by
    have hd:=htop.dom;obtain⟨o,ho⟩:=hd
    rw [←e,hkA]at ho;cases ho)
   have ht1:=htop.sub fun o ho=>s1 w o ho
   have hroom:A1.Room w 0 1:=ht1.room (by show 0+1≤3;omega);conv=>lhs;whnf
   repeat(first|refine ai r1 ?_|refine ai r2 ?_|refine aj hD rfl ?_
          conv=>lhs;whnf)
   refine(hD _).2 ⟨hroom,fun A2 hP2=> ?_⟩;conv=>lhs;whnf
   repeat(first|refine ai r1 ?_|refine ai r2 ?_|refine aj hD rfl ?_
          conv=>lhs;whnf)
   have hP2:A1.Put A2 w 0 [.slice (some ⟨kb,0,none⟩) L.n c']:=hP2;have ht2:aE A2 w [.slice (some ⟨kb,0,none⟩) L.n c',.int .i64 0,.int .i8 lr]:=ht1.put hP2 (by show 0+1≤3;omega);refine(hD _).2 ⟨ht2.room (by show 1+1≤3;omega),fun A3 hP3=> ?_⟩;have hP3:A2.Put A3 w 1 [.int .i64 0]:=hP3;have ht3:aE A3 w [.slice (some ⟨kb,0,none⟩) L.n c',.int .i64 0,.int .i8 lr]:=ht2.put hP3 (by show 1+1≤3;omega);have r3:A3.rd w 0 1=some [.slice (some ⟨kb,0,none⟩) L.n c']:=ht3.rd (o:=0) (n:=1) (by show 0+1≤3;omega);conv=>lhs;whnf
   repeat(first|refine ai r3 ?_|refine aj hD rfl ?_
          conv=>lhs;whnf)
   refine gB (gX e6 hc') ?_;conv=>lhs;whnf
   repeat(first|refine ai r3 ?_|refine aj hD rfl ?_
          conv=>lhs;whnf)
   refine(hD _).2 ⟨ht3.room (by show 0+1≤3;omega),fun A4 hP4=> ?_⟩;have hP4:A3.Put A4 w 0 [.slice (some ⟨kb,0+(bif c'.beq (Int.toNat 0)then 0 else Int.toNat 0*1),none⟩) ((IntKind.i64.wrap (IntKind.i64.wrap ((L.n:Int)-0)+(n:Int))).toNat-Int.toNat 0) (c'-Int.toNat 0)]:=hP4;have e8:(bif c'.beq (Int.toNat 0)then 0 else Int.toNat 0*1)=0:=by cases c'.beq (Int.toNat 0)<;>rfl
   rw [e6,e8]at hP4;have hP4:A3.Put A4 w 0 [.slice (some ⟨kb,0,none⟩) (L.n+n) c']:=hP4;have ht4:aE A4 w [.slice (some ⟨kb,0,none⟩) (L.n+n) c',.int .i64 0,.int .i8 lr]:=ht3.put hP4 (by show 0+1≤3;omega);have hoth:∀k,k≠w→A4.blk k=A1.blk k:=fun k hk=>by rw [hP4.other k hk,hP3.other k hk,hP2.other k hk]
   have z4:ee A1 kb 1 5 L.n c' (l.map bv):=z4;have hwide:=z4.wide hc';obtain⟨zs,hz,hrow9⟩:=hwide;rw [hL]at ht4 hrow9
   have hend:jE.post ⟨w,L,l,n⟩ [] A (.int .i64 (IntKind.i64.wrap ((L.n:Int)-0))) A4:=by
    refine⟨congrArg (Value.int .i64) (by rw [e0,hL]),kb,c',zs,⟨lr,ht4⟩,hrow9.ck (hoth kb hkw),hz,z3,hcm,hkw,.inr hkA,fun k' o hk hw _=> ?_⟩;rw [hoth k' hw];exact s1 k' o hk
   conv=>lhs;whnf
   repeat(first|refine aj hD rfl ?_
          conv=>lhs;whnf)
   exact(hD _).2 hend
end
end Go.Proofs.YtmmlhdiejkknnaaGreatDoor
