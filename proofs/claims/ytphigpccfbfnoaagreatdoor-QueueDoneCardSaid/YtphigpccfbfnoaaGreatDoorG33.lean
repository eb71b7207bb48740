/-
  Parts of the proof: TrM TrNa GrC RwA RkA RbP RbA
-/
import Derived.Test.YtphigpccfbfnoaaGreatDoorG32
import Derived.Test.YtphigpccfbfnoaaGreatDoorG30
import Derived.Test.YtphigpccfbfnoaaGreatDoorG17
import Derived.Test.YtphigpccfbfnoaaGreatDoorG15
import Derived.Lib.Join
import Derived.Test.YtphigpccfbfnoaaGreatDoorG24
set_option maxRecDepth 100000
set_option maxHeartbeats 0
namespace Go.Proofs.YtphigpccfbfnoaaGreatDoor
open Go.Sx Go.RowKit
noncomputable section
open Classical
structure aC where
 path:ByteArray
 data:List UInt8
 stat:ec
def bytesOf(l:List UInt8):ByteArray:=⟨l.toArray⟩
theorem mM(q:ByteArray):bytesOf (eC q)=q:=by
 obtain⟨⟨l⟩⟩:=q;rfl
def mI(T:aT)(p:ByteArray):Nat:=(T.nodes.map (·.1)).countP fun q=>decide (aR q=p)
def toldOf(T:aT)(p:ByteArray):aC:=match aM p T.nodes with
 |some n=>⟨p,n.data, { n.stat with len:=n.data.length,kids:=mI T p }⟩
 |none=>⟨p, [],⟨0,0,0,0,0,0,0,0,0,0⟩⟩
def ez(T:aT):List aC:=(cq T).map fun l=>toldOf T (bytesOf l)
def aP(x:aC×Value):List Value:= .string x.1.path::x.2::x.1.stat.cells
def wX(D:aa)(v:Value)(ns:List aC):Prop:=∃l:List (aC×Value),l.map (·.1)=ns∧Sl D 12 ns.length v (l.flatMap aP)∧∀x∈l,SlB D x.2 x.1.data
abbrev vT(n:Nat):Value:= .int .i64 n
theorem w6{k:Nat}(h:k<9223372036854775807):IntKind.i64.wrap ((k:Int)+1)=((k+1:Nat):Int):=by
 have h1:=av h;injection h1 with h1
 injection h1 with h1
 injection h1
structure A1G where
 k:Nat
 A:aa
 l:List (ByteArray×Nat)
def fW(ps:List (List UInt8))(q:ByteArray):Nat:=ps.countP fun x=>decide (aR (bytesOf x)=q)
theorem tS(ps:List (List UInt8))(k:Nat)(hk:k<ps.length)(q:ByteArray):fW (ps.take (k+1)) q=fW (ps.take k) q+if q=aR (bytesOf ps[k])then 1 else 0:=by
 unfold fW;rw [List.take_succ_eq_append_getElem hk,List.countP_append];congr 1
 by_cases h:q=aR (bytesOf ps[k])
 ·rw [if_pos h,h];simp
 ·rw [if_neg h]
  have h':¬aR (bytesOf ps[k])=q:=fun e=>h e.symm
  simp [h']
theorem yk(ps:List (List UInt8))(q:ByteArray):fW ps q≤ps.length:=List.countP_le_length
theorem rm(l:List (List UInt8)):(dL l).Perm l:=List.mergeSort_perm _ _
theorem C9{T:aT}{x:List UInt8}(h:x∈cq T):bytesOf x∈T.nodes.map (·.1):=by
 obtain⟨e,he,h3⟩:=List.mem_map.1 ((rm _).mem_iff.1 h);exact List.mem_map.2 ⟨e,he,by rw [←h3,mM]⟩
theorem yR(T:aT)(q:ByteArray):fW (cq T) q=mI T q:=by
 rw [fW,mI,cq,(rm _).countP_eq,List.countP_map,List.countP_map];refine List.countP_congr fun e _=> ?_
 simp only [Function.comp_apply,mM]
theorem rZ{A K K':aa}(h:K.Sub K'):(K.minus A).Sub (K'.minus A):=fun k o hk=>by
 obtain⟨h1,h2⟩:=bN hk
 show(match A.blk k with
  |none=>K'.blk k
  |some _=>none)=some o
 rw [h1];exact h _ _ h2
theorem DJ{K K' A:aa}{es:Nat}{e:TypeId}{n:Nat}{v:Value}{cs:List Value}(h:bq K A es e n v cs)(hk:∀k o,K.blk k=none→A.blk k=some o→K'.blk k=none):bq K' A es e n v cs:=by
 obtain⟨h1,h2|⟨g,nc,c,h3,h4,h4',h5,h6,h7,h8⟩⟩:=h
 ·exact⟨h1,.inl h2⟩
 ·exact⟨h1,.inr ⟨g,nc,c,h3,h4,h4',hk g _ h5 h6,h6,h7,h8⟩⟩
theorem grow_sl{A0 K A:aa}{es:Nat}{e:TypeId}{n:Nat}{v:Value}{cs:List Value}(h:bq K A es e n v cs)(h0:A0.Sub K):Sl (A.minus A0) es n v cs:=by
 obtain⟨h1,⟨rfl,rfl⟩|⟨g,nc,c,rfl,h4,h4',h5,h6,h7,h8⟩⟩:=h
 ·have hc:cs= []:=List.length_eq_zero_iff.1 (by rw [h1];simp)
  subst hc;exact Sl.nil _ _
 ·have hg:A0.blk g=none:=by
    cases hA:A0.blk g with
    |none=>rfl
    |some o=>rw [h0 _ _ hA]at h5;cases h5
  have hle:n*es≤nc*es:=Nat.mul_le_mul_right _ h4;refine Sl.row h4 (jA ?_ hg);rw [rd_mk h6 (by omega),List.drop_zero,h8]
def Cj(A2:aa)(c:Nat)(ps:List (List UInt8)):dE:=
 { γ:=A1G,G:=fun g=>g.k≤ps.length∧(∀b,b≠c→g.A.blk b=A2.blk b)∧bX g.A c (fF vT g.l)∧∀q,(aM q g.l).getD 0=fW (ps.take g.k) q,
   keepS:= [0,3,4,14,15],keepB:= [],sl:=fun g=> [(16,.v (.int .i64 g.k))],bl:=fun _=> [],ar:=fun g=>g.A,mu:=fun g=>ps.length-g.k }
structure A2G where
 k:Nat
 A:aa
 K:aa
 v:Value
 l:List (aC×Value)
def Ci(A AL:aa)(T:aT)(ps:List (List UInt8)):dE:=
 { γ:=A2G,G:=fun g=>g.k≤ps.length∧g.K.Sub g.A∧AL.Sub g.K∧bq g.K g.A 12 63 g.k g.v (g.l.flatMap aP)∧g.l.map (·.1)=(ps.take g.k).map (fun x=>toldOf T (bytesOf x))∧∀x∈g.l,SlB (g.K.minus A) x.2 x.1.data,
   keepS:= [0,3,4,26,27],keepB:= [],sl:=fun g=> [(28,.v (.int .i64 g.k)),(7,.v g.v)],bl:=fun _=> [],ar:=fun g=>g.A,mu:=fun g=>ps.length-g.k }
def allS:aL:=⟨TG,fun g vs A=>vs= [.pointer (some ⟨g.t,0,none⟩)]∧bz A g.B g.O g.t g.T∧g.T.nodes.length≤1000000,
 fun g _ A v A'=>A.Sub A'∧wX (A'.minus A) v (ez g.T)⟩
theorem all_ok:FOk Tryz.prog 56 allS:=by
 refine aS mixed fun⟨T,B,O,t⟩ vs A hp=> ?_
 obtain⟨rfl,hT,hlen⟩:vs= [.pointer (some ⟨t,0,none⟩)]∧bz A B O t T∧T.nodes.length≤1000000:=hp
 have hCt:aF Tryz.prog (bu [aE 95 zQ,aE 96 qN,aE 86 Bd] noC):=az (aj _) (fun x hx=>by
  simp only [List.mem_cons,List.not_mem_nil,or_false]at hx;rcases hx with rfl|rfl|rfl
  ·exact ai Fi
  ·exact ai pf
  ·exact ai Bc)
 refine⟨_,da Tryz.prog _ noL 60 [(56,0),(56,2)],60,hCt,aH mixed hCt (ak _) _ _,fun blk os out tape D hD=> ?_⟩;conv=>lhs;whnf
 refine(hD _).2 fun c A1 hc hA1 hM1=> ?_
 have hc:A.blk c=none:=hc;have hA1:∀k,k≠c→A1.blk k=A.blk k:=hA1;have hM1:bX A1 c []:=hM1;have s1:A.Sub A1:=fun k o hk=>by rw [hA1 k fun e=>by subst e;rw [hc]at hk;cases hk];exact hk
 conv=>lhs;whnf
 refine(hD _).2 ⟨⟨T,B,O,t⟩,⟨rfl,bM hT s1,hlen⟩,fun v A2 hq=> ?_⟩;obtain⟨s2,hS⟩:A1.Sub A2∧Sl (A2.minus A1) 1 (cq T).length v ((cq T).map cj):=hq;obtain⟨ps,hps⟩:∃ps,ps=cq T:=⟨_,rfl⟩;rw [←hps]at hS;have hpl:ps.length≤1000000:=by rw [hps,cq,dK,List.length_map];exact hlen
 obtain⟨ao,cp,rfl,hcp,_,ha1,ha2,ha3⟩:=hS;conv=>lhs;whnf
 refine(hD _).2 ⟨Cj A2 c ps,⟨(⟨0,A2, []⟩:A1G),⟨Nat.zero_le _,fun _ _=>rfl,hM1.sub fun o ho=>s2 _ _ ho,fun q=>rfl⟩,⟨rfl,trivial⟩,trivial,rfl⟩,fun(sg:A1G) hG=>⟨⟨trivial,trivial⟩,trivial,?_⟩⟩;obtain⟨k,As,l⟩:=sg;obtain⟨hk,hkeep,hM,hcnt⟩:k≤ps.length∧(∀b,b≠c→As.blk b=A2.blk b)∧bX As c (fF vT l)∧∀q,(aM q l).getD 0=fW (ps.take k) q:=hG
 obtain⟨oc,hoc⟩:∃o,A1.blk c=some o:=by
  obtain⟨es,cl,h1,_⟩:=hM1;exact⟨_,h1⟩
 have hPs:(A2.minus A1).Sub As:=fun b o hb=>by
  rw [hkeep b fun e=>by subst e;rw [cG _ hoc]at hb;cases hb];exact(bN hb).2
 have hAs:A.Sub As:=fun b o hb=>by
  rw [hkeep b fun e=>by subst e;rw [hc]at hb;cases hb];exact s2 _ _ (s1 _ _ hb)
 conv=>lhs;whnf
 refine ab (fun hlt=> ?_) (fun hlt=> ?_)<;>(conv=>lhs;whnf)
 ·have hkl:k<ps.length:=by
    have hlt:(k:Int)<(ps.length:Int):=hlt;omega
  obtain⟨g,o,rfl,hra⟩:=Sl.at_ hcp ha1 ha2 ha3 (by omega);have hrow:=aJ hPs (nu hra k hkl rfl);obtain⟨q,hq⟩:∃q,q=bytesOf ps[k]:=⟨_,rfl⟩;have hrow:As.rd g (o+k*1) 1=some [.string q]:=by rw [hrow,hq];rfl
  conv=>lhs;whnf
  refine fN (fun _ _=> ?_) (fun h=>by omega);conv=>lhs;whnf
  refine af hrow ?_;conv=>lhs;whnf
  refine(hD _).2 ⟨q,rfl,fun v A9 hq9=> ?_⟩;obtain⟨h9,rfl⟩:As=A9∧v= .string (aR q):=⟨hq9.1.symm,hq9.2⟩;subst h9;conv=>lhs;whnf
  refine dg (lu hM (aR q)) ?_
  have hnb:(aM (aR q) l).getD 0≤1000000:=by
   rw [hcnt];have h1:=yk (ps.take k) (aR q);rw [List.length_take]at h1;omega
  have hnew:∀A3,(∀b,b≠c→A3.blk b=As.blk b)→bX A3 c (fF vT (cH (aR q) ((aM (aR q) l).getD 0+1) l))→(Cj A2 c ps).G (⟨k+1,A3,cH (aR q) ((aM (aR q) l).getD 0+1) l⟩:A1G):=fun A3 ho hm=>by
   refine⟨by show k+1≤ps.length;omega,fun b hb=>(ho b hb).trans (hkeep b hb),hm,fun q'=> ?_⟩;show(aM q' (cH (aR q) ((aM (aR q) l).getD 0+1) l)).getD 0=fW (ps.take (k+1)) q'
   rw [tS ps k hkl,←hq,jJ]
   by_cases e:q'=aR q
   ·rw [if_pos e,if_pos e,e,←hcnt];rfl
   ·rw [if_neg e,if_neg e,hcnt];rfl
  cases hkg:aM (aR q) l with
  |none=>
   rw [hkg]at hnew;conv=>lhs;whnf
   refine(hD _).2 ⟨_,hM,gB vT (aR q) _,fun A3 hm3 ho3=> ?_⟩;have hm3:bX A3 c (cA (.string (aR q)) (vT (0+1)) (fF vT l)):=hm3;rw [nA]at hm3;conv=>lhs;whnf
   exact(hD _).2 ⟨(⟨k+1,A3,cH (aR q) (0+1) l⟩:A1G),⟨hnew A3 ho3 hm3,⟨av (k:=k) (by omega),trivial⟩,trivial,rfl⟩,by show ps.length-(k+1)<ps.length-k;omega,⟨rfl,rfl,rfl,rfl,rfl,trivial⟩,trivial⟩
  |some n=>
   rw [hkg]at hnew hnb;have hnb:n≤1000000:=hnb;conv=>lhs;whnf
   refine(hD _).2 ⟨_,hM,gB vT (aR q) _,fun A3 hm3 ho3=> ?_⟩;have hm3:bX A3 c (cA (.string (aR q)) (.int .i64 (IntKind.i64.wrap ((n:Int)+1))) (fF vT l)):=hm3;rw [w6 (by omega),show Value.int .i64 ((n+1:Nat):Int)=vT (n+1)from rfl,nA]at hm3;conv=>lhs;whnf
   exact(hD _).2 ⟨(⟨k+1,A3,cH (aR q) (n+1) l⟩:A1G),⟨hnew A3 ho3 hm3,⟨av (k:=k) (by omega),trivial⟩,trivial,rfl⟩,by show ps.length-(k+1)<ps.length-k;omega,⟨rfl,rfl,rfl,rfl,rfl,trivial⟩,trivial⟩
 ·have e:k=ps.length:=by
    have hlt:¬(k:Int)<(ps.length:Int):=hlt;omega
  subst e;rw [List.take_length]at hcnt;have hTA:=bM hT hAs;refine(hD _).2 ⟨Ci A As T ps,⟨(⟨0,As,As,.slice none 0 0, []⟩:A2G),⟨Nat.zero_le _,aa.Sub.refl _,aa.Sub.refl _,bq.nil _ _ _ _,rfl,fun _ hx=>(by cases hx)⟩,⟨rfl,rfl,trivial⟩,trivial,rfl⟩,fun(sg:A2G) hG=>⟨⟨trivial,trivial,trivial⟩,trivial,?_⟩⟩;obtain⟨k,Ak,K,v0,rs⟩:=sg;obtain⟨hk,hKA,hLK,hGr,hrs,hdat⟩:k≤ps.length∧K.Sub Ak∧As.Sub K∧bq K Ak 12 63 k v0 (rs.flatMap aP)∧rs.map (·.1)=(ps.take k).map (fun x=>toldOf T (bytesOf x))∧∀x∈rs,SlB (K.minus A) x.2 x.1.data:=hG;conv=>lhs;whnf
  refine ab (fun hlt=> ?_) (fun hlt=> ?_)<;>(conv=>lhs;whnf)
  ·have hkl:k<ps.length:=by
     have hlt:(k:Int)<(ps.length:Int):=hlt;omega
   obtain⟨g,o,rfl,hra⟩:=Sl.at_ hcp ha1 ha2 ha3 (by omega);have hLA:=hLK.trans hKA;have hrow:=aJ (hPs.trans hLA) (nu hra k hkl rfl);obtain⟨q,hq⟩:∃q,q=bytesOf ps[k]:=⟨_,rfl⟩;have hrow:Ak.rd g (o+k*1) 1=some [.string q]:=by rw [hrow,hq];rfl
   have hqm:q∈T.nodes.map (·.1):=by
    rw [hq];exact C9 (hps▸List.getElem_mem hkl)
   obtain⟨n,hn⟩:∃n,aM q T.nodes=some n:=by
    cases h:aM q T.nodes with
    |some n=>exact⟨n,rfl⟩
    |none=>exact absurd h (lB.2 hqm)
   conv=>lhs;whnf
   refine fN (fun _ _=> ?_) (fun h=>by omega);conv=>lhs;whnf
   refine af hrow ?_;conv=>lhs;whnf
   refine dg (lu (hM.sub fun o ho=>hLA _ _ ho) q) ?_;obtain⟨cn,hcn⟩:∃cn,cn=(aM q l).getD 0:=⟨_,rfl⟩;have hkn:cn=mI T q:=by rw [hcn,hcnt,hps,yR]
   have htold:toldOf T q=⟨q,n.data, { n.stat with len:=n.data.length,kids:=cn }⟩:=by
    rw [toldOf,hn,hkn]
   rcases hkg:aM q l with _|n1
   all_goals
    rw [hkg]at hcn;conv=>lhs;whnf
    refine(hD _).2 ⟨(⟨T,B,O,t⟩,q,n,cn),⟨by rw [hcn];rfl,bM hT (hAs.trans hLA),hn⟩,fun v A4 hq4=> ?_⟩;obtain⟨s4,vd,rfl,hS4⟩:Ak.Sub A4∧∃vd,v=nQ q vd { n.stat with len:=n.data.length,kids:=cn } ∧SlB (A4.minus Ak) vd n.data:=hq4;obtain⟨ad,kd,rfl⟩:=hS4.1.form;conv=>lhs;whnf
    refine(hD _).2 fun gb A5 hN=> ?_
    obtain⟨x,hx⟩:∃x:aC×Value,x=(toldOf T q,.slice ad n.data.length kd):=⟨_,rfl⟩;have hNx:A4.New A5 gb (aP x).toArray 63:=by rw [hx,htold];exact hN
    have hxl:(aP x).length=12:=rfl;have hKA4:=hKA.trans s4;obtain⟨K',hK'⟩:∃K':aa,K'=K.plus (A4.minus Ak):=⟨_,rfl⟩;have hKK:K.Sub K':=by rw [hK'];exact fk _ _
    have hNK:(A4.minus Ak).Sub K':=by
     rw [hK'];refine oY fun j o hj=> ?_
     cases hKj:K.blk j with
     |none=>rfl
     |some o'=>rw [cG _ (hKA _ _ hKj)]at hj;cases hj
    have hK4:K'.Sub A4:=fun j o hj=>by
     rw [hK']at hj;rcases bL hj with hj|⟨_,hj⟩
     ·exact hKA4 _ _ hj
     ·exact(bN hj).2
    have hG4:bq K' Ak 12 63 k v0 (rs.flatMap aP):=DJ hGr fun j o h1 h2=>by
     rw [hK',jC,h1];exact cG _ h2
    have hG5:=(hG4.sub s4).sub hN.sub;have hK5:=hK4.trans hN.sub
    have hd5:∀j,A5.blk j=none→K'.blk j=none:=fun j hj=>by
     cases h1:K'.blk j with
     |none=>rfl
     |some o=>rw [hK5 _ _ h1]at hj;cases hj
    obtain⟨base,c9,rfl,hbase,hP,hA⟩:=hG5.form;have hP:=hP 120 (by omega) (by omega);have hrow:A5.rd gb 0 (1*12)=some (aP x):=hNx.rd (o:=0) (n:=1*12) (by rw [List.size_toArray,hxl];omega);rcases hbase with rfl|⟨g0,rfl⟩<;>(conv=>lhs;whnf)
    all_goals
     refine(hD _).2 ⟨rs.flatMap aP,aP x,hP.rd,?_,rfl,?_,?_,hP.cap,rfl,hP.none_,fun g' o' he' hle' _=>hP.room 12 rfl g' o' he' hle',fun v A6 hAp=> ?_⟩
     ·show(if 1*12=0 then some []else A5.rd gb 0 (1*12))=_
      rw [if_neg (by omega)];exact hrow
     ·intro v hv
      rw [hx]at hv;simp only [aP,ec.cells,List.mem_cons,List.not_mem_nil,or_false]at hv;rcases hv with rfl|rfl|rfl|rfl|rfl|rfl|rfl|rfl|rfl|rfl|rfl|rfl<;>rfl
     ·show k+1≤9223372036854775807
      omega
     ·obtain⟨hG6,hk6⟩:=hA _ _ _ rfl hd5 hAp
      have hK6:K'.Sub A6:=fun j o hj=>by rw [hk6 j o hj];exact hK5 _ _ hj
      have hg6:(Ci A As T ps).G (⟨k+1,A6,K',v,rs++ [x]⟩:A2G):=by
       refine⟨by show k+1≤ps.length;omega,hK6,hLK.trans hKK,?_,?_,fun y hy=> ?_⟩
       ·show bq K' A6 12 63 (k+1) v ((rs++ [x]).flatMap aP)
        rw [List.flatMap_append,List.flatMap_singleton];exact hG6
       ·show(rs++ [x]).map (·.1)=(ps.take (k+1)).map fun y=>toldOf T (bytesOf y)
        rw [List.take_succ_eq_append_getElem hkl,List.map_append,List.map_append,hrs,List.map_singleton,List.map_singleton,←hq,hx]
       ·rcases List.mem_append.1 hy with hy|hy
        ·exact(hdat y hy).sub (rZ hKK)
        ·simp only [List.mem_singleton]at hy
         subst hy;rw [hx,htold];refine hS4.sub fun j o hj=> ?_
         have hAj:A.blk j=none:=by
          cases hAj:A.blk j with
          |none=>rfl
          |some o'=>rw [cG _ (hAs.trans hLA _ _ hAj)]at hj;cases hj
         show(match A.blk j with
          |none=>K'.blk j
          |some _=>none)=some o
         rw [hAj];exact hNK _ _ hj
      conv=>lhs;whnf
      exact(hD _).2 ⟨(⟨k+1,A6,K',v,rs++ [x]⟩:A2G),⟨hg6,⟨av (k:=k) (by omega),rfl,trivial⟩,trivial,rfl⟩,by show ps.length-(k+1)<ps.length-k;omega,⟨rfl,rfl,rfl,rfl,rfl,trivial⟩,trivial⟩
  ·have e:k=ps.length:=by
     have hlt:¬(k:Int)<(ps.length:Int):=hlt;omega
   subst e;rw [List.take_length]at hrs;have hrs:rs.map (·.1)=ez T:=by rw [hrs,hps];rfl
   have hl:(ez T).length=ps.length:=by rw [ez,List.length_map,hps]
   have hend:allS.post ⟨T,B,O,t⟩ [.pointer (some ⟨t,0,none⟩)] A v0 Ak:=by
    refine⟨hAs.trans (hLK.trans hKA),rs,hrs,?_,fun x hx=>(hdat x hx).sub (rZ hKA)⟩;rw [hl];exact grow_sl hGr (hAs.trans hLK)
   exact(hD _).2 hend
def tz(A:aa)(v:Value)(l:List (aC×Value)):Prop:=Sl A 12 l.length v (l.flatMap aP)∧∀x∈l,SlB A x.2 x.1.data
theorem jT(T:aT):(aU T).length=T.aK.length:=by rw [aU,List.length_map,eN,List.length_map]
theorem pW(T:aT):(ez T).length=T.nodes.length:=by rw [ez,List.length_map,cq,dK,List.length_map]
theorem ux{A B:aa}{v:Value}{ns:List aC}(h:wX A v ns)(hs:A.Sub B):∃l:List (aC×Value),l.map (·.1)=ns∧tz B v l:=by
 obtain⟨l,h1,h2,h3⟩:=h;have hl:l.length=ns.length:=by rw [←h1,List.length_map]
 exact⟨l,h1,by rw [hl];exact h2.sub hs,fun x hx=>(h3 x hx).sub hs⟩
def Ck(T U:aT):Prop:=ez T=ez U∧aU T=aU U
def Cl(T:aT):Prop:=kC T∧T.nodes.length≤1000000∧T.aK.length≤1000000
end
end Go.Proofs.YtphigpccfbfnoaaGreatDoor
namespace Go.Sx
noncomputable section
theorem eT{α:Type}{enc:α→List Value}{es:Nat}(he:∀x,(enc x).length=es):∀l:List α,(l.flatMap enc).length=l.length*es
 | []=>by simp
 |x::l=>by rw [List.flatMap_cons,List.length_append,he,eT he l,List.length_cons,Nat.succ_mul];omega
theorem sO{α:Type}{enc:α→List Value}{es:Nat}(he:∀x,(enc x).length=es):∀(q:Nat) (l:List α),(l.flatMap enc).take (q*es)=(l.take q).flatMap enc
 |0,_=>by simp
 |q+1, []=>by simp
 |q+1,x::l=>by
  have e1:(q+1)*es-(enc x).length=q*es:=by rw [he,Nat.succ_mul];omega
  have e2:(enc x).take ((q+1)*es)=enc x:=List.take_of_length_le (by rw [he,Nat.succ_mul];omega);rw [List.flatMap_cons,List.take_append,e1,e2,sO he q l,List.take_succ_cons,List.flatMap_cons]
theorem sP{α:Type}{enc:α→List Value}{es:Nat}(he:∀x,(enc x).length=es):∀(q:Nat) (l:List α),(l.flatMap enc).drop (q*es)=(l.drop q).flatMap enc
 |0,_=>by simp
 |q+1, []=>by simp
 |q+1,x::l=>by
  have e1:(q+1)*es-(enc x).length=q*es:=by rw [he,Nat.succ_mul];omega
  have e2:(enc x).drop ((q+1)*es)= []:=List.drop_eq_nil_of_le (by rw [he,Nat.succ_mul];omega);rw [List.flatMap_cons,List.drop_append,e1,e2,sP he q l,List.drop_succ_cons,List.nil_append]
theorem ju{A:aa}{g o n q es:Nat}{α:Type}{enc:α→List Value}(he:∀x,(enc x).length=es){l:List α}(h:A.rd g 0 (n*es)=some (l.flatMap enc))(hq:q≤n)(ho:o=0):(if q=0 then some []else A.rd g o (q*es))=some ((l.take q).flatMap enc):=by
 subst ho
 by_cases h0:q=0
 ·rw [if_pos h0,h0,List.take_zero];rfl
 ·rw [if_neg h0]
  have:=cU h (i:=0) (m:=q*es) (by rw [Nat.zero_add];exact Nat.mul_le_mul_right _ hq);rw [Nat.add_zero,List.drop_zero,sO he]at this;exact this
theorem oL{A:aa}{g o n q es:Nat}{α:Type}{enc:α→List Value}(he:∀x,(enc x).length=es){l:List α}(h:A.rd g 0 (n*es)=some (l.flatMap enc))(hn:n=l.length)(ho:q<n→o=q*es):(if n-q=0 then some []else A.rd g o ((n-q)*es))=some ((l.drop q).flatMap enc):=by
 by_cases h0:n-q=0
 ·rw [if_pos h0,List.drop_eq_nil_of_le (by omega)];rfl
 ·rw [if_neg h0,ho (by omega)]
  have hle:q*es+(n-q)*es≤n*es:=by rw [←Nat.add_mul];exact Nat.mul_le_mul_right _ (by omega)
  have:=cU h (i:=q*es) (m:=(n-q)*es) hle;rw [Nat.zero_add,sP he]at this;rw [this,List.take_of_length_le];rw [eT he,List.length_drop];exact Nat.mul_le_mul_right _ (by omega)
end
end Go.Sx
namespace Go.Proofs.YtphigpccfbfnoaaGreatDoor
open Go.Sx Go.RowKit
noncomputable section
open Classical
def fA(A:aa)(g es:Nat)(e:TypeId)(n:Nat)(v:Value)(cs:List Value):Prop:=
 cs.length=n*es∧∃ao c,v= .slice ao n c∧n≤c∧(ao=none→c=0)∧(∀a,ao=some a→a.spot=none)∧
  (0<n→ao=some ⟨g,0,none⟩∧∃cc,A.blk g=some (.cells cc e (0,0))∧n*es≤cc.size∧cc.toList.take (n*es)=cs)
theorem fA.form{A:aa}{g es:Nat}{e:TypeId}{n:Nat}{v:Value}{cs:List Value}(h:fA A g es e n v cs):∃ao c,v= .slice ao n c∧n≤c∧(0<n→ao=some ⟨g,0,none⟩):=by
 obtain⟨h1,ao,c,h2,h3,h4,h5,h6⟩:=h;exact⟨ao,c,h2,h3,fun hn=>(h6 hn).1⟩
theorem fA.bk{A A':aa}{g es:Nat}{e:TypeId}{n:Nat}{v:Value}{cs:List Value}(h:fA A g es e n v cs)(hk:0<n→A'.blk g=A.blk g):fA A' g es e n v cs:=by
 obtain⟨h1,ao,c,h2,h3,h4,h5,h6⟩:=h;refine⟨h1,ao,c,h2,h3,h4,h5,fun hn=> ?_⟩;obtain⟨h7,cc,h8,h9,h10⟩:=h6 hn;exact⟨h7,cc,by rw [hk hn];exact h8,h9,h10⟩
theorem fA.nil(A:aa)(g es:Nat)(e:TypeId):fA A g es e 0 (.slice none 0 0) []:=
 ⟨by simp,none,0,rfl,Nat.le_refl _,fun _=>rfl,fun a h=>(by cases h),fun h=>absurd h (Nat.lt_irrefl _)⟩
theorem fA.grown{K A:aa}{es:Nat}{e:TypeId}{n:Nat}{v:Value}{cs:List Value}(h:bq K A es e n v cs)(g0:Nat):∃g,fA A g es e n v cs∧(0<n→K.blk g=none)∧(n=0→g=g0):=by
 obtain⟨h1,⟨rfl,rfl⟩|⟨g,nc,c,rfl,h4,h4',h5,h6,h7,h8⟩⟩:=h
 ·have hc:cs= []:=List.length_eq_zero_iff.1 (by rw [h1];simp)
  subst hc;exact⟨g0,fA.nil _ _ _ _,fun h=>absurd h (Nat.lt_irrefl _),fun _=>rfl⟩
 ·have hle:n*es≤nc*es:=Nat.mul_le_mul_right _ h4
  by_cases hn:n=0
  ·refine⟨g0,⟨h1,_,nc,rfl,h4,fun h=>(by cases h),fun a ha=>(by injection ha with ha;subst ha;rfl),fun h=>by omega⟩,fun h=>by omega,fun _=>rfl⟩
  ·exact⟨g,⟨h1,_,nc,rfl,h4,fun h=>(by cases h),fun a ha=>(by injection ha with ha;subst ha;rfl),fun _=>⟨rfl,c,h6,by omega,h8⟩⟩,fun _=>h5,fun h=>absurd h hn⟩
structure fB(A B:aa)(O:Nat→Prop)(r:Nat)(l:List (aC×Value))(S:List bb)(vn vs:Value)(gn gs:Nat):Prop where
 top:aG A r [vn,vs]
 nrow:fA A gn 12 63 l.length vn (l.flatMap aP)
 srow:fA A gs 3 83 S.length vs (S.flatMap br)
 data:∀x∈l,SlB B x.2 x.1.data
 sub:B.Sub A
 own:O r∧(0<l.length→O gn)∧(0<S.length→O gs)
 off:∀k,O k→B.blk k=none
 live:∀k,O k→∃o,A.blk k=some o
 ne:(0<l.length→gn≠r)∧(0<S.length→gs≠r)∧(0<l.length→0<S.length→gn≠gs)
def bC(A B:aa)(O:Nat→Prop)(r:Nat)(N:List aC)(S:List bb):Prop:=∃l vn vs gn gs,l.map (·.1)=N∧fB A B O r l S vn vs gn gs
def dF(A B:aa)(O:Nat→Prop)(r:Nat)(N:List aC)(S:List bb)(A':aa):Prop:=∃B' O',bC A' B' O' r N S∧Step A B O A' B' O'
theorem fB.frame{A B A':aa}{O:Nat→Prop}{r:Nat}{l:List (aC×Value)}{S:List bb}{vn vs:Value}{gn gs:Nat}(h:fB A B O r l S vn vs gn gs)(hO:∀k,O k→A'.blk k=A.blk k)(hB:B.Sub A'):fB A' B O r l S vn vs gn gs:=
 ⟨h.top.sub fun o ho=>by rw [hO r h.own.1];exact ho,h.nrow.bk fun hn=>hO gn (h.own.2.1 hn),h.srow.bk fun hn=>hO gs (h.own.2.2 hn),h.data,hB,h.own,h.off,fun k hk=>by rw [hO k hk];exact h.live k hk,h.ne⟩
theorem bC.more{A B A':aa}{O:Nat→Prop}{r:Nat}{N:List aC}{S:List bb}(h:bC A B O r N S)(hs:A.Sub A'):bC A' B O r N S:=by
 obtain⟨l,vn,vs,gn,gs,hl,h⟩:=h
 exact⟨l,vn,vs,gn,gs,hl,h.frame (fun k hk=>by
  obtain⟨o,ho⟩:=h.live k hk
  rw [hs k o ho,ho]) (h.sub.trans hs)⟩
structure Kept(A:aa)(O:Nat→Prop)(A':aa)(O':Nat→Prop):Prop where
 bk:∀k o,A.blk k=some o→¬O k→A'.blk k=some o
 dom:∀k,A'.blk k=none→A.blk k=none
 own:∀k,O' k→O k∨A.blk k=none
theorem fB.Fp{A B A2 A3 B':aa}{O:Nat→Prop}{r:Nat}{l:List (aC×Value)}{S:List bb}{vn vs:Value}{gn gs:Nat}(h:fB A B O r l S vn vs gn gs){l':List (aC×Value)}{v:Value}(hA2:A.Sub A2)(hG:bq A A2 12 63 l'.length v (l'.flatMap aP))
  (hB2:B'.Sub A2) (hoff:∀k,O k→B'.blk k=none) (hrow:∀g,A.blk g=none→fA A2 g 12 63 l'.length v (l'.flatMap aP)→0<l'.length→B'.blk g=none) (hd:∀x∈l',SlB B' x.2 x.1.data) (hP:A2.Put A3 r 0 [v]):∃O',bC A3 B' O' r (l'.map (·.1)) S∧Kept A O A3 O':=by
 obtain⟨g,hR,hg,_⟩:=fA.grown hG 0;obtain⟨orr,hor⟩:=h.live r h.own.1;have hBr:B'.blk r=none:=hoff r h.own.1
 have hgr:0<l'.length→g≠r:=fun hn e=>by
  have:=hg hn;rw [e,hor]at this;cases this
 have hgs:0<l'.length→0<S.length→g≠gs:=fun hn hs e=>by
  obtain⟨o,ho⟩:=h.live gs (h.own.2.2 hs);have:=hg hn;rw [e,ho]at this;cases this
 refine⟨fun k=>O k∨(0<l'.length∧k=g),⟨l',v,vs,g,gs,rfl,?_⟩,fun k o hk hO=> ?_,fun k hk=> ?_,fun k hk=> ?_⟩
 ·refine⟨?_,hR.bk fun hn=>hP.other g (hgr hn),h.srow.bk fun hs=> ?_,hd,fun k o hk=> ?_,⟨.inl h.own.1,fun hn=> .inr ⟨hn,rfl⟩,fun hs=> .inl (h.own.2.2 hs)⟩,fun k hk=> ?_,fun k hk=> ?_,hgr,h.ne.2.1,hgs⟩
  ·have:=(h.top.sub fun o ho=>hA2 _ _ ho).put hP (by show 0+1≤2;omega)
   exact this
  ·obtain⟨o,ho⟩:=h.live gs (h.own.2.2 hs)
   rw [hP.other gs (h.ne.2.1 hs),hA2 _ _ ho,ho]
  ·rw [hP.other k fun e=>by rw [e,hBr]at hk;cases hk]
   exact hB2 k o hk
  ·rcases hk with hk|⟨hn,rfl⟩
   ·exact hoff k hk
   ·exact hrow _ (hg hn) hR hn
  ·by_cases e:k=r
   ·obtain⟨c0,t0,fz0,c1,k1,k2,_⟩:=hP.at_
    rw [e];exact⟨_,k2⟩
   ·rw [hP.other k e]
    rcases hk with hk|⟨hn,rfl⟩
    ·obtain⟨o,ho⟩:=h.live k hk
     exact⟨o,hA2 _ _ ho⟩
    ·obtain⟨_,ao,c,_,_,_,_,h6⟩:=hR
     obtain⟨_,cc,h8,_⟩:=h6 hn;exact⟨_,h8⟩
 ·rw [hP.other k fun e=>hO (e▸h.own.1)]
  exact hA2 k o hk
 ·have h2:=(hP.dom k).1 hk
  cases hb:A.blk k with
  |none=>rfl
  |some o=>rw [hA2 k o hb]at h2;cases h2
 ·rcases hk with hk|⟨hn,rfl⟩
  ·exact .inl hk
  ·exact .inr (hg hn)
theorem fB.nodes{A B A2 A3:aa}{O:Nat→Prop}{r:Nat}{l:List (aC×Value)}{S:List bb}{vn vs:Value}{gn gs:Nat}(h:fB A B O r l S vn vs gn gs){l':List (aC×Value)}{v:Value}(hA2:A.Sub A2)(hG:bq A A2 12 63 l'.length v (l'.flatMap aP))(hd:∀x∈l',SlB B x.2 x.1.data)(hP:A2.Put A3 r 0 [v]):
  ∃O',bC A3 B O' r (l'.map (·.1)) S∧Kept A O A3 O':=
 h.Fp hA2 hG (h.sub.trans hA2) h.off (fun g hg _ _=>by
  cases hb:B.blk g with
  |none=>rfl
  |some o=>have:=h.sub _ _ hb;rw [hg]at this;cases this) hd hP
def cM(N:List aC)(p:ByteArray):Int:=match N.findIdx? fun x=>decide (x.path=p)with
 |some i=>(i:Nat)
 |none=> -1
theorem F5{N:List aC}{p:ByteArray}{k:Nat}(hk:k<N.length)(h0:∀i (h:i<N.length),i<k→N[i].path≠p)(h1:N[k].path=p):cM N p=(k:Nat):=by
 have h:N.findIdx? (fun x=>decide (x.path=p))=some k:=by
  rw [List.findIdx?_eq_some_iff_getElem];refine⟨hk,by simpa using h1,fun i hi=> ?_⟩;simpa using h0 i (by omega) hi
 unfold cM;rw [h]
theorem F4{N:List aC}{p:ByteArray}(h0:∀x∈N,x.path≠p):cM N p= -1:=by
 have h:N.findIdx? (fun x=>decide (x.path=p))=none:=by
  rw [List.findIdx?_eq_none_iff];intro x hx;simpa using h0 x hx
 unfold cM;rw [h]
structure RG where
 N:List aC
 S:List bb
 B:aa
 O:Nat→Prop
 r:Nat
def sX:aL:=⟨RG×ByteArray,fun g vs A=>vs= [.pointer (some ⟨g.1.r,0,none⟩),.string g.2]∧bC A g.1.B g.1.O g.1.r g.1.N g.1.S∧g.1.N.length≤1000000,
 fun g _ A v A'=>A'=A∧v= .int .i64 (cM g.1.N g.2)⟩
theorem qT:FOk Tryz.prog 85 sX:=by
 refine aS mixed fun⟨⟨N,S,B,O,r⟩,p⟩ vs A hp=> ?_
 obtain⟨rfl,⟨l,vn,vs',gn,gs,rfl,h⟩,hN⟩:vs= [.pointer (some ⟨r,0,none⟩),.string p]∧bC A B O r N S∧N.length≤1000000:=hp;rw [List.length_map]at hN;refine⟨noC,da Tryz.prog noC noL 60 [(85,0)],60,aj _,aH mixed (aj _) (ak _) _ _,fun blk os out tape D hD=> ?_⟩;obtain⟨ao,c,rfl,hc,hao⟩:=h.nrow.form;have htop:A.rd r 0 1=some [.slice ao l.length c]:=h.top.rd (o:=0) (n:=1) (by show 0+1≤2;omega);conv=>lhs;whnf
 refine(hD _).2 ⟨cnt A 5 [0,1] [] l.length fun k=>∀i (h:i<l.length),i<k→l[i].1.path≠p,⟨(0:Nat),⟨Nat.zero_le _,fun i _ h=>absurd h (Nat.not_lt_zero i)⟩,⟨rfl,trivial⟩,trivial,rfl⟩,fun(k:Nat) hk=>⟨⟨trivial,trivial⟩,trivial,?_⟩⟩;simp only [cnt]at hk;obtain⟨hkl,hno⟩:=hk;conv=>lhs;whnf
 repeat(refine af htop ?_
        conv=>lhs;whnf)
 refine ab (fun hlt=> ?_) (fun hlt=> ?_)<;>(conv=>lhs;whnf)
 ·have hkl2:k<l.length:=by
    have hlt:(k:Int)<(l.length:Int):=hlt;omega
  have e:=hao (by omega);subst e;obtain⟨_,ao2,c2,e2,_,_,_,h6⟩:=h.nrow;obtain⟨_,cc,h8,h9,h10⟩:=h6 (by omega);have hra:A.rd gn 0 (l.length*12)=some (l.flatMap aP):=by rw [rd_mk h8 (by omega),List.drop_zero,h10]
  have r1:=cU (fQ (enc:=aP) (fun _=>rfl) hra k hkl2 rfl) (i:=0) (m:=1) (by omega);have r1:A.rd gn (0+k*12) 1=some [.string l[k].1.path]:=r1;have i0:(0:Int)≤(k:Int)∧(k:Int)<(l.length:Int):=by omega
  repeat(first|refine aq i0 ?_|refine af htop ?_|refine af r1 ?_
         conv=>lhs;whnf)
  refine aQ (fun he=> ?_) (fun he=> ?_)<;>(conv=>lhs;whnf)
  ·have e:l[k].1.path=p:=jN (bh.1 he)
   have hend:sX.post (⟨l.map (·.1),S,B,O,r⟩,p) [] A (.int .i64 (k:Nat)) A:=by
    refine⟨rfl,?_⟩;show _=Value.int .i64 (cM (l.map (·.1)) p)
    rw [F5 (k:=k) (by rw [List.length_map];exact hkl2) (fun i hi hik=>by rw [List.getElem_map];exact hno i (by rw [List.length_map]at hi;exact hi) hik) (by rw [List.getElem_map];exact e)]
   exact(hD _).2 hend
  ·have e:l[k].1.path≠p:=fun e=>cr.1 he (by rw [e])
   refine(hD _).2 ⟨(k+1:Nat),⟨⟨by omega,fun i hi hik=> ?_⟩,⟨av (by omega),trivial⟩,trivial,rfl⟩,by show l.length-(k+1)<l.length-k;omega,⟨an rfl rfl,an rfl rfl,trivial⟩,trivial⟩
   by_cases e2:i=k
   ·subst e2;exact e
   ·exact hno i hi (by omega)
 ·have e:k=l.length:=by
    have hlt:¬(k:Int)<(l.length:Int):=hlt;omega
  have hend:sX.post (⟨l.map (·.1),S,B,O,r⟩,p) [] A (.int .i64 (-1)) A:=by
   refine⟨rfl,?_⟩;show _=Value.int .i64 (cM (l.map (·.1)) p)
   rw [F4];intro x hx;obtain⟨y,hy,rfl⟩:=List.mem_map.1 hx;obtain⟨i,hi,rfl⟩:=List.getElem_of_mem hy;exact hno i hi (by omega)
  exact(hD _).2 hend
theorem iw:∀l:List UInt8,aZ l≠ []
 | []=>by simp [aZ]
 |b::l=>by
  simp only [aZ]
  cases hb:b==47 with
  |true=>simp
  |false=>
   simp only [cond_false]
   split<;>simp
theorem iC:∀l:List UInt8,(aZ l).length=l.count 47+1
 | []=>rfl
 |b::l=>by
  have ih:=iC l;simp only [aZ]
  cases hb:b==47 with
  |true=>
   have e:b=47:=by simpa using hb
   subst e;simp [ih]
  |false=>
   have e:b≠47:=by simpa using hb
   simp only [cond_false];rw [List.count_cons_of_ne e]
   cases hs:aZ l with
   |nil=>exact absurd hs (iw l)
   |cons x xs=>rw [hs]at ih;simpa using ih
theorem xj{l:List UInt8}(h:2≤(aZ l).length):∃a b,l=a++47::b∧Lib.index l [47]=a.length∧aZ l=a::aZ b:=by
 rcases iY l with⟨_,h2⟩|⟨a,b,h1,h2,h3⟩
 ·rw [fG l h2]at h
  simp at h
 ·exact⟨a,b,h1,h3,by rw [h1,jY a b h2]⟩
theorem p7:∀(a b:List UInt8),(∀x∈b,x≠47)→aZ (a++47::b)=aZ a++ [b]
 | [],b,h=>by simp [aZ,fG b h]
 |x::a,b,h=>by
  have ih:=p7 a b h;simp only [List.cons_append,aZ]
  cases hb:x==47 with
  |true=>simp [ih]
  |false=>
   simp only [cond_false,ih]
   cases hs:aZ a with
   |nil=>exact absurd hs (iw a)
   |cons y ys=>simp
theorem sD(x:List UInt8)(xs:List (List UInt8))(h:xs≠ []):Lib.join (x::xs) [47]=x++47::Lib.join xs [47]:=by
 cases xs with
 |nil=>exact absurd rfl h
 |cons y ys=>
  rw [Lib.join_cons,Lib.join_cons];simp [Lib.joinTail]
theorem sC:∀l:List UInt8,Lib.join (aZ l) [47]=l
 | []=>by simp [aZ,Lib.join_one]
 |b::l=>by
  have ih:=sC l;simp only [aZ]
  cases hb:b==47 with
  |true=>
   have e:b=47:=by simpa using hb
   subst e;rw [cond_true,sD [] _ (iw l),ih];rfl
  |false=>
   simp only [cond_false]
   cases hs:aZ l with
   |nil=>exact absurd hs (iw l)
   |cons x xs=>
    rw [hs]at ih;simp only
    by_cases hx:xs= []
    ·subst hx
     rw [Lib.join_one]at ih ⊢;rw [ih]
    ·rw [sD _ _ hx]at ih ⊢
     rw [List.cons_append,ih]
theorem sj:∀l:List UInt8,(∀x∈l,x≠47)∨∃a b,l=a++47::b∧∀x∈b,x≠47
 | []=> .inl (by simp)
 |x::l=>by
  rcases sj l with h|⟨a,b,h1,h2⟩
  ·by_cases hx:x=47
   ·exact .inr ⟨[],l,by rw [hx];rfl,h⟩
   ·refine .inl fun y hy=> ?_
    rcases List.mem_cons.1 hy with rfl|hy
    ·exact hx
    ·exact h y hy
  ·exact .inr ⟨x::a,b,by rw [h1];rfl,h2⟩
theorem sn(a b:List UInt8)(hb:∀x∈b,x≠47):∀n,n≤b.length→fm (a++47::b) 47 (a.length+1+n)=a.length
 |0,_=>by
  rw [Nat.add_zero,fm,if_pos];simp
 |n+1,h=>by
  rw [show a.length+1+(n+1)=(a.length+1+n)+1 by omega,fm,if_neg]
  ·exact sn a b hb n (by omega)
  ·rw [List.getElem?_append_right (by omega),show a.length+1+n-a.length=n+1 by omega,List.getElem?_cons_succ,List.getElem?_eq_getElem (by omega)]
   intro e;injection e with e
   exact hb _ (List.getElem_mem _) e
theorem qm(a b:List UInt8)(hb:∀x∈b,x≠47):dc (a++47::b) 47=a.length:=by
 unfold dc;have:=sn a b hb b.length (Nat.le_refl _);rw [List.length_append,List.length_cons,show a.length+(b.length+1)=a.length+1+b.length by omega];exact this
theorem vL{q:List UInt8}(hk:bO (47::q)=true)(hq:q≠ []):(jk (47::q)).1=47::Lib.join ((aZ q).dropLast) [47]∧some (jk (47::q)).2=(aZ q).getLast? :=by
 have hc:bO (47::q)=true∧(47::q:List UInt8)≠ [47]:=⟨hk,fun e=>hq (by injection e)⟩;rw [jk,if_pos hc];rcases sj q with h|⟨a,b,h1,h2⟩
 ·have hi:dc (47::q) 47=((([]:List UInt8).length:Nat):Int):=qm [] q h
  have e0:(max ((([]:List UInt8).length:Nat):Int) 1).toNat=1:=rfl;have e1:(((([]:List UInt8).length:Nat):Int)+1).toNat=1:=rfl;rw [hi,fG q h,e0,e1];simp [Lib.join_nil]
 ·have hi:dc (47::q) 47=(((47::a).length:Nat):Int):=by rw [h1];exact qm (47::a) b h2
  rw [hi,h1,p7 a b h2,List.dropLast_concat,sC]
  have e:(max (((47::a:List UInt8).length:Nat):Int) 1).toNat=a.length+1:=by
   rw [List.length_cons];omega
  have e2:((((47::a:List UInt8).length:Nat):Int)+1).toNat=a.length+2:=by
   rw [List.length_cons];omega
  rw [e,e2];refine⟨?_,?_⟩
  ·simp
  ·simp
theorem qX(k:Nat)(h:k<1000000):IntKind.i64.wrap ((k:Int)+1)=((k+1:Nat):Int):=by
 rw [Sx.wrap_i64 (by omega) (by omega)];rfl
def Cc:CT:=fun args h K=>match args with
 | [.v (.string s),.v (.int .u8 c)]=>K (.v (.int .i64 (Lib.countByte s.data.toList c.toNat.toUInt8:Nat))) h
 | [.str l,.v (.int .u8 c)]=>K (.v (.int .i64 (Lib.countByte l c.toNat.toUInt8:Nat))) h
 |_=>false
theorem D3:(⟨220,Cc⟩:Ei).Ok Tryz.prog:=fun args h0 K hk ρ w H hargs=>by
 have key:∀(s:ByteArray) (c:Int),(callFunc 220 #[.string s,.int .u8 c]).run Tryz.prog w= .ok (.value (.int .i64 (Lib.countByte s.data.toList c.toNat.toUInt8:Nat))) w:=fun s c=>by
  rw [run_callFunc_extern Tryz.func220 (by kernel_rfl) (by kernel_rfl) (by kernel_rfl) (e:=Extern.BytealgCount.count) (by kernel_rfl),Lib.run_countString];rfl
 change Cc args h0 K=true at hk;unfold Cc at hk
 split at hk
 ·rename_i s c
  exact gK (key s c) H hk rfl trivial
 ·rename_i l c
  exact gK (key ⟨l.toArray⟩ c) H hk rfl trivial
 ·exact absurd hk Bool.false_ne_true
def FV:aL:=⟨ByteArray,fun s vs _=>vs= [.string s,.string ⟨#[47]⟩],fun s _ A v A'=>A'=A∧v= .int .i64 (Lib.index s.data.toList [47])⟩
theorem FU:FOk Tryz.prog 196 FV:=by
 intro s vs A w hA hp;obtain rfl:vs= [.string s,.string ⟨#[47]⟩]:=hp;refine fx Tryz.func196 ⟨by kernel_rfl,by kernel_rfl⟩ ?_;refine(idx2 s w).mono fun e w' ⟨he,hw⟩=> ?_
 subst hw;exact⟨_,he,A,⟨rfl,rfl⟩,rfl,rfl,rfl,fun _ _ _=>rfl,hA,fun k o ho=> .inl ⟨o,ho⟩⟩
theorem lI{x:Int}{c k:Nat}(hx:x=k)(hk:k≤c):((decide ((0:Int)≤0)&&decide ((0:Int)≤x))&&(false||decide (x≤(c:Int))))=true:=by
 subst hx;exact Bool.and_eq_true_iff.2 ⟨Bool.and_eq_true_iff.2 ⟨decide_eq_true (by omega),decide_eq_true (by omega)⟩,Bool.or_eq_true_iff.2 (.inr (decide_eq_true (by omega)))⟩
theorem iL{x:Int}{c k:Nat}{t:Bool}(hx:x=k)(hk:k≤c):((decide ((0:Int)≤x)&&decide (x≤(c:Int)))&&(true||t))=true:=by
 subst hx;exact Bool.and_eq_true_iff.2 ⟨Bool.and_eq_true_iff.2 ⟨decide_eq_true (by omega),decide_eq_true (by omega)⟩,rfl⟩
structure SpG where
 i:Nat
 A:aa
 rest:List UInt8
 parts:List (List UInt8)
structure SpI(A1:aa)(g N:Nat)(l:List UInt8)(s:SpG):Prop where
 num:s.parts.length=s.i
 le:s.i≤N-1
 split:aZ l=s.parts++aZ s.rest
 row:∃c,s.A.blk g=some (.cells c 9 (0,0))∧c.size=N∧c.toList.take s.i=s.parts.map cj
 oth:∀k,k≠g→s.A.blk k=A1.blk k
 len:s.rest.length≤l.length
def spInv(A1:aa)(g N:Nat)(l:List UInt8):dE:= { γ:=SpG,G:=SpI A1 g N l,keepS:= [1,2],keepB:= [],sl:=fun s=> [(0,.str s.rest),(3,.v (.int .i64 (N-1:Nat))),(9,.v (.slice (some ⟨g,0,none⟩) N N)),(10,.v (.int .i64 s.i))],bl:=fun _=> [],ar:=fun s=>s.A,mu:=fun s=>N-s.i }
def genS:aL:=⟨List UInt8,fun l vs _=>vs= [cj l,cj [47],.int .i64 0,.int .i64 (-1)]∧l.length≤1000,
 fun l _ A v A'=>A.Sub A'∧Sl (A'.minus A) 1 (aZ l).length v ((aZ l).map cj)⟩
theorem gen_ok:FOk Tryz.prog 201 genS:=by
 refine sL mixed fun(l:List UInt8) vs A hp=> ?_
 obtain⟨rfl,hl⟩:vs= [cj l,cj [47],.int .i64 0,.int .i64 (-1)]∧l.length≤1000:=hp
 have hC:aF Tryz.prog (bu [aE 196 FV,⟨220,Cc⟩] noC):=az (aj _) (fun x hx=>by
  simp only [List.mem_cons,List.not_mem_nil,or_false]at hx;rcases hx with rfl|rfl
  ·exact ai FU
  ·exact D3)
 refine⟨_,da Tryz.prog _ noL 60 [(201,0)],60, [.str l,.str [47],.v (.int .i64 0),.v (.int .i64 (-1))],hC,aH mixed hC (ak _) _ _,rfl,fun ρ x hx=> ?_,fun blk os out tape D hD=> ?_⟩
 ·simp only [List.mem_cons,List.not_mem_nil,or_false]at hx
  rcases hx with rfl|rfl|rfl|rfl<;>trivial
 conv=>lhs;whnf
 have hcnt:=iC l;have hcl:l.count 47≤l.length:=List.count_le_length
 have w1:IntKind.i64.wrap (((Lib.countByte l (((([47]:List UInt8).getD (Int.toNat 0) 0).toNat:Int)).toNat.toUInt8:Nat):Int)+1)=(((aZ l).length:Nat):Int):=by
  rw [hcnt];exact qX (l.count 47) (by omega)
 have w2:IntKind.i64.wrap ((l.length:Int)+1)=((l.length+1:Nat):Int):=qX l.length (by omega)
 have hM:(bif false then bif decide (IntKind.i64.wrap (((Lib.countByte l (((([47]:List UInt8).getD (Int.toNat 0) 0).toNat:Int)).toNat.toUInt8:Nat):Int)+1)<IntKind.i64.wrap ((l.length:Int)+1))then IntKind.i64.wrap ((l.length:Int)+1)else IntKind.i64.wrap (((Lib.countByte l (((([47]:List UInt8).getD (Int.toNat 0) 0).toNat:Int)).toNat.toUInt8:Nat):Int)+1)
   else bif decide (IntKind.i64.wrap ((l.length:Int)+1)<IntKind.i64.wrap (((Lib.countByte l (((([47]:List UInt8).getD (Int.toNat 0) 0).toNat:Int)).toNat.toUInt8:Nat):Int)+1))then IntKind.i64.wrap ((l.length:Int)+1)else IntKind.i64.wrap (((Lib.countByte l (((([47]:List UInt8).getD (Int.toNat 0) 0).toNat:Int)).toNat.toUInt8:Nat):Int)+1))=(((aZ l).length:Nat):Int):=by
  rw [w1,w2,decide_eq_false (show ¬((l.length+1:Nat):Int)<(((aZ l).length:Nat):Int)by omega)];rfl
 have hMn:=congrArg Int.toNat hM;rw [Int.toNat_natCast]at hMn;refine(hD _).2 ⟨Int.le_trans (Int.natCast_nonneg _) (Int.le_of_eq hM.symm),Int.le_refl _,Int.le_trans (Int.le_of_eq hM) (by omega),?_,rfl,fun g A1 c hc hN=> ?_⟩
 ·refine Nat.le_trans (Nat.mul_le_mul_left 16 (Nat.le_of_eq hMn)) ?_
  omega
 have hN:A.New A1 g c 9:=hN;conv=>lhs;whnf
 obtain⟨N,hN0⟩:∃N,N=(aZ l).length:=⟨_,rfl⟩;rw [←hN0]at hM hMn hcnt;have hc:c.toList=(List.replicate N [Value.string ⟨#[]⟩]).flatten:=hc.trans (congrArg (fun z=>(List.replicate z [Value.string ⟨#[]⟩]).flatten) hMn)
 have hcs:c.size=N:=by
  have h:=congrArg List.length hc;simpa using h
 have hn1:IntKind.i64.wrap ((N:Int)-1)=((N-1:Nat):Int):=by
  rw [Sx.wrap_i64 (by omega) (by omega)];omega
 have hI0:SpI A1 g N l ⟨0,A1,l, []⟩:=⟨rfl,by show 0≤N-1;omega,rfl,⟨c,hN.at_,hcs,rfl⟩,fun _ _=>rfl,Nat.le_refl _⟩;refine(hD _).2 ⟨spInv A1 g N l,⟨(⟨0,A1,l, []⟩:SpG),hI0,⟨rfl,congrArg (fun z:Int=>some (SV.v (.int .i64 z))) ((congrArg (fun z:Int=>IntKind.i64.wrap (z-1)) hM).trans hn1),congrArg (fun z:Nat=>some (SV.v (.slice (some ⟨g,0,none⟩) z z))) hMn,rfl,trivial⟩,trivial,rfl⟩,fun(s:SpG) hG=>⟨⟨trivial,trivial,trivial,trivial,trivial⟩,trivial,?_⟩⟩;obtain⟨i,Ai,rest,parts⟩:=s;obtain⟨hpl,hi,hsp,⟨ci,hci,hcis,hcit⟩,hoth,hrl⟩:SpI A1 g N l ⟨i,Ai,rest,parts⟩:=hG;dsimp only at hpl hi hsp hci hcis hcit hoth hrl;have hroom:∀n,i+n≤N→Ai.Room g (0+i*1) n:=fun n hn=>⟨ci,_,_,hci,by omega,.inl rfl⟩
 conv=>lhs;whnf
 refine ab (fun hlt=> ?_) (fun hlt=> ?_)<;>(conv=>lhs;whnf)
 ·have hi1:i<N-1:=by
    have hlt:(i:Int)<((N-1:Nat):Int):=hlt;omega
  have h2:2≤(aZ rest).length:=by
   have:=congrArg List.length hsp;rw [List.length_append]at this;omega
  obtain⟨a,b,hab,hix,hsr⟩:=xj h2;have hal:rest.length=a.length+1+b.length:=by rw [hab];simp;omega
  refine(hD _).2 ⟨(⟨rest.toArray⟩:ByteArray),rfl,fun v A9 hq=> ?_⟩;have hq:A9=Ai∧v= .int .i64 (Lib.index rest [47]):=hq;have h9:=hq.1.symm;have hv:=hq.2;rw [hix]at hv;subst h9;subst hv;conv=>lhs;whnf
  have hx1:IntKind.i64.wrap ((a.length:Int)+0)=((a.length:Nat):Int):=by
   rw [Int.add_zero,Sx.wrap_i64 (by omega) (by omega)]
  have hx2:IntKind.i64.wrap ((a.length:Int)+1)=((a.length+1:Nat):Int):=qX a.length (by omega);refine cK (lI hx1 (show a.length≤rest.length by omega)) ?_;conv=>lhs;whnf
  have i0:(0:Int)≤(i:Int)∧(i:Int)<(N:Int):=by omega
  refine aq i0 ?_;conv=>lhs;whnf
  refine(hD _).2 ⟨hroom 1 (by omega),fun A7 hP=> ?_⟩;have hP:Ai.Put A7 g (0+i*1) [.string ⟨((rest.drop 0).take ((IntKind.i64.wrap ((a.length:Int)+0)).toNat-0)).toArray⟩]:=hP
  have hta:(rest.drop 0).take ((IntKind.i64.wrap ((a.length:Int)+0)).toNat-0)=a:=by
   rw [hx1,Int.toNat_natCast,Nat.sub_zero,List.drop_zero,hab,List.take_left'];rfl
  rw [hta]at hP;conv=>lhs;whnf
  refine cK (iL hx2 (show a.length+1≤rest.length by omega)) ?_;conv=>lhs;whnf
  have hrest:(rest.drop (IntKind.i64.wrap ((a.length:Int)+1)).toNat).take (rest.length-(IntKind.i64.wrap ((a.length:Int)+1)).toNat)=b:=by
   rw [hx2,Int.toNat_natCast,hab];simp;exact List.take_of_length_le (by omega)
  have hI:SpI A1 g N l ⟨i+1,A7,b,parts++ [a]⟩:=by
   obtain⟨c0,t0,fz0,c7,k1,k2,k3⟩:=hP.at_;rw [hci]at k1;injection k1 with k1
   injection k1 with k1 k1' k1''
   subst k1;subst k1';subst k1''
   refine⟨by show(parts++ [a]).length=i+1;rw [List.length_append,hpl];rfl,by show i+1≤N-1;omega,by show aZ l=(parts++ [a])++aZ b;rw [hsp,hsr];simp,⟨c7,k2,?_,?_⟩,fun k hk=>(hP.other k hk).trans (hoth k hk),by show b.length≤l.length;omega⟩
   ·rw [←Array.length_toList,k3]
    simp only [List.length_append,List.length_take,List.length_drop,Array.length_toList,List.length_singleton];omega
   ·show c7.toList.take (i+1)=(parts++ [a]).map cj
    have e:0+i*1=i:=by omega
    rw [k3,e,List.map_append,←hcit,List.take_append_of_le_length (by simp;omega)];rw [List.take_of_length_le (by simp;omega)];rfl
  exact(hD _).2 ⟨(⟨i+1,A7,b,parts++ [a]⟩:SpG),⟨hI,⟨congrArg (fun z=>some (SV.str z)) hrest,rfl,rfl,av (k:=i) (by omega),trivial⟩,trivial,rfl⟩,by show N-(i+1)<N-i;omega,⟨an rfl rfl,an rfl rfl,trivial⟩,trivial⟩
 ·have hi1:i=N-1:=by
    have hlt:¬(i:Int)<((N-1:Nat):Int):=hlt;omega
  have hone:aZ rest= [rest]:=by
   have h1:(aZ rest).length=1:=by
    have:=congrArg List.length hsp;rw [List.length_append]at this;omega
   rcases iY rest with⟨_,h2⟩|⟨a,b,h1',h2,h3⟩
   ·exact fG rest h2
   ·rw [h1',jY a b h2,List.length_cons]at h1
    have:=iC b;omega
  have i0:(0:Int)≤(i:Int)∧(i:Int)<(N:Int):=by omega
  refine aq i0 ?_;conv=>lhs;whnf
  refine(hD _).2 ⟨hroom 1 (by omega),fun A7 hP=> ?_⟩;have hP:Ai.Put A7 g (0+i*1) [.string ⟨rest.toArray⟩]:=hP;conv=>lhs;whnf
  have hx3:IntKind.i64.wrap ((i:Int)+1)=((N:Nat):Int):=by
   rw [qX i (by omega)];omega
  have hend:genS.post l [cj l,cj [47],.int .i64 0,.int .i64 (-1)] A (.slice (some ⟨g,0+bif Nat.beq N 0 then 0 else 0*1,none⟩) ((IntKind.i64.wrap ((i:Int)+1)).toNat-0) (N-0)) A7:=by
   have e0:(0+bif Nat.beq N 0 then 0 else 0*1)=0:=by cases Nat.beq N 0<;>rfl
   rw [hx3,Int.toNat_natCast,Nat.sub_zero,e0];have hg:=hN.none_;refine⟨fun k o hk=> ?_,?_⟩
   ·have hkg:k≠g:=fun e=>by rw [e,hg]at hk;cases hk
    rw [hP.other k hkg,hoth k hkg];exact hN.sub k o hk
   ·obtain⟨c0,t0,fz0,c7,k1,k2,k3⟩:=hP.at_
    rw [hci]at k1;injection k1 with k1
    injection k1 with k1 k1' k1''
    subst k1;subst k1';subst k1''
    have e:0+i*1=i:=by omega
    have hl7:c7.toList=(aZ l).map cj:=by
     rw [k3,e,hcit,hsp,hone,List.map_append,List.drop_eq_nil_of_le (by simp;omega),List.append_nil];rfl
    have hs7:c7.size=N:=by rw [←Array.length_toList,hl7,List.length_map,hN0]
    show Sl (A7.minus A) 1 (aZ l).length _ _
    rw [←hN0];refine Sl.row (Nat.le_refl _) (jA ?_ hg);rw [rd_mk k2 (by omega),List.drop_zero,Nat.mul_one,←hl7,List.take_of_length_le (by rw [Array.length_toList];omega)]
  refine cK (lI hx3 (Nat.le_refl _)) ?_;conv=>lhs;whnf
  exact(hD _).2 hend
def zp:aL:=⟨List UInt8,fun l vs _=>vs= [cj l,cj [47]]∧l.length≤1000,
 fun l _ A v A'=>A.Sub A'∧Sl (A'.minus A) 1 (aZ l).length v ((aZ l).map cj)⟩
theorem Ex:FOk Tryz.prog 187 zp:=by
 refine aS mixed fun(l:List UInt8) vs A hp=> ?_
 obtain⟨rfl,hl⟩:vs= [.string ⟨l.toArray⟩,.string ⟨#[47]⟩]∧l.length≤1000:=hp
 have hC:aF Tryz.prog (bu [aE 201 genS] noC):=az (aj _) (fun x hx=>by
  simp only [List.mem_singleton]at hx
  subst hx;exact ai gen_ok)
 refine⟨_,noL,60,hC,ak _,fun blk os out tape D hD=> ?_⟩;conv=>lhs;whnf
 refine(hD _).2 ⟨l,⟨rfl,hl⟩,fun v A' hq=> ?_⟩;have hq:zp.post l [.string ⟨l.toArray⟩,.string ⟨#[47]⟩] A v A':=hq;conv=>lhs;whnf
 exact(hD _).2 hq
end
end Go.Proofs.YtphigpccfbfnoaaGreatDoor
