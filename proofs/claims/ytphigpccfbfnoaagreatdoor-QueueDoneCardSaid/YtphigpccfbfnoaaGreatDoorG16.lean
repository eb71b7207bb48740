/-
  Parts of the proof: LnA FlA KvA FlB
-/
import Derived.Test.YtphigpccfbfnoaaGreatDoorG15
set_option maxRecDepth 100000
set_option maxHeartbeats 0
namespace Go.Proofs.YtphigpccfbfnoaaGreatDoor
open Go.Sx Go.RowKit
noncomputable section
open Classical
structure bV(A:aa)(g es:Nat)(e:TypeId)(n c:Nat)(cs:List Value):Prop where
 at_:∃cc,A.blk g=some (.cells cc e (0,0))∧cc.size=c*es∧cc.toList.take (n*es)=cs
 le:n≤c
 len:cs.length=n*es
theorem bV.sub{A A':aa}{g es:Nat}{e:TypeId}{n c:Nat}{cs:List Value}(h:bV A g es e n c cs)(hs:A.Sub A'):bV A' g es e n c cs:=by
 obtain⟨⟨cc,h1,h2,h3⟩,h4,h5⟩:=h;exact⟨⟨cc,hs _ _ h1,h2,h3⟩,h4,h5⟩
theorem bV.bk{A A':aa}{g es:Nat}{e:TypeId}{n c:Nat}{cs:List Value}(h:bV A g es e n c cs)(hs:A'.blk g=A.blk g):bV A' g es e n c cs:=by
 obtain⟨⟨cc,h1,h2,h3⟩,h4,h5⟩:=h;exact⟨⟨cc,by rw [hs];exact h1,h2,h3⟩,h4,h5⟩
theorem bV.rd{A:aa}{g es:Nat}{e:TypeId}{n c:Nat}{cs:List Value}(h:bV A g es e n c cs):A.rd g 0 (n*es)=some cs:=by
 obtain⟨⟨cc,h1,h2,h3⟩,h4,h5⟩:=h;have:=Nat.mul_le_mul_right es h4;rw [rd_mk h1 (by omega),List.drop_zero,h3]
theorem bV.base{A:aa}{g es:Nat}{e:TypeId}{n c:Nat}{cs:List Value}(h:bV A g es e n c cs):kA A (some (g,0)) (n*es)=some cs:=by
 show(if n*es=0 then some []else A.rd g 0 (n*es))=some cs
 by_cases h0:n*es=0
 ·rw [if_pos h0]
  have:=h.len;rw [h0]at this;rw [List.length_eq_zero_iff.1 this]
 ·rw [if_neg h0,h.rd]
theorem bV.room{A:aa}{g es:Nat}{e:TypeId}{n c:Nat}{cs:List Value}(h:bV A g es e n c cs){o k:Nat}(hk:o+k≤c*es):A.Room g o k:=by
 obtain⟨⟨cc,h1,h2,h3⟩,h4,h5⟩:=h;exact⟨cc,e,(0,0),h1,by omega,.inl rfl⟩
theorem bV.add{A A2:aa}{g es:Nat}{e:TypeId}{n c m:Nat}{cs ys:List Value}{v:Value}(h:bV A g es e n c cs)(hm:n+m≤c)(hy:ys.length=m*es)(ha:dC A (some (g,0)) n c es e cs ys m v A2):
  v= .slice (some ⟨g,0,none⟩) (n+m) c∧bV A2 g es e (n+m) c (cs++ys)∧∀k,k≠g→A2.blk k=A.blk k:=by
 obtain⟨⟨cc,h1,h2,h3⟩,h4,h5⟩:=h;rcases ha with⟨_,rfl,h6⟩|⟨h6,_⟩
 ·refine⟨rfl,?_⟩
  have hlen:(cs++ys).length=(n+m)*es:=by rw [List.length_append,h5,hy,Nat.add_mul]
  rcases h6 with⟨rfl,rfl⟩|⟨g',o',e1,hP⟩
  ·refine⟨⟨⟨cc,h1,h2,?_⟩,hm,hlen⟩,fun _ _=>rfl⟩
   have:m*es=0:=by rw [←hy];rfl
   rw [Nat.add_mul,this,Nat.add_zero,h3,List.append_nil]
  ·injection e1 with e1
   injection e1 with e1 e2
   subst e1;subst e2
   obtain⟨c0,t0,fz0,c',k1,k2,k3⟩:=hP.at_;rw [h1]at k1;injection k1 with k1
   injection k1 with k1 k1' k1''
   subst k1;subst k1';subst k1''
   have hle:=Nat.mul_le_mul_right es hm;rw [Nat.add_mul]at hle;refine⟨⟨⟨c',k2,?_,?_⟩,hm,hlen⟩,hP.other⟩
   ·rw [←Array.length_toList,k3]
    simp only [List.length_append,List.length_take,List.length_drop,Array.length_toList,h2,hy];omega
   ·rw [k3,Nat.zero_add,h3,List.take_append_of_le_length (by omega),List.take_of_length_le (by omega)]
 ·omega
theorem bV.over{A A2:aa}{g es:Nat}{e:TypeId}{c:Nat}{cs ys:List Value}{n o:Nat}(h:bV A g es e n c cs)(hP:A.Put A2 g o ys)(hle:o+ys.length≤c*es):(∃cc,A2.blk g=some (.cells cc e (0,0))∧cc.size=c*es)∧∀k,k≠g→A2.blk k=A.blk k:=by
 obtain⟨⟨cc,h1,h2,h3⟩,h4,h5⟩:=h;obtain⟨c0,t0,fz0,c',k1,k2,k3⟩:=hP.at_;rw [h1]at k1;injection k1 with k1
 injection k1 with k1 k1' k1''
 subst k1;subst k1';subst k1''
 refine⟨⟨c',k2,?_⟩,hP.other⟩;rw [←Array.length_toList,k3];simp only [List.length_append,List.length_take,List.length_drop,Array.length_toList,h2];omega
structure LsD where
 v:Value
 n:Nat
 c:Nat
 g:Option Nat
def LsR(A:aa)(es:Nat)(e:TypeId)(L:LsD)(cs:List Value):Prop:=
 (L.g=none∧L.n=0∧L.c=0∧cs= []∧∃base,L.v= .slice (aD base) 0 0)∨
 ∃g,L.g=some g∧L.v= .slice (some ⟨g,0,none⟩) L.n L.c∧0<L.c∧bV A g es e L.n L.c cs
theorem LsR.len{A:aa}{es:Nat}{e:TypeId}{L:LsD}{cs:List Value}(h:LsR A es e L cs):cs.length=L.n*es:=by
 rcases h with⟨_,h2,_,rfl,_⟩|⟨g,_,_,_,h⟩
 ·rw [h2];simp
 ·exact h.len
theorem LsR.bk{A A':aa}{es:Nat}{e:TypeId}{L:LsD}{cs:List Value}(h:LsR A es e L cs)(hk:∀g o,L.g=some g→A.blk g=some o→A'.blk g=some o):LsR A' es e L cs:=by
 rcases h with h|⟨g,h1,h2,h3,h4⟩
 ·exact .inl h
 ·refine .inr ⟨g,h1,h2,h3,h4.bk ?_⟩
  obtain⟨cc,h5,_⟩:=h4.at_;rw [h5,hk g _ h1 h5]
theorem LsR.live{A:aa}{es:Nat}{e:TypeId}{L:LsD}{cs:List Value}(h:LsR A es e L cs){g:Nat}(hg:L.g=some g):∃o,A.blk g=some o:=by
 rcases h with⟨h1,_⟩|⟨g',h1,_,_,h4⟩
 ·rw [h1]at hg;cases hg
 ·rw [h1]at hg
  injection hg with hg
  subst hg;obtain⟨cc,h5,_⟩:=h4.at_;exact⟨_,h5⟩
def mks(m:Nat→List Value)(q:Nat):List Value:=(List.range q).flatMap m
theorem Ft(m:Nat→List Value):mks m 0= []:=rfl
theorem nV(m:Nat→List Value)(q:Nat):mks m (q+1)=mks m q++m q:=by
 unfold mks;rw [List.range_succ,List.flatMap_append];simp
theorem l6{m:Nat→List Value}{es:Nat}(hm:∀i,(m i).length=es):∀q,(mks m q).length=q*es
 |0=>by simp [mks]
 |q+1=>by rw [nV,List.length_append,l6 hm q,hm,Nat.succ_mul]
theorem xY{m:Nat→List Value}{es:Nat}(hm:∀i,(m i).length=es){q:Nat} :∀ {p:Nat},q≤p→(mks m p).take (q*es)=mks m q
 |0,h=>by
  obtain rfl:q=0:=by omega
  simp [mks]
 |p+1,h=>by
  by_cases e:q=p+1
  ·subst e
   rw [List.take_of_length_le (by rw [l6 hm];omega)]
  ·have hqp:q*es≤p*es:=Nat.mul_le_mul_right _ (by omega)
   rw [nV,List.take_append_of_le_length (by rw [l6 hm];exact hqp),xY hm (by omega)]
theorem mks_at{m:Nat→List Value}{es:Nat}(hm:∀i,(m i).length=es){i q:Nat}(h:i<q):((mks m q).drop (i*es)).take es=m i:=by
 have h1:(mks m (i+1)).drop (i*es)=m i:=by
  rw [nV,List.drop_append_of_le_length (by rw [l6 hm];omega),List.drop_of_length_le (by rw [l6 hm];omega),List.nil_append]
 rw [←xY hm (show i+1≤q from h)]at h1;rw [←h1,Nat.succ_mul,List.drop_take];congr 1;omega
def LsM(A:aa)(es:Nat)(e:TypeId)(L:LsD)(m:Nat→List Value)(q:Nat):Prop:=∃cs,LsR A es e L cs∧q≤L.n∧cs.take (q*es)=mks m q
theorem LsM.bk{A A':aa}{es:Nat}{e:TypeId}{L:LsD}{m:Nat→List Value}{q:Nat}(h:LsM A es e L m q)(hk:∀g o,L.g=some g→A.blk g=some o→A'.blk g=some o):LsM A' es e L m q:=by
 obtain⟨cs,h1,h2,h3⟩:=h;exact⟨cs,h1.bk hk,h2,h3⟩
theorem LsM.live{A:aa}{es:Nat}{e:TypeId}{L:LsD}{m:Nat→List Value}{q:Nat}(h:LsM A es e L m q){g:Nat}(hg:L.g=some g):∃o,A.blk g=some o:=by
 obtain⟨cs,h1,_⟩:=h;exact h1.live hg
theorem LsM.read{A:aa}{es:Nat}{e:TypeId}{L:LsD}{m:Nat→List Value}{q i:Nat}(hm:∀i,(m i).length=es)(h:LsM A es e L m q)(hi:i<q):∃g,L.v= .slice (some ⟨g,0,none⟩) L.n L.c∧A.rd g (0+i*es) es=some (m i):=by
 obtain⟨cs,h1,h2,h3⟩:=h;rcases h1 with⟨_,h4,_⟩|⟨g,_,h4,_,h5⟩
 ·omega
 ·refine⟨g,h4,?_⟩
  have hle:(i+1)*es≤q*es:=Nat.mul_le_mul_right _ hi;have hle2:(i+1)*es≤L.n*es:=Nat.mul_le_mul_right _ (by omega);have hs:(i+1)*es=i*es+es:=Nat.succ_mul i es;rw [cU h5.rd (by omega),←mks_at hm hi,←h3,List.drop_take,List.take_take,Nat.min_eq_left (by omega)]
theorem LsM.put{A:aa}{es:Nat}{e:TypeId}{L:LsD}{m:Nat→List Value}{q:Nat}(hm:∀i,(m i).length=es)(h:LsM A es e L m q)(hq:q<L.n):∃g,L.g=some g∧L.v= .slice (some ⟨g,0,none⟩) L.n L.c∧A.Room g (0+q*es) es∧
  ∀A',A.Put A' g (0+q*es) (m q)→LsM A' es e L m (q+1)∧∀k,k≠g→A'.blk k=A.blk k:=by
 obtain⟨cs,h1,h2,h3⟩:=h;rcases h1 with⟨_,h4,_⟩|⟨g,h4,h5,h6,h7⟩
 ·omega
 ·have hle:(q+1)*es≤L.n*es:=Nat.mul_le_mul_right _ hq
  have hs:(q+1)*es=q*es+es:=Nat.succ_mul q es;have hlc:L.n*es≤L.c*es:=Nat.mul_le_mul_right _ h7.le;refine⟨g,h4,h5,h7.room (by omega),fun A' hP=>⟨?_,hP.other⟩⟩;obtain⟨cc,k1,k2,k3⟩:=h7.at_;obtain⟨c0,t0,fz0,c',e1,e2,e3⟩:=hP.at_;rw [k1]at e1;injection e1 with e1
  injection e1 with e1 e1' e1''
  subst e1;subst e1';subst e1''
  rw [hm,Nat.zero_add]at e3;have hcl:cc.toList.length=L.c*es:=by rw [Array.length_toList,k2]
  have hml:=hm q;refine⟨c'.toList.take (L.n*es),.inr ⟨g,h4,h5,h6,⟨c',e2,?_,rfl⟩,h7.le,?_⟩,hq,?_⟩
  ·rw [←Array.length_toList,e3]
   simp only [List.length_append,List.length_take,List.length_drop,hml,hcl];omega
  ·rw [List.length_take,e3]
   simp only [List.length_append,List.length_take,List.length_drop,hml,hcl];omega
  ·have h9:cc.toList.take (q*es)=mks m q:=by
     rw [←h3,←k3,List.take_take,Nat.min_eq_left (by omega)]
   rw [List.take_take,Nat.min_eq_left hle,e3,List.take_append_of_le_length (by simp only [List.length_append,List.length_take,hml,hcl];omega),h9,←nV,List.take_of_length_le (by rw [l6 hm];omega)]
theorem zS{m c:Nat}(h:c<m):Builtin.nextslicecap m c≤2*m+768:=gD h
theorem LsR.app{A:aa}{es:Nat}{e:TypeId}{L:LsD}{cs:List Value}(h:LsR A es e L cs):∃base,L.v= .slice (aD base) L.n L.c∧(base=none∨∃g o,base=some (g,o))∧
  (∀m bytes,bytes≤65536→L.n+m≤1000000000→0<m→Cm A base L.n m L.c es bytes cs)∧
  ∀m ys v' A',ys.length=m*es→0<m→dC A base L.n L.c es e cs ys m v' A'→
   ∃L':LsD,L'.v=v'∧L'.n=L.n+m∧LsR A' es e L' (cs++ys)∧(∀g,L'.g=some g→L.g=some g∨A.blk g=none)∧(∀k o,A.blk k=some o→L.g≠some k→A'.blk k=some o)∧LsR A' es e L cs∧∀g,L'.g=some g→L.g=some g→L'.c=L.c:=by
 have hcap:∀ {m bytes},bytes≤65536→L.n+m≤1000000000→L.c<L.n+m→Builtin.nextslicecap (L.n+m) L.c*bytes≤281474976710656:=fun {m bytes} hb hn hc=>by
  have h1:=zS hc
  calc _≤(2*(L.n+m)+768)*65536:=Nat.mul_le_mul h1 hb
   _≤_:=by omega
 rcases h with⟨h1,h2,h3,rfl,base,h4⟩|⟨g,h1,h2,h3,h4⟩
 ·rw [h2,h3]at hcap ⊢
  refine⟨base,h4,?_,fun m bytes hb hn hm=>⟨?_,hcap hb hn,fun hb0=>⟨rfl,rfl⟩,fun k hk g o _ hle=>by omega⟩,fun m ys v' A' hy hm ha=> ?_⟩
  ·cases base with
   |none=>exact .inl rfl
   |some x=>exact .inr ⟨x.1,x.2,rfl⟩
  ·cases base with
   |none=>simp [kA]
   |some x=>
    obtain⟨g,o⟩:=x;show(if 0*es=0 then some []else A.rd g o (0*es))=some []
    rw [if_pos (Nat.zero_mul _)]
  ·rcases ha with⟨h0,_⟩|⟨_,g,nc,c0,zs,hv,hnc,hc,hz,hN⟩
   ·omega
   ·refine⟨⟨v',0+m,nc,some g⟩,rfl,rfl,.inr ⟨g,rfl,hv,by show 0<nc;omega,⟨c0,hN.at_,?_,?_⟩,hnc,?_⟩,fun g' hg'=> ?_,fun k o hk _=> ?_,.inl ⟨h1,h2,h3,rfl,base,h4⟩,fun g9 _ h=>by rw [h1]at h;cases h⟩
    ·rw [←Array.length_toList,hc]
     simp only [List.nil_append,List.length_append,hy,hz];have:nc*es=(m+(nc-(0+m)))*es:=by congr 1;omega
     show m*es+(nc-(0+m))*es=nc*es
     rw [this,Nat.add_mul]
    ·show c0.toList.take ((0+m)*es)=_
     rw [hc,Nat.zero_add,List.nil_append,List.take_append_of_le_length (by omega),List.take_of_length_le (by omega)]
    ·show([]++ys).length=(0+m)*es
     rw [Nat.zero_add];simpa using hy
    ·have hg':some g=some g':=hg'
     injection hg' with hg'
     subst hg';exact .inr hN.none_
    ·rw [hN.other k fun e=>(by rw [e,hN.none_]at hk;cases hk)]
     exact hk
 ·refine⟨some (g,0),h2,.inr ⟨g,0,rfl⟩,fun m bytes hb hn hm=>⟨h4.base,hcap hb hn,fun h=>(by cases h),fun k hk g' o he hle=> ?_⟩,fun m ys v' A' hy hm ha=> ?_⟩
  ·injection he with he
   injection he with he1 he2
   subst he1;subst he2;subst hk
   have:=Nat.mul_le_mul_right es hle;rw [Nat.add_mul]at this;exact h4.room (by omega)
  ·have h4':=h4
   obtain⟨cc,k1,k2,k3⟩:=h4'.at_;rcases ha with hin|⟨h0,g',nc,c0,zs,hv,hnc,hc,hz,hN⟩
   ·obtain⟨hv,hrow,hoth⟩:=h4.add hin.1 hy (.inl hin)
    refine⟨⟨v',L.n+m,L.c,some g⟩,rfl,rfl,.inr ⟨g,rfl,hv,h3,hrow⟩,fun g' hg'=> ?_,fun k o hk hne=> ?_,.inr ⟨g,h1,h2,h3,?_⟩,fun _ _ _=>rfl⟩
    ·have hg':some g=some g':=hg'
     rw [←hg'];exact .inl h1
    ·rw [hoth k fun e=>hne (by rw [e];exact h1)]
     exact hk
    ·obtain⟨⟨c2,j1,j2,j3⟩,j4,j5⟩:=hrow
     refine⟨⟨c2,j1,j2,?_⟩,h4.le,h4.len⟩;have h9:=congrArg (List.take (L.n*es)) j3;rw [List.take_take,Nat.min_eq_left (Nat.mul_le_mul_right _ (by omega)),List.take_append_of_le_length (by rw [h4.len];omega),List.take_of_length_le (l:=cs) (by rw [h4.len];omega)]at h9;exact h9
   ·refine⟨⟨v',L.n+m,nc,some g'⟩,rfl,rfl,.inr ⟨g',rfl,hv,by show 0<nc;omega,⟨c0,hN.at_,?_,?_⟩,hnc,?_⟩,fun g9 hg9=> ?_,fun k o hk _=> ?_,.inr ⟨g,h1,h2,h3,h4.bk (hN.other g fun e=> ?_)⟩,fun g9 hg9 hgl=> ?_⟩
    ·rw [←Array.length_toList,hc]
     simp only [List.length_append,hy,hz,h4.len];have:nc*es=(L.n+m+(nc-(L.n+m)))*es:=by congr 1;omega
     show L.n*es+m*es+(nc-(L.n+m))*es=nc*es
     rw [this,Nat.add_mul,Nat.add_mul]
    ·show c0.toList.take ((L.n+m)*es)=_
     have hl:(cs++ys).length=(L.n+m)*es:=by rw [List.length_append,h4.len,hy,Nat.add_mul]
     rw [hc,List.take_append_of_le_length (by omega),List.take_of_length_le (by omega)]
    ·show(cs++ys).length=(L.n+m)*es
     rw [List.length_append,h4.len,hy,Nat.add_mul]
    ·have hg9:some g'=some g9:=hg9
     injection hg9 with hg9
     subst hg9;exact .inr hN.none_
    ·rw [hN.other k fun e=>(by rw [e,hN.none_]at hk;cases hk)]
     exact hk
    ·have:=hN.none_
     rw [←e,k1]at this
     cases this
    ·have hg9:some g'=some g9:=hg9
     have:=hN.none_;rw [h1,←hg9]at hgl;injection hgl with hgl
     rw [←hgl,k1]at this
     cases this
end
end Go.Proofs.YtphigpccfbfnoaaGreatDoor
namespace Go.Sx
noncomputable section
section
variable {κ α β : Type} [BEq κ]
def aM(p:κ):List (κ×α)→Option α
 | []=>none
 |e::es=>bif p==e.1 then some e.2 else aM p es
def cH(p:κ)(x:α):List (κ×α)→List (κ×α)
 | []=> [(p,x)]
 |e::es=>bif p==e.1 then(p,x)::es else e::cH p x es
def eJ(p:κ):List (κ×α)→List (κ×α)
 | []=> []
 |e::es=>bif p==e.1 then es else e::eJ p es
def ev(p:κ)(f:α→α):List (κ×α)→List (κ×α)
 | []=> []
 |e::es=>bif p==e.1 then(e.1,f e.2)::es else e::ev p f es
def dv(f:α→β)(l:List (κ×α)):List (κ×β):=l.map fun e=>(e.1,f e.2)
theorem lA(f:α→β)(p:κ):∀l:List (κ×α),aM p (dv f l)=(aM p l).map f
 | []=>rfl
 |e::es=>by
  have:=lA f p es;simp only [dv,List.map_cons,aM]at this ⊢
  cases hb:p==e.1<;>simp only [cond_true,cond_false,this,Option.map_some]
theorem sv(f:α→β)(p:κ)(x:α):∀l:List (κ×α),cH p (f x) (dv f l)=dv f (cH p x l)
 | []=>rfl
 |e::es=>by
  have:=sv f p x es;simp only [dv,List.map_cons,cH]at this ⊢
  cases hb:p==e.1<;>simp only [cond_true,cond_false,this,List.map_cons]
theorem sB(f:α→β)(p:κ):∀l:List (κ×α),eJ p (dv f l)=dv f (eJ p l)
 | []=>rfl
 |e::es=>by
  have:=sB f p es;simp only [dv,List.map_cons,eJ]at this ⊢
  cases hb:p==e.1<;>simp only [cond_true,cond_false,this,List.map_cons]
theorem yt(f:α→β)(h:α→α)(h':β→β)(hh:∀x,h' (f x)=f (h x))(p:κ):∀l:List (κ×α),ev p h' (dv f l)=dv f (ev p h l)
 | []=>rfl
 |e::es=>by
  have:=yt f h h' hh p es;simp only [dv,List.map_cons,ev]at this ⊢
  cases hb:p==e.1<;>simp only [cond_true,cond_false,this,List.map_cons,hh]
theorem iK{p:κ}{x:α}(hq:∀q:κ,(p==q)=true→q=p):∀ {l:List (κ×α)},aM p l=some x→(p,x)∈l
 | [],h=>by cases h
 |e::es,h=>by
  simp only [aM]at h
  cases hb:p==e.1 with
  |true=>
   rw [hb]at h;injection h with h
   rw [←hq _ hb,←h];exact List.mem_cons_self
  |false=>rw [hb]at h;exact List.mem_cons_of_mem _ (iK hq h)
theorem iz{p:κ}(hr:(p==p)=true):∀ {l:List (κ×α)},aM p l=none→p∉l.map (·.1)
 | [],_=>by simp
 |e::es,h=>by
  simp only [aM]at h
  cases hb:p==e.1 with
  |true=>rw [hb]at h;cases h
  |false=>
   rw [hb]at h;have:=iz hr (l:=es) h;simp only [List.map_cons,List.mem_cons,not_or];exact⟨fun e'=>(by rw [←e',hr]at hb;cases hb),this⟩
theorem mf{p:κ}{x:α} :∀ {l:List (κ×α)},aM p l=none→cH p x l=l++ [(p,x)]
 | [],_=>rfl
 |e::es,h=>by
  simp only [aM]at h
  cases hb:p==e.1 with
  |true=>rw [hb]at h;cases h
  |false=>rw [hb]at h;simp only [cH,hb,cond_false,mf (l:=es) h,List.cons_append]
theorem pB{p:κ}{f:α→α} :∀ {l:List (κ×α)},aM p l=none→ev p f l=l
 | [],_=>rfl
 |e::es,h=>by
  simp only [aM]at h
  cases hb:p==e.1 with
  |true=>rw [hb]at h;cases h
  |false=>rw [hb]at h;simp only [ev,hb,cond_false,pB (l:=es) h]
theorem wy{p:κ}{f:α→α}{x:α} :∀ {l:List (κ×α)},aM p l=some x→ev p (fun _=>f x) l=ev p f l
 | [],h=>by cases h
 |e::es,h=>by
  simp only [aM]at h
  cases hb:p==e.1 with
  |true=>
   rw [hb]at h;injection h with h
   simp only [ev,hb,cond_true,h]
  |false=>rw [hb]at h;simp only [ev,hb,cond_false,wy (l:=es) h]
theorem iJ{p:κ}{x:α}(hq:∀q:κ,(p==q)=true→q=p):∀ {l:List (κ×α)},aM p l=some x→∃a b,l=a++(p,x)::b∧aM p a=none∧(∀y,cH p y l=a++(p,y)::b)∧eJ p l=a++b∧∀f,ev p f l=a++(p,f x)::b
 | [],h=>by cases h
 |e::es,h=>by
  simp only [aM]at h
  cases hb:p==e.1 with
  |true=>
   rw [hb]at h;injection h with h
   have h1:=hq _ hb;obtain⟨k,v⟩:=e;simp only at h h1 hb;subst h h1;exact⟨[],es,rfl,rfl,fun y=>(by simp only [cH,hb,cond_true,List.nil_append]),(by simp only [eJ,hb,cond_true,List.nil_append]),fun f=>(by simp only [ev,hb,cond_true,List.nil_append])⟩
  |false=>
   rw [hb]at h;obtain⟨a,b,h1,h2,h3,h4,h5⟩:=iJ hq (l:=es) h;exact⟨e::a,b,(by rw [h1];rfl),(by simp only [aM,hb,cond_false,h2]),fun y=>(by simp only [cH,hb,cond_false,h3,List.cons_append]),(by simp only [eJ,hb,cond_false,h4,List.cons_append]),fun f=>(by simp only [ev,hb,cond_false,h5,List.cons_append])⟩
end
theorem lH(a:ByteArray):(a==a)=true:=by rw [beq_toListBytes];simp
theorem eV(p:ByteArray):∀q:ByteArray,(p==q)=true→q=p:=fun _ h=>(bytes_beq h).symm
theorem BM(p:Int):∀q:Int,(p==q)=true→q=p:=fun _ h=>(eq_of_beq h).symm
section
variable {α:Type} (f:α→Value)
def fF(l:List (ByteArray×α)):List (Value×Value):=l.map fun e=>(.string e.1,f e.2)
def jh(l:List (Int×α)):List (Value×Value):=l.map fun e=>(.int .i64 e.1,f e.2)
theorem gB(p:ByteArray)(l:List (ByteArray×α)):∀e∈fF f l,de (.string p) e.1=true:=fun e he=>by
 obtain⟨x,_,rfl⟩:=List.mem_map.1 he;rfl
theorem dw(p:Int)(l:List (Int×α)):∀e∈jh f l,de (.int .i64 p) e.1=true:=fun e he=>by
 obtain⟨x,_,rfl⟩:=List.mem_map.1 he;rfl
theorem xb(p:ByteArray):∀l:List (ByteArray×α),iN (.string p) (fF f l)=(aM p l).map f
 | []=>rfl
 |e::es=>by
  have:=xb p es;simp only [fF,List.map_cons,iN,aM,gv]at this ⊢
  cases hb:p==e.1<;>simp only [cond_true,cond_false,this,Option.map_some]
theorem nA(p:ByteArray)(x:α):∀l:List (ByteArray×α),cA (.string p) (f x) (fF f l)=fF f (cH p x l)
 | []=>rfl
 |e::es=>by
  have:=nA p x es;simp only [fF,List.map_cons,cA,cH,gv]at this ⊢
  cases hb:p==e.1<;>simp only [cond_true,cond_false,this,List.map_cons]
theorem xe(p:ByteArray):∀l:List (ByteArray×α),ib (.string p) (fF f l)=fF f (eJ p l)
 | []=>rfl
 |e::es=>by
  have:=xe p es;simp only [fF,List.map_cons,ib,eJ,gv]at this ⊢
  cases hb:p==e.1<;>simp only [cond_true,cond_false,this,List.map_cons]
theorem yy(p:Int):∀l:List (Int×α),iN (.int .i64 p) (jh f l)=(aM p l).map f
 | []=>rfl
 |e::es=>by
  have:=yy p es;simp only [jh,List.map_cons,iN,aM,gv]at this ⊢
  cases hb:p==e.1<;>simp only [cond_true,cond_false,this,Option.map_some]
theorem fw(p:Int)(x:α):∀l:List (Int×α),cA (.int .i64 p) (f x) (jh f l)=jh f (cH p x l)
 | []=>rfl
 |e::es=>by
  have:=fw p x es;simp only [jh,List.map_cons,cA,cH,gv]at this ⊢
  cases hb:p==e.1<;>simp only [cond_true,cond_false,this,List.map_cons]
theorem yz(p:Int):∀l:List (Int×α),ib (.int .i64 p) (jh f l)=jh f (eJ p l)
 | []=>rfl
 |e::es=>by
  have:=yz p es;simp only [jh,List.map_cons,ib,eJ,gv]at this ⊢
  cases hb:p==e.1<;>simp only [cond_true,cond_false,this,List.map_cons]
end
theorem lu{A:aa}{m:Nat}{α:Type}{f:α→Value}{l:List (ByteArray×α)}(h:bX A m (fF f l))(p:ByteArray):A.look m (.string p)=some ((aM p l).map f):=by
 rw [BD h (gB f p l),xb]
theorem cf{A:aa}{m:Nat}{α:Type}{f:α→Value}{l:List (Int×α)}(h:bX A m (jh f l))(p:Int):A.look m (.int .i64 p)=some ((aM p l).map f):=by
 rw [BD h (dw f p l),yy]
def aG(A:aa)(g:Nat)(L:List Value):Prop:=∃c t fz,A.blk g=some (.cells c t fz)∧Fz c.size fz∧c.toList=L
theorem aG.rd{A:aa}{g:Nat}{L:List Value}(h:aG A g L){o n:Nat}(hle:o+n≤L.length):A.rd g o n=some ((L.drop o).take n):=by
 obtain⟨c,t,fz,h1,_,rfl⟩:=h;exact rd_mk h1 (by simpa using hle)
theorem aG.room{A:aa}{g:Nat}{L:List Value}(h:aG A g L){o n:Nat}(hle:o+n≤L.length):A.Room g o n:=by
 obtain⟨c,t,fz,h1,h2,rfl⟩:=h;exact⟨c,t,fz,h1,by simpa using hle,h2⟩
theorem aG.put{A A':aa}{g o:Nat}{L vs:List Value}(h:aG A g L)(hP:A.Put A' g o vs)(hle:o+vs.length≤L.length):aG A' g (L.take o++vs++L.drop (o+vs.length)):=by
 obtain⟨c,t,fz,h1,h2,rfl⟩:=h;obtain⟨c0,t0,fz0,c1,e1,e2,e3⟩:=hP.at_;rw [h1]at e1;injection e1 with e1
 injection e1 with e1 e4 e5
 subst e1 e4 e5;refine⟨c1,t,fz,e2,?_,e3⟩
 have:c1.size=c.size:=by
  have hl:c1.toList.length=c.toList.length:=by
   rw [e3];simp only [Array.length_toList]at hle;simp;omega
  simpa using hl
 rw [this];exact h2
theorem aG.sub{A A':aa}{g:Nat}{L:List Value}(h:aG A g L)(hs:∀o,A.blk g=some o→A'.blk g=some o):aG A' g L:=by
 obtain⟨c,t,fz,h1,h2⟩:=h;exact⟨c,t,fz,hs _ h1,h2⟩
theorem aG.new{A A':aa}{g:Nat}{c:Array Value}{t:TypeId}(h:A.New A' g c t):aG A' g c.toList:=⟨c,t,(0,0),h.at_,.inl rfl,rfl⟩
theorem aG.dom{A:aa}{g:Nat}{L:List Value}(h:aG A g L):∃o,A.blk g=some o:=by
 obtain⟨c,t,fz,h1,_⟩:=h;exact⟨_,h1⟩
def aa.plus(B C:aa):aa:=aa.of fun k=>match B.blk k with
 |some o=>some o
 |none=>C.blk k
theorem jC(B C:aa)(k:Nat):(B.plus C).blk k=match B.blk k with
 |some o=>some o
 |none=>C.blk k:=rfl
theorem fk(B C:aa):B.Sub (B.plus C):=fun k o h=>by rw [jC,h]
theorem oY{B C:aa}(h:∀k o,C.blk k=some o→B.blk k=none):C.Sub (B.plus C):=fun k o hk=>by rw [jC,h k o hk];exact hk
theorem bL{B C:aa}{k:Nat}{o:Obj}(h:(B.plus C).blk k=some o):B.blk k=some o∨(B.blk k=none∧C.blk k=some o):=by
 rw [jC]at h
 split at h
 ·left;rw [←h];assumption
 ·right;exact⟨by assumption,h⟩
theorem gO{A A' B:aa}(h:B.Sub A):∀k o,(A'.minus A).blk k=some o→B.blk k=none:=fun k o hk=>by
 cases hB:B.blk k with
 |none=>rfl
 |some o'=>
  have:=(bN hk).1;rw [h _ _ hB]at this;cases this
end
end Go.Sx
namespace Go.Proofs.YtphigpccfbfnoaaGreatDoor
open Go.Sx Go.RowKit
noncomputable section
open Classical
structure FlD(C:aa)(Ls:List LsD):Prop where
 c0:∀j (h:j<Ls.length) g,Ls[j].g=some g→C.blk g=none
 ne:∀i j (hi:i<Ls.length) (hj:j<Ls.length),i≠j→∀g,Ls[i].g=some g→Ls[j].g≠some g
 small:∀j (h:j<Ls.length),Ls[j].n≤1000000
 few:Ls.length≤1000000
def FlS(A:aa)(es:Nat)(e:TypeId)(mm:Nat→Nat→List Value)(Ls:List LsD)(k i:Nat):Prop:=∀j (h:j<Ls.length),LsM A es e Ls[j] (mm j) (if j<k then Ls[j].n else if j=k then i else 0)
theorem FlS.zero{A:aa}{es:Nat}{e:TypeId}{mm:Nat→Nat→List Value}{Ls:List LsD}(h:∀j (h:j<Ls.length),∃cs,LsR A es e Ls[j] cs):FlS A es e mm Ls 0 0:=fun j hj=>by
 obtain⟨cs,hc⟩:=h j hj;rw [if_neg (by omega),show(if j=0 then 0 else 0)=0 by split<;>rfl];exact⟨cs,hc,Nat.zero_le _,by rw [Nat.zero_mul,List.take_zero,Ft]⟩
theorem FlS.next{A:aa}{es:Nat}{e:TypeId}{mm:Nat→Nat→List Value}{Ls:List LsD}{k:Nat}(hk:k<Ls.length)(h:FlS A es e mm Ls k Ls[k].n):FlS A es e mm Ls (k+1) 0:=fun j hj=>by
 have:=h j hj
 by_cases h1:j<k
 ·rw [if_pos h1]at this
  rw [if_pos (by omega)];exact this
 ·by_cases h2:j=k
  ·subst h2
   rw [if_neg h1,if_pos rfl]at this;rw [if_pos (by omega)];exact this
  ·rw [if_neg h1,if_neg h2]at this
   rw [if_neg (by omega),show(if j=k+1 then 0 else 0)=0 by split<;>rfl];exact this
theorem FlS.at_{A:aa}{es:Nat}{e:TypeId}{mm:Nat→Nat→List Value}{Ls:List LsD}{k i:Nat}(hk:k<Ls.length)(h:FlS A es e mm Ls k i):LsM A es e Ls[k] (mm k) i:=by
 have:=h k hk;rw [if_neg (by omega),if_pos rfl]at this;exact this
theorem FlS.put{C A:aa}{es:Nat}{e:TypeId}{mm:Nat→Nat→List Value}{Ls:List LsD}{k i:Nat}(hm:∀k i,(mm k i).length=es)(hD:FlD C Ls)(hs:C.Sub A)(hk:k<Ls.length)(h:FlS A es e mm Ls k i)(hi:i<Ls[k].n):∃g,Ls[k].v= .slice (some ⟨g,0,none⟩) Ls[k].n Ls[k].c∧A.Room g (0+i*es) es∧
  ∀A',A.Put A' g (0+i*es) (mm k i)→FlS A' es e mm Ls k (i+1)∧C.Sub A':=by
 obtain⟨g,h1,h2,h3,h4⟩:=(h.at_ hk).put (hm k) hi;refine⟨g,h2,h3,fun A' hP=> ?_⟩;obtain⟨h5,h6⟩:=h4 A' hP;refine⟨fun j hj=> ?_,fun x o hx=> ?_⟩
 ·by_cases e:j=k
  ·subst e
   rw [if_neg (by omega),if_pos rfl];exact h5
  ·have:=h j hj
   rw [if_neg e]at this;rw [if_neg e];refine this.bk fun x o hx ho=> ?_
   rw [h6 x fun e2=> ?_]
   ·exact ho
   ·rw [e2]at hx
    exact hD.ne k j hk hj (fun e3=>e e3.symm) g h1 hx
 ·rw [h6 x fun e2=> ?_]
  ·exact hs x o hx
  ·rw [e2,hD.c0 k hk g h1]at hx
   cases hx
def FlF(A:aa)(es:Nat)(e:TypeId)(mm:Nat→Nat→List Value)(Ls:List LsD):Prop:=∀j (h:j<Ls.length),LsM A es e Ls[j] (mm j) Ls[j].n
theorem FlS.full{A:aa}{es:Nat}{e:TypeId}{mm:Nat→Nat→List Value}{Ls:List LsD}{k:Nat}(h:FlS A es e mm Ls k 0)(hk:Ls.length≤k):FlF A es e mm Ls:=fun j hj=>by
 have:=h j hj;rw [if_pos (by omega)]at this;exact this
def gX:Value:= .slice none 0 0
structure FlG(C A:aa)(es:Nat)(e:TypeId)(mm:Nat→Nat→List Value)(Ls:List LsD)(gb q:Nat)(Ws:List LsD)(rest:List Value):Prop where
 sub:C.Sub A
 full:FlF A es e mm Ls
 gs:aG A gb (Ws.map (·.v)++rest)
 rl:Ws.length+rest.length=Ls.length
 gb0:C.blk gb=none
 gbL:∀j (h:j<Ls.length),Ls[j].g≠some gb
 ws:∀j (h:j<Ws.length) (hj:j<Ls.length),LsM A es e Ws[j] (mm j) (Ls[j].n+q)∧Ws[j].n=Ls[j].n+64
 own:∀j (h:j<Ws.length) g,Ws[j].g=some g→g≠gb∧C.blk g=none∧∀i (hi:i<Ls.length),i≠j→Ls[i].g≠some g
structure FlR(A0 A:aa)(es:Nat)(e:TypeId)(m:Nat→List Value)(L W:LsD)(i q:Nat):Prop where
 bk:∀x o,A0.blk x=some o→L.g≠some x→A.blk x=some o
 old:LsM A es e L m L.n
 w:LsM A es e W m q
 wn:W.n=L.n+i
 wg:∀g,W.g=some g→L.g=some g∨A0.blk g=none
 wc:∀g,W.g=some g→L.g=some g→W.c=L.c
theorem FlR.start{A:aa}{es:Nat}{e:TypeId}{m:Nat→List Value}{L:LsD}(h:LsM A es e L m L.n):FlR A A es e m L L 0 L.n:=
 ⟨fun _ _ h _=>h,h,h,rfl,fun _ h=> .inl h,fun _ _ _=>rfl⟩
theorem FlR.more{A0 A A':aa}{es:Nat}{e:TypeId}{m:Nat→List Value}{L W:LsD}{i q:Nat}(h:FlR A0 A es e m L W i q)(hs:A.Sub A'):FlR A0 A' es e m L W i q:=
 ⟨fun x o h1 h2=>hs _ _ (h.bk x o h1 h2),h.old.bk fun _ _ _ ho=>hs _ _ ho,h.w.bk fun _ _ _ ho=>hs _ _ ho,h.wn,h.wg,h.wc⟩
theorem FlR.app{A0 A:aa}{es:Nat}{e:TypeId}{m:Nat→List Value}{L W:LsD}{i q:Nat}(h:FlR A0 A es e m L W i q):∃base cs,W.v= .slice (aD base) W.n W.c∧(base=none∨∃g o,base=some (g,o))∧(q=W.n→cs=mks m q)∧
  (∀p bytes,bytes≤65536→W.n+p≤1000000000→0<p→Cm A base W.n p W.c es bytes cs)∧
  ∀p ys v' A',ys.length=p*es→0<p→(∀k,A.blk k=none→A0.blk k=none)→dC A base W.n W.c es e cs ys p v' A'→∃W',W'.v=v'∧FlR A0 A' es e m L W' (i+p) q∧∀r,q=W.n→ys.take (r*es)=(List.range r).flatMap (fun t=>m (q+t))→r≤p→LsM A' es e W' m (q+r):=by
 obtain⟨cs,w1,w2,w3⟩:=h.w;have hcl:=w1.len
 have hcs:q=W.n→cs=mks m q:=fun e=>by
  rw [←w3,List.take_of_length_le (by rw [hcl,e];omega)]
 obtain⟨base,a1,a2,a3,a4⟩:=w1.app;refine⟨base,cs,a1,a2,hcs,a3,fun p ys v' A' hy hp hd ha=> ?_⟩;obtain⟨W',b1,b2,b3,b4,b5,b6,b7⟩:=a4 p ys v' A' hy hp ha;have hle:q*es≤W.n*es:=Nat.mul_le_mul_right _ w2;have hw':LsM A' es e W' m q:=⟨cs++ys,b3,by omega,by rw [List.take_append_of_le_length (by omega)];exact w3⟩;refine⟨W',b1,⟨fun x o hx hn=> ?_,?_,hw',by rw [b2,h.wn];omega,fun g hg=> ?_,fun g hg hl=> ?_⟩,fun r hr hyr hrp=> ?_⟩
 ·refine b5 x o (h.bk x o hx hn) fun hwg=> ?_
  rcases h.wg x hwg with h9|h9
  ·exact hn h9
  ·rw [h9]at hx;cases hx
 ·obtain⟨cl,l1,l2,l3⟩:=h.old
  by_cases hsame:∃g,L.g=some g∧W.g=some g
  ·obtain⟨g,hg1,hg2⟩:=hsame
   rcases l1 with⟨k1,_⟩|⟨g',k1,k2,k3,k4⟩
   ·rw [k1]at hg1;cases hg1
   ·rw [hg1]at k1
    injection k1 with k1
    subst k1;refine⟨cl,.inr ⟨g,hg1,k2,k3,?_⟩,l2,l3⟩;rcases b6 with⟨j1,_⟩|⟨g'',j1,j2,j3,j4⟩
    ·rw [j1]at hg2;cases hg2
    ·rw [hg2]at j1
     injection j1 with j1
     subst j1;have hc:=h.wc g hg2 hg1;obtain⟨⟨cc,i1,i2,i3⟩,i4,i5⟩:=j4;refine⟨⟨cc,i1,by rw [i2,hc],?_⟩,k4.le,k4.len⟩;rcases w1 with⟨u1,_⟩|⟨g3,u1,u2,u3,u4⟩
     ·rw [u1]at hg2;cases hg2
     ·rw [hg2]at u1
      injection u1 with u1
      subst u1;obtain⟨⟨c1,v1,v2,v3⟩,_,_⟩:=u4;obtain⟨⟨c2,x1,x2,x3⟩,_,_⟩:=k4;rw [v1]at x1;injection x1 with x1
      injection x1 with x1
      subst x1;have hLW:L.n*es≤W.n*es:=Nat.mul_le_mul_right _ (by rw [h.wn];omega);rw [←x3];have e1:=congrArg (List.take (L.n*es)) (i3.trans v3.symm)
      rwa [List.take_take,List.take_take,Nat.min_eq_left hLW]at e1
  ·exact⟨cl,l1.bk fun g o hg ho=>b5 g o ho fun hwg=>hsame ⟨g,hg,hwg⟩,l2,l3⟩
 ·rcases b4 g hg with h9|h9
  ·exact h.wg g h9
  ·exact .inr (hd g h9)
 ·have hWg:W.g=some g:=by
    rcases b4 g hg with h9|h9
    ·exact h9
    ·obtain⟨o,ho⟩:=h.old.live hl
     rw [ho]at h9;cases h9
  rw [b7 g hg hWg,h.wc g hWg hl]
 ·have e0:cs.length=q*es:=by rw [hcl,hr]
  have hrs:r*es≤p*es:=Nat.mul_le_mul_right _ hrp;refine⟨cs++ys,b3,by omega,?_⟩;rw [Nat.add_mul,List.take_append,List.take_of_length_le (l:=cs) (by omega),e0,Nat.add_sub_cancel_left,hyr,hcs hr];unfold mks;rw [List.range_add,List.flatMap_append,List.flatMap_map]
theorem FlG.next{C A0 A A':aa}{es:Nat}{e:TypeId}{mm:Nat→Nat→List Value}{Ls Ws:List LsD}{gb q:Nat}{r0:Value}{rest:List Value}{W:LsD}(hD:FlD C Ls)(hk:Ws.length<Ls.length)(h:FlG C A0 es e mm Ls gb q Ws (r0::rest))(hR:FlR A0 A es e (mm Ws.length) Ls[Ws.length] W 64 (Ls[Ws.length].n+q))(hP:A.Put A' gb (0+Ws.length*1) [W.v]):FlG C A' es e mm Ls gb q (Ws++ [W]) rest:=by
 have hkp:∀x o,A0.blk x=some o→Ls[Ws.length].g≠some x→x≠gb→A'.blk x=some o:=fun x o h1 h2 h3=>by
  rw [hP.other x h3];exact hR.bk x o h1 h2
 have hgl:∀j (hj:j<Ls.length) g,Ls[j].g=some g→g≠gb:=fun j hj g hg e=>by
  rw [e]at hg;exact h.gbL j hj hg
 have hWn:∀g,W.g=some g→g≠gb:=fun g hg e=>by
  rcases hR.wg g hg with h9|h9
  ·exact hgl _ hk g h9 e
  ·obtain⟨o,ho⟩:=h.gs.dom
   rw [e,ho]at h9;cases h9
 refine⟨fun x o hx=> ?_,fun j hj=> ?_,?_,?_,h.gb0,h.gbL,fun j hj hj2=> ?_,fun j hj g hg=> ?_⟩
 ·refine hkp x o (h.sub x o hx) (fun h9=> ?_) fun h9=> ?_
  ·rw [hD.c0 _ hk x h9]at hx;cases hx
  ·rw [h9,h.gb0]at hx;cases hx
 ·by_cases e:j=Ws.length
  ·subst e
   exact hR.old.bk fun g o hg ho=>by rw [hP.other g (hgl _ hk g hg)];exact ho
  ·exact(h.full j hj).bk fun g o hg ho=>hkp g o ho (fun h9=>hD.ne j _ hj hk e g hg h9) (hgl j hj g hg)
 ·have hc:aG A gb (Ws.map (·.v)++(r0::rest)):=h.gs.sub fun o ho=>hR.bk gb o ho (h.gbL _ hk)
  have h9:=hc.put hP (by simp);have e1:0+Ws.length*1=(Ws.map (·.v)).length:=by simp
  rw [e1,List.take_left',List.drop_append]at h9
  ·simp only [List.length_singleton,Nat.add_sub_cancel_left,List.drop_succ_cons,List.drop_zero]at h9
   rw [List.drop_of_length_le (by omega),List.nil_append]at h9;rw [List.map_append];exact h9
  ·rfl
 ·have:=h.rl
  rw [List.length_append,List.length_singleton];rw [List.length_cons]at this;omega
 ·rw [List.length_append,List.length_singleton]at hj
  by_cases hl:j<Ws.length
  ·rw [List.getElem_append_left hl]
   obtain⟨h1,h2⟩:=h.ws j hl hj2;refine⟨h1.bk fun g o hg ho=> ?_,h2⟩;obtain⟨n1,_,n2⟩:=h.own j hl g hg;exact hkp g o ho (n2 _ hk (by omega)) n1
  ·have e:j=Ws.length:=by omega
   subst e;rw [List.getElem_append_right (by omega)];simp only [Nat.sub_self,List.getElem_cons_zero];exact⟨hR.w.bk fun g o hg ho=>by rw [hP.other g (hWn g hg)];exact ho,hR.wn⟩
 ·rw [List.length_append,List.length_singleton]at hj
  by_cases hl:j<Ws.length
  ·rw [List.getElem_append_left hl]at hg
   exact h.own j hl g hg
  ·have e:j=Ws.length:=by omega
   subst e;rw [List.getElem_append_right (by omega)]at hg;simp only [Nat.sub_self,List.getElem_cons_zero]at hg;refine⟨hWn g hg,?_,fun i hi hne h9=> ?_⟩
   ·rcases hR.wg g hg with h8|h8
    ·exact hD.c0 _ hk g h8
    ·cases hc:C.blk g with
     |none=>rfl
     |some o=>rw [h.sub g o hc]at h8;cases h8
   ·rcases hR.wg g hg with h8|h8
    ·exact hD.ne _ i hk hi (fun e=>hne e.symm) g h8 h9
    ·obtain⟨o,ho⟩:=(h.full i hi).live h9
     rw [ho]at h8;cases h8
theorem FlG.start{C A A1:aa}{es:Nat}{e t:TypeId}{mm:Nat→Nat→List Value}{Ls:List LsD}{gb q:Nat}{c:Array Value}{rest:List Value}(hs:C.Sub A)(hF:FlF A es e mm Ls)(hN:A.New A1 gb c t)(hc:c.toList=rest)(hl:rest.length=Ls.length):FlG C A1 es e mm Ls gb q [] rest:=by
 refine⟨hs.trans hN.sub,fun j hj=>(hF j hj).bk fun _ _ _ ho=>hN.sub _ _ ho,?_,by simpa using hl,?_,fun j hj h=> ?_,fun j hj=>(by cases hj),fun j hj=>(by cases hj)⟩
 ·rw [List.map_nil,List.nil_append,←hc]
  exact aG.new hN
 ·cases h:C.blk gb with
  |none=>rfl
  |some o=>
   have:=hN.none_;rw [hs gb o h]at this
   cases this
 ·obtain⟨o,ho⟩:=(hF j hj).live h
  have:=hN.none_;rw [ho]at this
  cases this
theorem FlG.again{C A:aa}{es:Nat}{e:TypeId}{mm:Nat→Nat→List Value}{Ls Ws:List LsD}{gb q q':Nat}(h:FlG C A es e mm Ls gb q Ws []):FlG C A es e mm Ls gb q' [] (Ws.map (·.v)):=
 ⟨h.sub,h.full,(by have:=h.gs;rw [List.append_nil]at this;rw [List.map_nil,List.nil_append];exact this),(by have:=h.rl;rw [List.length_map];simpa using this),h.gb0,h.gbL,fun j hj=>(by cases hj),fun j hj=>(by cases hj)⟩
def kH(es:Nat)(e:TypeId):aL:=⟨aa×List LsD,fun g vs A=>∃x,vs= [x]∧Sl g.1 1 g.2.length x (g.2.map (·.v))∧g.1.Sub A∧(∀j (h:j<g.2.length),∃cs,LsR A es e g.2[j] cs)∧FlD g.1 g.2,fun g _ _ v A'=>g.1.Sub A'∧v= .bool true⟩
structure FaG where
 k:Nat
 A:aa
structure FbG where
 A:aa
 Ws:List LsD
structure FcG where
 i:Nat
 A:aa
 W:LsD
def fl1(C:aa)(es:Nat)(e:TypeId)(mm:Nat→Nat→List Value)(Ls:List LsD):dE:= { γ:=FaG,G:=fun s=>s.k≤Ls.length∧C.Sub s.A∧FlS s.A es e mm Ls s.k 0,keepS:= [0],keepB:= [],sl:=fun s=> [(3,.v (.int .i64 s.k))],bl:=fun _=> [],ar:=fun s=>s.A,mu:=fun s=>Ls.length-s.k }
def fl2(C:aa)(es:Nat)(e:TypeId)(mm:Nat→Nat→List Value)(Ls:List LsD)(k n:Nat):dE:= { γ:=FaG,G:=fun s=>s.k≤n∧C.Sub s.A∧FlS s.A es e mm Ls k s.k,keepS:= [0,3],keepB:= [],sl:=fun s=> [(4,.v (.int .i64 s.k))],bl:=fun _=> [],ar:=fun s=>s.A,mu:=fun s=>n-s.k }
def fl3(C:aa)(es:Nat)(e:TypeId)(mm:Nat→Nat→List Value)(Ls:List LsD)(gb:Nat):dE:= { γ:=FbG,G:=fun s=>FlG C s.A es e mm Ls gb 64 s.Ws (List.replicate (Ls.length-s.Ws.length) gX),keepS:= [0,5],keepB:= [],sl:=fun s=> [(6,.v (.int .i64 s.Ws.length))],bl:=fun _=> [],ar:=fun s=>s.A,mu:=fun s=>Ls.length-s.Ws.length }
def fl4(A0:aa)(es:Nat)(e:TypeId)(m:Nat→List Value)(L:LsD):dE:= { γ:=FcG,G:=fun s=>s.i≤64∧FlR A0 s.A es e m L s.W s.i (L.n+s.i)∧∀x,s.A.blk x=none→A0.blk x=none,keepS:= [0,5,6],keepB:= [],sl:=fun s=> [(7,.v s.W.v),(8,.v (.int .i64 s.i))],bl:=fun _=> [],ar:=fun s=>s.A,mu:=fun s=>64-s.i }
def fl5(A:aa)(n:Nat):dE:= { γ:=Nat,G:=fun k=>k≤n,keepS:= [0,5],keepB:= [],sl:=fun k=> [(9,.v (.int .i64 k))],bl:=fun _=> [],ar:=fun _=>A,mu:=fun k=>n-k }
def fl6(A:aa)(n:Nat):dE:= { γ:=Nat,G:=fun k=>k≤n,keepS:= [0,5,9],keepB:= [],sl:=fun k=> [(10,.v (.int .i64 k))],bl:=fun _=> [],ar:=fun _=>A,mu:=fun k=>n-k }
def fl7(C:aa)(es:Nat)(e:TypeId)(mm:Nat→Nat→List Value)(Ls Ws:List LsD)(gb:Nat):dE:= { γ:=FbG,G:=fun s=>FlG C s.A es e mm Ls gb 0 s.Ws ((Ws.drop s.Ws.length).map (·.v)),keepS:= [0,5],keepB:= [],sl:=fun s=> [(11,.v (.int .i64 s.Ws.length))],bl:=fun _=> [],ar:=fun s=>s.A,mu:=fun s=>Ls.length-s.Ws.length }
def fl8(A0:aa)(es mb:Nat):dE:= { γ:=FaG,G:=fun s=>s.k≤64∧A0.Sub s.A∧∃cs,aG s.A mb cs∧cs.length=64*es∧∀v∈cs,v.oneCell'=true,keepS:= [0,5,11,12],keepB:= [],sl:=fun s=> [(13,.v (.int .i64 s.k))],bl:=fun _=> [],ar:=fun s=>s.A,mu:=fun s=>64-s.k }
def fl9(A:aa)(n:Nat):dE:= { γ:=Nat,G:=fun k=>k≤n,keepS:= [0,5],keepB:= [],sl:=fun k=> [(14,.v (.int .i64 k))],bl:=fun _=> [],ar:=fun _=>A,mu:=fun k=>n-k }
def fl10(A:aa)(n:Nat):dE:= { γ:=Nat,G:=fun k=>k≤n,keepS:= [0,5,14],keepB:= [],sl:=fun k=> [(15,.v (.int .i64 k))],bl:=fun _=> [],ar:=fun _=>A,mu:=fun k=>n-k }
theorem qM{b A B:Bool}(h:b=true)(hB:B=true):(bif !b then A else B)=true:=by
 rw [h];exact hB
theorem oD{A A':aa}{base:Option (Nat×Nat)}{l c es:Nat}{e:TypeId}{xs ys:List Value}{n:Nat}{v:Value}(h:dC A base l c es e xs ys n v A'){k:Nat}(hk:A'.blk k=none):A.blk k=none:=by
 rcases h with⟨_,_,⟨_,rfl⟩|⟨g,o,_,hP⟩⟩|⟨_,g,nc,cs,zs,_,_,_,_,hN⟩
 ·exact hk
 ·exact(hP.dom k).1 hk
 ·by_cases e:k=g
  ·rw [e,hN.at_]at hk;cases hk
  ·rw [hN.other k e]at hk;exact hk
theorem LsM.reads{A:aa}{es:Nat}{e:TypeId}{L:LsD}{m:Nat→List Value}{q:Nat}(hm:∀i,(m i).length=es)(h:LsM A es e L m q)(hq:0<q):∃g,L.v= .slice (some ⟨g,0,none⟩) L.n L.c∧∀i,i<q→A.rd g (0+i*es) es=some (m i):=by
 obtain⟨g,h1,_⟩:=h.read hm hq;refine⟨g,h1,fun i hi=> ?_⟩;obtain⟨g',h2,h3⟩:=h.read hm hi;rw [h1]at h2;injection h2 with h2 _ _
 injection h2 with h2
 injection h2 with h2 _ _
 rw [h2];exact h3
theorem LsM.both{A:aa}{es:Nat}{e:TypeId}{L:LsD}{m:Nat→List Value}{q:Nat}(hm:∀i,(m i).length=es)(h:LsM A es e L m q):∃base gl,L.v= .slice (aD base) L.n L.c∧(0<q→aD base=some ⟨gl,0,none⟩)∧∀i,i<q→A.rd gl (0+i*es) es=some (m i):=by
 by_cases h0:q=0
 ·obtain⟨cs,h1,_⟩:=h
  obtain⟨base,h2,_⟩:=h1.app;exact⟨base,0,h2,fun h=>by omega,fun i hi=>by omega⟩
 ·obtain⟨g,h1,h2⟩:=h.reads hm (by omega)
  exact⟨some (g,0),g,h1,fun _=>rfl,h2⟩
theorem LsM.form{A:aa}{es:Nat}{e:TypeId}{L:LsD}{m:Nat→List Value}{q:Nat}(h:LsM A es e L m q):∃base,L.v= .slice (aD base) L.n L.c∧(base=none∨∃g o,base=some (g,o)):=by
 obtain⟨cs,h1,_⟩:=h;obtain⟨base,h2,h3,_⟩:=h1.app;exact⟨base,h2,h3⟩
theorem BC{A:aa}{g o n:Nat}{ls:List LsD}(h:A.rd g o (n*1)=some (ls.map (·.v)))(k:Nat)(hk:k<ls.length)(hn:n=ls.length):A.rd g (o+k*1) 1=some [ls[k].v]:=by
 have:=cU h (i:=k*1) (m:=1) (by omega);rw [this,Nat.mul_one,←List.map_drop,←List.map_take,List.drop_eq_getElem_cons hk];rfl
end
end Go.Proofs.YtphigpccfbfnoaaGreatDoor
