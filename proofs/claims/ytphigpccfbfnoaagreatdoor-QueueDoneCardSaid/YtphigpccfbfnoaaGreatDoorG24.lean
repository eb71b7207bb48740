/-
  Parts of the proof: ApG CcA CmB PbA PbB EnA DdA DeA
-/
import Derived.Test.YtphigpccfbfnoaaGreatDoorG23
import Derived.Test.YtphigpccfbfnoaaGreatDoorG15
import Derived.Test.YtphigpccfbfnoaaGreatDoorG17
import Derived.Test.YtphigpccfbfnoaaGreatDoorG19
set_option maxRecDepth 100000
set_option maxHeartbeats 0
namespace Go.Proofs.YtphigpccfbfnoaaGreatDoor
open Go.Sx Go.RowKit
noncomputable section
open Classical
def jq(x y:LsD):Prop:=∀g,x.g=some g→y.g≠some g
theorem jq.symm{x y:LsD}(h:jq x y):jq y x:=fun g hy hx=>h g hx hy
theorem Ef{C E A:aa}{b n:Nat}{L:Nat→LsD}{X Y:Nat→List LsD}(hB:ij C A b L X)(hX:∀j,j<4→(X j).filter il=Y j∧(∀l∈X j,l.g=none→AW l)∧(X j).length≤n)(hn:n≤1000000)(hE:E.Sub C)
  (hl:∀j,j<4→∀l∈Y j,(∃cs,LsR C (bes j) (bet j) l cs)∧l.n≤1000000∧∀g,l.g=some g→E.blk g=none) (hp:∀j,j<4→(Y j).Pairwise jq) (hx:∀i j,i<4→j<4→i≠j→∀x∈Y i,∀y∈Y j,jq x y):ApD E b L X∧ApS E A b L X (fun _=>True):=by
 have hY:∀j,j<4→∀i (h:i<(X j).length) g,(X j)[i].g=some g→(X j)[i]∈Y j:=fun j hj i hi g hg=>by
  rw [←(hX j hj).1];refine List.mem_filter.2 ⟨List.getElem_mem hi,?_⟩;unfold il;rw [hg];rfl
 refine⟨⟨fun j hj i hi g hg=> ?_,fun j hj i i' hi hi' hne g hg=> ?_,fun j j' hj hj' hne i i' hi hi' g hg hg'=> ?_,fun j hj i hi=> ?_,fun j hj=>Nat.le_trans (hX j hj).2.2 hn⟩,hE.trans hB.sub,hB.top,hB.rows,fun j hj _ i hi=> ?_⟩
 ·obtain⟨⟨cs,h1⟩,_,h3⟩:=hl j hj _ (hY j hj i hi g hg)
  obtain⟨o,ho⟩:=h1.live hg;refine⟨fun e=> ?_,h3 g hg,fun j' hj' hg'=> ?_⟩
  ·rw [e,hB.b0]at ho;cases ho
  ·rw [(hB.r0 j' hj' g hg').1]at ho;cases ho
 ·have h1:=hp j hj
  rw [←(hX j hj).1,List.pairwise_filter]at h1;have h2:=List.pairwise_iff_getElem.1 h1;intro hg';have s1:il (X j)[i]=true:=by unfold il;rw [hg];rfl
  have s2:il (X j)[i']=true:=by unfold il;rw [hg'];rfl
  rcases Nat.lt_or_gt_of_ne hne with h|h
  ·exact h2 i i' hi hi' h s1 s2 g hg hg'
  ·exact h2 i' i hi' hi h s2 s1 g hg' hg
 ·exact hx j j' hj hj' hne _ (hY j hj i hi g hg) _ (hY j' hj' i' hi' g hg') g hg hg'
 ·cases hg:(X j)[i].g with
  |none=>
   rw [((hX j hj).2.1 _ (List.getElem_mem hi) hg).2.1];omega
  |some g=>exact(hl j hj _ (hY j hj i hi g hg)).2.1
 ·cases hg:(X j)[i].g with
  |none=>
   obtain⟨h1,h2,h3,h4⟩:=(hX j hj).2.1 _ (List.getElem_mem hi) hg;exact⟨[],.inl ⟨h1,h2,h3,rfl,h4⟩⟩
  |some g=>
   obtain⟨⟨cs,h1⟩,_⟩:=hl j hj _ (hY j hj i hi g hg);exact⟨cs,h1.bk fun g o _ ho=>hB.sub _ _ ho⟩
def AV(A:aa)(r:ek)(la lm lp:LsD):Prop:=LsR A 22 46 la (r.cells lm.v lp.v)∧la.n=1∧WhR A r lm lp∧r.parts.length≤1000∧lm.n≤1000
structure ArG where
 E:aa
 r1:ek
 la1:LsD
 lm1:LsD
 lp1:LsD
 r2:ek
 la2:LsD
 lm2:LsD
 lp2:LsD
def wU:aL:=⟨ArG,fun g vs A=>∃x,vs= [x]∧Sl A 1 2 x [g.la1.v,g.la2.v]∧AV A g.r1 g.la1 g.lm1 g.lp1∧AV A g.r2 g.la2 g.lm2 g.lp2∧g.E.Sub A∧(∀l∈ [g.la1,g.lp1,g.la2,g.lp2,g.lm1,g.lm2],∀b,l.g=some b→g.E.blk b=none)∧(([g.la1,g.lp1,g.la2,g.lp2]++ [g.lm1,g.lm2]).filter il).Pairwise jq,
 fun g _ _ v A'=>g.E.Sub A'∧v= .bool true⟩
def alBag:TypeId→Bool:=fun t=>Nat.beq t 134
theorem onL(l:LsD):(if il l=true then [l]else [])= [l].filter il:=by
 by_cases h:il l=true
 ·rw [if_pos h,List.filter_cons_of_pos h,List.filter_nil]
 ·rw [if_neg h,List.filter_cons_of_neg h,List.filter_nil]
theorem Ee:FOk Tryz.prog 18 wU:=by
 refine sN mixed alBag fun⟨E,r1,la1,lm1,lp1,r2,la2,lm2,lp2⟩ vs A hp=> ?_
 obtain⟨x,rfl,hX,hT1,hT2,hE,hE0,hpw⟩:∃x,vs= [x]∧Sl A 1 2 x [la1.v,la2.v]∧AV A r1 la1 lm1 lp1∧AV A r2 la2 lm2 lp2∧E.Sub A∧(∀l∈ [la1,lp1,la2,lp2,lm1,lm2],∀b,l.g=some b→E.blk b=none)∧(([la1,lp1,la2,lp2]++ [lm1,lm2]).filter il).Pairwise jq:=hp;obtain⟨ao,c,rfl,hc, -,ha1,ha2,ha3⟩:=hX;obtain⟨g0,o,rfl,hr⟩:=Sl.at_ hc ha1 ha2 ha3 (by omega);have hr0:A.rd g0 (o+0) 1=some [la1.v]:=cU hr (i:=0) (m:=1) (by omega);have hr1:A.rd g0 (o+1) 1=some [la2.v]:=cU hr (i:=1) (m:=1) (by omega)
 have hC:aF Tryz.prog (bu [aE 61 put2S,aE 62 AS] noC):=az (aj _) (fun x hx=>by
  simp only [List.mem_cons,List.not_mem_nil,or_false]at hx;rcases hx with rfl|rfl
  ·exact ai put2_ok
  ·exact ai GM)
 refine⟨_,noL,60,hC,ak _,fun blk os out tape D hD=> ?_⟩;conv=>lhs;whnf
 refine(hD _).2 fun b A1 hN=> ?_
 have hN:A.New A1 b (oC nlS nlS nlS nlS).toArray 134:=hN
 have hB0:dn A A1 b (fun _=> []) 0:=by
  refine⟨fun _=>nlL,fun _=> [],⟨hN.sub,aG.new hN,fun j hj=> .inl ⟨rfl,rfl,rfl,rfl,none,rfl⟩,hN.none_,fun _ _ _ hg=>(by cases hg),fun _ _ _ _ _ _ hg=>(by cases hg)⟩,fun _ _=>⟨rfl,fun _ hl=>(by cases hl),Nat.le_refl _⟩⟩
 have q0:=aJ hN.sub hr0;conv=>lhs;whnf
 repeat(first|refine af q0 ?_|refine au hD rfl ?_
        conv=>lhs;whnf)
 refine(hD _).2 ⟨(⟨A,b,fun _=> [],0,r1,la1,lm1,lp1⟩:TopG),⟨rfl,hB0,by show 0+4*r1.parts.length≤999700;have:=hT1.2.2.2.1;omega,hT1.1,hT1.2.1,hT1.2.2.1⟩,fun v A2 hq=> ?_⟩;have hB1:dn A A2 b (cT (cT (cT (fun _=> []) 3 la1) 2 lm1) 3 lp1) (0+5+4*r1.parts.length):=hq;have q1:=aJ hB1.sub hr1;conv=>lhs;whnf
 repeat(first|refine af q1 ?_|refine au hD rfl ?_
        conv=>lhs;whnf)
 refine(hD _).2 ⟨(⟨A,b,cT (cT (cT (fun _=> []) 3 la1) 2 lm1) 3 lp1,0+5+4*r1.parts.length,r2,la2,lm2,lp2⟩:TopG),⟨rfl,hB1,by show 0+5+4*r1.parts.length+4*r2.parts.length≤999700;have:=hT1.2.2.2.1;have:=hT2.2.2.2.1;omega,hT2.1,hT2.2.1,hT2.2.2.1⟩,fun v A3 hq=> ?_⟩;have hB2:dn A A3 b (cT (cT (cT (cT (cT (cT (fun _=> []) 3 la1) 2 lm1) 3 lp1) 3 la2) 2 lm2) 3 lp2) (0+5+4*r1.parts.length+5+4*r2.parts.length):=hq;obtain⟨Y,hY⟩:∃Y,Y=cT (cT (cT (cT (cT (cT (fun _=> []) 3 la1) 2 lm1) 3 lp1) 3 la2) 2 lm2) 3 lp2:=⟨_,rfl⟩;have hY0:Y 0= []:=by rw [hY];rfl
 have hY1:Y 1= []:=by rw [hY];rfl
 have hY2:Y 2= [lm1,lm2].filter il:=by
  rw [hY];show([]++(if il lm1=true then [lm1]else []))++(if il lm2=true then [lm2]else [])=_
  rw [onL,onL,List.nil_append,←List.filter_append];rfl
 have hY3:Y 3= [la1,lp1,la2,lp2].filter il:=by
  rw [hY];show((([]++(if il la1=true then [la1]else []))++(if il lp1=true then [lp1]else []))++(if il la2=true then [la2]else []))++(if il lp2=true then [lp2]else [])=_
  rw [onL,onL,onL,onL,List.nil_append,←List.filter_append,←List.filter_append,←List.filter_append];rfl
 rw [←hY]at hB2;rw [List.filter_append,List.pairwise_append,←hY2,←hY3]at hpw;obtain⟨L,X,hBA,hXs⟩:=hB2;have hj4:∀j,j<4→j=0∨j=1∨j=2∨j=3:=fun j hj=>by omega
 have hap:=Ef (E:=E) hBA hXs (by have:=hT1.2.2.2.1;have:=hT2.2.2.2.1;omega) hE (fun j hj l hlY=>by
  rcases hj4 j hj with rfl|rfl|rfl|rfl
  ·rw [hY0]at hlY;cases hlY
  ·rw [hY1]at hlY;cases hlY
  ·rw [hY2]at hlY
   have hm:=(List.mem_filter.1 hlY).1;simp only [List.mem_cons,List.not_mem_nil,or_false]at hm;rcases hm with rfl|rfl
   ·exact⟨⟨_,hT1.2.2.1.1⟩,by have:=hT1.2.2.2.2;omega,hE0 l (by simp)⟩
   ·exact⟨⟨_,hT2.2.2.1.1⟩,by have:=hT2.2.2.2.2;omega,hE0 l (by simp)⟩
  ·rw [hY3]at hlY
   have hm:=(List.mem_filter.1 hlY).1;simp only [List.mem_cons,List.not_mem_nil,or_false]at hm;rcases hm with rfl|rfl|rfl|rfl
   ·exact⟨⟨_,hT1.1⟩,by rw [hT1.2.1];omega,hE0 l (by simp)⟩
   ·exact⟨⟨_,hT1.2.2.1.2.1⟩,by rw [←hT1.2.2.1.2.2];have:=hT1.2.2.2.1;omega,hE0 l (by simp)⟩
   ·exact⟨⟨_,hT2.1⟩,by rw [hT2.2.1];omega,hE0 l (by simp)⟩
   ·exact⟨⟨_,hT2.2.2.1.2.1⟩,by rw [←hT2.2.2.1.2.2];have:=hT2.2.2.2.1;omega,hE0 l (by simp)⟩) (fun j hj=>by
  rcases hj4 j hj with rfl|rfl|rfl|rfl
  ·rw [hY0];exact .nil
  ·rw [hY1];exact .nil
  ·exact hpw.2.1
  ·exact hpw.1) (fun i j hi hj hne x hx y hy=>by
  rcases hj4 i hi with rfl|rfl|rfl|rfl
  ·rw [hY0]at hx;cases hx
  ·rw [hY1]at hx;cases hx
  ·rcases hj4 j hj with rfl|rfl|rfl|rfl
   ·rw [hY0]at hy;cases hy
   ·rw [hY1]at hy;cases hy
   ·exact absurd rfl hne
   ·exact(hpw.2.2 y hy x hx).symm
  ·rcases hj4 j hj with rfl|rfl|rfl|rfl
   ·rw [hY0]at hy;cases hy
   ·rw [hY1]at hy;cases hy
   ·exact hpw.2.2 x hx y hy
   ·exact absurd rfl hne)
 conv=>lhs;whnf
 repeat(first|refine au hD rfl ?_
        conv=>lhs;whnf)
 refine(hD _).2 ⟨(⟨E,b,L,X⟩:ApG),⟨rfl,hap.1,hap.2⟩,fun v A4 hq=> ?_⟩;obtain⟨hs4,hv⟩:E.Sub A4∧v= .bool true:=hq;subst hv;have hend:wU.post (⟨E,r1,la1,lm1,lp1,r2,la2,lm2,lp2⟩:ArG) [] A (.bool true) A4:=⟨hs4,rfl⟩;conv=>lhs;whnf
 exact(hD _).2 hend
def gQ:aL:=⟨List UInt8,fun g vs A=>∃x,vs= [x]∧SlB A x g,fun g _ A v A'=>A.Sub A'∧SlB (A'.minus A) v g⟩
theorem ft{n:Nat}(h:0<0+n):Builtin.nextslicecap (0+n) 0=n:=by
 unfold Builtin.nextslicecap;rw [if_pos (by omega)];omega
theorem jm:FOk Tryz.prog 46 gQ:=by
 refine aS mixed fun bs vs A hp=> ?_
 simp only [gQ]at hp;obtain⟨x,rfl,⟨ao,c,rfl,hc,hl,ha1,ha2,ha3⟩,hxl⟩:=hp;refine⟨noC,noL,60,aj _,ak _,fun blk os out tape D hD=> ?_⟩;conv=>lhs;whnf
 refine aQ (fun hb=> ?_) (fun hb=> ?_)<;>(conv=>lhs;whnf)
 ·have h0:ao=none:=by simpa using hb
  have h1:=ha1 h0;have h2:bs= []:=List.length_eq_zero_iff.1 (by omega);subst h2;exact(hD _).2 ⟨aa.Sub.refl _,Sl.nil _ _,by simp⟩
 ·have h0:∃a,ao=some a:=by cases ao with
    |none=>simp at hb
    |some a=>exact⟨a,rfl⟩
  obtain⟨⟨g,o,sp⟩,rfl⟩:=h0
  have hsp:sp=none∨bs.length=0:=by
   rcases Nat.eq_zero_or_pos c with h|h
   ·right;omega
   ·left;exact ha2 _ rfl h
  rcases sp with _|sp
  all_goals
   refine(hD _).2 fun g1 A1 hN=> ?_
   conv=>lhs;whnf
   refine(hD _).2 ⟨[],bs.map bv,rfl,?_,hl,?_,by omega,?_,rfl,fun h=>(by cases h),fun _ _ _ h1 h2=> ?_,fun v A2 hA=> ?_⟩
   ·first
    |(show(if bs.length=0 then some []else A1.rd g o (bs.length*1))=_
      by_cases h0:bs.length=0
      ·rw [if_pos h0,List.length_eq_zero_iff.1 h0];rfl
      ·rw [if_neg h0];exact aJ hN.sub (ha3 (by omega) _ rfl))
    |(have h9:bs.length=0:=hsp.resolve_left (by simp)
      show(if bs.length=0 then some []else none)=_
      (rw [if_pos h9,List.length_eq_zero_iff.1 h9];rfl))
   ·intro v hv
    obtain⟨b,_,rfl⟩:=List.mem_map.1 hv;rfl
   ·intro h0
    rw [ft h0];show bs.length*1≤_
    omega
   ·exfalso
    have:bs.length=0:=by omega
    exact h2 (by rw [List.length_eq_zero_iff.1 this];rfl)
   ·obtain⟨k1,k2⟩:=er hN.sub hA hl
    conv=>lhs;whnf
    exact(hD _).2 ⟨k1,k2,hxl⟩
theorem gY(l:List bT):(bD l).length=l.length*4:=by
 unfold bD
 induction l with
 |nil=>rfl
 |cons m l ih=>simp only [List.map_cons,List.flatten_cons,List.length_append,ih,List.length_cons];simp [bT.cells];omega
theorem nW(l:List bT):∀v∈bD l,v.oneCell'=true:=fun v hv=>by
 obtain⟨r,hr,hv⟩:=List.mem_flatten.1 hv;obtain⟨m,_,rfl⟩:=List.mem_map.1 hr;simp only [bT.cells,List.mem_cons,List.not_mem_nil,or_false]at hv;rcases hv with rfl|rfl|rfl|rfl<;>rfl
def fm(l:List UInt8)(c:UInt8):Nat→Int
 |0=> -1
 |n+1=>if l[n]? =some c then n else fm l c n
def dc(l:List UInt8)(c:UInt8):Int:=fm l c l.length
theorem uJ(l:List UInt8)(c:UInt8):∀n, -1≤fm l c n∧fm l c n<n
 |0=>by simp [fm]
 |n+1=>by
  simp only [fm]
  split
  ·omega
  ·have:=uJ l c n
   omega
def lastInv(A:aa)(l:List UInt8)(c:UInt8):dE:= { γ:=Nat,G:=fun n=>n≤l.length∧fm l c n=dc l c,keepS:= [0,1],keepB:= [],sl:=fun n=> [(5,.v (.int .i64 ((n:Int)-1)))],bl:=fun _=> [],ar:=fun _=>A,mu:=fun n=>n }
def yi:aL:=⟨ByteArray×UInt8,fun g vs _=>vs= [.string g.1,.int .u8 g.2.toNat]∧g.1.data.toList.length≤140737488351232,fun g _ A v A'=>A'=A∧v= .int .i64 (dc g.1.data.toList g.2)⟩
theorem last_ok:FOk Tryz.prog 195 yi:=by
 refine aS mixed fun⟨s,c⟩ vs A hp=> ?_
 simp only [yi]at hp;obtain⟨rfl,hsz⟩:=hp;refine⟨noC,da Tryz.prog noC noL 60 [(195,0)],60,aj _,aH mixed (aj _) (ak _) _ _,fun blk os out tape D hD=> ?_⟩;conv=>lhs;whnf
 have hw0:IntKind.i64.wrap ((s.data.toList.length:Int)-1)=(s.data.toList.length:Int)-1:=AY (by omega) (by omega);refine(hD _).2 ⟨lastInv A s.data.toList c,⟨s.data.toList.length,⟨Nat.le_refl _,rfl⟩,⟨congrArg (fun x=>some (SV.v (.int .i64 x))) hw0,trivial⟩,trivial,rfl⟩,fun(n:Nat) hn=>⟨⟨trivial,trivial⟩,trivial,?_⟩⟩;obtain⟨hn,hl⟩:n≤s.data.toList.length∧fm s.data.toList c n=dc s.data.toList c:=hn;conv=>lhs;whnf
 refine ab (fun h0=> ?_) (fun h0=> ?_)
 ·obtain⟨m,rfl⟩:∃m,n=m+1:=⟨n-1,by omega⟩
  have h1:((m+1:Nat):Int)-1=(m:Int):=by omega
  conv=>lhs;whnf
  refine aq ⟨by omega,by show((m+1:Nat):Int)-1<(s.data.toList.length:Int);omega⟩ ?_;conv=>lhs;whnf
  have hg:s.data.toList.getD (((m+1:Nat):Int)-1).toNat 0=s.data.toList[m]:=by
   rw [h1,Int.toNat_natCast,List.getD_eq_getElem?_getD,List.getElem?_eq_getElem (by omega)];rfl
  have hgm:s.data.toList[m]? =some s.data.toList[m]:=List.getElem?_eq_getElem (by omega);refine ab (fun he=> ?_) (fun he=> ?_)
  ·conv=>lhs;whnf
   have he:(s.data.toList[m]).toNat=c.toNat:=by rw [←hg];exact Int.ofNat.inj he
   have hc:s.data.toList[m]=c:=UInt8.toNat_inj.1 he;refine(hD _).2 ⟨rfl,?_⟩;rw [←hl,h1];simp only [fm,hgm,hc,if_true]
  ·conv=>lhs;whnf
   have hc:s.data.toList[m]≠c:=fun e=>he (by rw [hg,e])
   have hw:IntKind.i64.wrap (((m+1:Nat):Int)-1-1)=(m:Int)-1:=by rw [h1];exact AY (by omega) (by omega)
   refine(hD _).2 ⟨m,⟨⟨by omega,?_⟩,⟨congrArg (fun x=>some (SV.v (.int .i64 x))) hw,trivial⟩,trivial,rfl⟩,by show m<m+1;omega,⟨rfl,rfl,trivial⟩,trivial⟩;rw [←hl];simp only [fm,hgm,Option.some.injEq,hc,if_false]
 ·conv=>lhs;whnf
  have:n=0:=by omega
  subst this;exact(hD _).2 ⟨rfl,by rw [←hl];rfl⟩
theorem DA:FOk Tryz.prog 174 yi:=by
 refine aS mixed fun⟨s,c⟩ vs A hp=> ?_
 obtain⟨rfl,hsz⟩:vs= [.string s,.int .u8 c.toNat]∧s.data.toList.length≤140737488351232:=hp
 have hC:aF Tryz.prog (bu [aE 195 yi] noC):=az (aj _) (fun x hx=>by
  simp only [List.mem_singleton]at hx
  subst hx;exact ai last_ok)
 refine⟨_,noL,60,hC,ak _,fun blk os out tape D hD=> ?_⟩;conv=>lhs;whnf
 refine(hD _).2 ⟨(s,c),⟨rfl,hsz⟩,fun v A' hq=> ?_⟩;obtain⟨rfl,rfl⟩:A'=A∧v= .int .i64 (dc s.data.toList c):=hq;conv=>lhs;whnf
 exact(hD _).2 ⟨rfl,rfl⟩
def jk(l:List UInt8):List UInt8×List UInt8:=
 if bO l=true∧l≠ [47]then(l.take (max (dc l 47) 1).toNat,l.drop (dc l 47+1).toNat)else([], [])
theorem kZ{l:List UInt8}(h:bO l=true):∃q,l=47::q∧q.length<200∧0≤dc l 47:=by
 unfold bO at h
 split at h
 ·rename_i q
  simp only [Bool.and_eq_true,decide_eq_true_eq]at h;refine⟨q,rfl,h.1,?_⟩
  have key:∀n,0≤fm (47::q) 47 (n+1):=fun n=>by
   induction n with
   |zero=>simp [fm]
   |succ n ih=>
    rw [fm]
    split
    ·omega
    ·exact ih
  exact key q.length
 ·cases h
def cutS:aL:=⟨ByteArray,fun s vs _=>vs= [.string s],fun s _ A v A'=>A'=A∧v= .tuple #[.string ⟨(jk s.data.toList).1.toArray⟩,.string ⟨(jk s.data.toList).2.toArray⟩]⟩
theorem cut_ok:FOk Tryz.prog 134 cutS:=by
 refine aS mixed fun s vs A hp=> ?_
 obtain rfl:vs= [.string s]:=hp
 have hC:aF Tryz.prog (bu [aE 174 yi] C0):=az tA (fun x hx=>by
  simp only [List.mem_singleton]at hx
  subst hx;exact ai DA)
 refine⟨_,noL,60,hC,ak _,fun blk os out tape D hD=> ?_⟩;conv=>lhs;whnf
 have key:bO s.data.toList=true∨bO s.data.toList=false:=by cases bO s.data.toList<;>simp
 rcases key with hk|hk
 ·refine aQ (fun hb=>absurd hb (by simp [hk])) (fun _=> ?_)
  obtain⟨q,hl,hq,hi0⟩:=kZ hk;conv=>lhs;whnf
  refine aQ (fun hb=> ?_) (fun hb=> ?_)<;>(conv=>lhs;whnf)
  ·have h1:s.data.toList= [47]:=bh.1 hb
   refine(hD _).2 ⟨rfl,?_⟩;rw [jk,if_neg (by simp [h1])]
  ·have h1:s.data.toList≠ [47]:=fun h=>by
     have:eW s.data.toList [47]=true:=bh.2 h;exact absurd (this.symm.trans hb) (by simp)
   refine(hD _).2 ⟨(s,47),⟨rfl,by rw [hl,List.length_cons];omega⟩,fun v A' hq=> ?_⟩;obtain⟨rfl,rfl⟩:A'=A∧v= .int .i64 (dc s.data.toList 47):=hq;conv=>lhs;whnf
   have hlt:dc s.data.toList 47<(s.data.toList.length:Int):=(uJ _ _ _).2;have hlen:1≤s.data.toList.length:=by rw [hl,List.length_cons];omega
   have hlen2:s.data.toList.length≤200:=by rw [hl,List.length_cons];omega
   have hmx:(bif decide (dc s.data.toList 47<1)then 1 else dc s.data.toList 47)=max (dc s.data.toList 47) 1:=by
    by_cases h9:dc s.data.toList 47<1
    ·simp only [h9,decide_true,cond_true];omega
    ·simp only [h9,decide_false,cond_false];omega
   have hw:IntKind.i64.wrap (dc s.data.toList 47+1)=dc s.data.toList 47+1:=AY (by omega) (by omega);refine cK ?_ ?_
   ·simp only [cond_true,hmx,Bool.and_eq_true,decide_eq_true_eq,Bool.or_eq_true]
    omega
   conv=>lhs;whnf
   refine cK ?_ ?_
   ·simp only [hw,Bool.and_eq_true,decide_eq_true_eq,Bool.or_eq_true]
    omega
   conv=>lhs;whnf
   refine(hD _).2 ⟨rfl,?_⟩;rw [jk,if_pos ⟨hk,h1⟩];simp only [cond_true,hmx,hw];simp;exact List.take_of_length_le (by simp)
 ·refine cK (by simp [hk]) ?_
  conv=>lhs;whnf
  refine(hD _).2 ⟨rfl,?_⟩;rw [jk,if_neg (by simp [hk])]
def aR(s:ByteArray):ByteArray:=⟨(jk s.data.toList).1.toArray⟩
def oB(s:ByteArray):ByteArray:=⟨(jk s.data.toList).2.toArray⟩
def qN:aL:=⟨ByteArray,fun s vs _=>vs= [.string s],fun s _ A v A'=>A'=A∧v= .string (aR s)⟩
def baseS:aL:=⟨ByteArray,fun s vs _=>vs= [.string s],fun s _ A v A'=>A'=A∧v= .string (oB s)⟩
theorem cutC:aF Tryz.prog (bu [aE 134 cutS] noC):=az (aj _) (fun x hx=>by
 simp only [List.mem_singleton]at hx
 subst hx;exact ai cut_ok)
theorem pf:FOk Tryz.prog 96 qN:=by
 refine aS mixed fun s vs A hp=> ?_
 obtain rfl:vs= [.string s]:=hp;refine⟨_,noL,60,cutC,ak _,fun blk os out tape D hD=> ?_⟩;conv=>lhs;whnf
 refine(hD _).2 ⟨s,rfl,fun v A' hq=> ?_⟩;obtain⟨rfl,rfl⟩:A'=A∧v= .tuple #[.string ⟨(jk s.data.toList).1.toArray⟩,.string ⟨(jk s.data.toList).2.toArray⟩]:=hq;conv=>lhs;whnf
 exact(hD _).2 ⟨rfl,rfl⟩
theorem base_ok:FOk Tryz.prog 123 baseS:=by
 refine aS mixed fun s vs A hp=> ?_
 obtain rfl:vs= [.string s]:=hp;refine⟨_,noL,60,cutC,ak _,fun blk os out tape D hD=> ?_⟩;conv=>lhs;whnf
 refine(hD _).2 ⟨s,rfl,fun v A' hq=> ?_⟩;obtain⟨rfl,rfl⟩:A'=A∧v= .tuple #[.string ⟨(jk s.data.toList).1.toArray⟩,.string ⟨(jk s.data.toList).2.toArray⟩]:=hq;conv=>lhs;whnf
 exact(hD _).2 ⟨rfl,rfl⟩
def cR(last:Int)(m:bT):Bool:=
 if m.id≤last∨7<m.id then false
 else if m.role=2 then decide (m.weight=0∧m.group=0)
 else decide (m.role=1∧0≤m.weight∧m.weight≤1000∧0≤m.group∧m.group<7)
theorem kn(last:Int)(m:bT):cR last m=true↔last<m.id∧m.id≤7∧((m.role=2∧m.weight=0∧m.group=0)∨(m.role=1∧0≤m.weight∧m.weight≤1000∧0≤m.group∧m.group<7)):=by
 unfold cR
 split
 ·simp;omega
 ·split
  ·simp;omega
  ·simp;omega
def fL(last w:Int):List bT→Option (Int×Int)
 | []=>some (last,w)
 |m::ms=>if cR last m=true then fL m.id (w+m.weight) ms else none
def jj(ver:Int)(ms:List bT):Int:=
 if 7<ms.length then 3 else match fL 0 0 ms with
  |none=>140
  |some (_,w)=>if w=0∨ver<0∨4611686018427387904<ver then 140 else 0
theorem zV{A:aa}{g o n:Nat}{l:List bT}(h:A.rd g o (n*4)=some (bD l))(k:Nat)(hk:k<l.length)(hn:n=l.length):A.rd g (o+k*4) 4=some [.int .i64 l[k].id,.int .u8 l[k].role,.int .i64 l[k].weight,.int .i64 l[k].group]:=by
 have:=lU (rows:=l.map bT.cells) h (mF l) k (by simpa using hk) (by simpa using hn);simpa [bT.cells]using this
def ensS:aL:=⟨Int×List bT,fun g vs A=>∃vm,vs= [.agg #[.int .i64 g.1,vm]]∧kD A vm g.2,fun g _ A v A'=>A'=A∧v= .int .i64 (jj g.1 g.2)⟩
def Ge(A:aa)(ms:List bT):dE:= { γ:=Nat×Int×Int,G:=fun s=>s.1≤ms.length∧fL s.2.1 s.2.2 (ms.drop s.1)=fL 0 0 ms∧0≤s.2.2∧s.2.2≤1000*s.1,keepS:= [1,3,5,14,15],keepB:= [0],sl:=fun s=> [(4,.v (.int .i64 s.2.2)),(16,.v (.int .i64 s.1))],bl:=fun s=> [(1,.cells [.v (.int .i64 s.2.1)] 0 (3+1))],ar:=fun _=>A,mu:=fun s=>ms.length-s.1 }
theorem ens_ok:FOk Tryz.prog 75 ensS:=by
 refine aS mixed fun⟨ver,ms⟩ vs A hp=> ?_
 simp only [ensS]at hp;obtain⟨vm,rfl,⟨ao,c,rfl,hc,hl,ha1,ha2,ha3⟩,hxl⟩:=hp;refine⟨noC,da Tryz.prog noC noL 60 [(75,0)],60,aj _,aH mixed (aj _) (ak _) _ _,fun blk os out tape D hD=> ?_⟩;conv=>lhs;whnf
 refine ab (fun h7=> ?_) (fun h7=> ?_)<;>(conv=>lhs;whnf)
 ·refine(hD _).2 ⟨rfl,?_⟩
  have h7:(7:Int)<ms.length:=h7;rw [jj,if_pos (show 7<ms.length by omega)]
 have h7:¬(7:Int)<ms.length:=h7;refine(hD _).2 ⟨Ge A ms,⟨(0,0,0),⟨Nat.zero_le _,rfl,by simp,by simp⟩,⟨rfl,rfl,trivial⟩,⟨rfl,trivial⟩,rfl⟩,fun⟨k,last,w⟩ hG=>⟨⟨trivial,trivial,trivial⟩,⟨Nat.lt_succ_self 1,⟨trivial,trivial⟩,trivial⟩,?_⟩⟩;obtain⟨hk,hgo,hw0,hw1⟩:k≤ms.length∧fL last w (ms.drop k)=fL 0 0 ms∧0≤w∧w≤1000*k:=hG;conv=>lhs;whnf
 refine ab (fun hlt=> ?_) (fun hlt=> ?_)
 ·have hkn:k<ms.length:=by
    have hlt:(k:Int)<ms.length:=hlt;omega
  obtain⟨g,o,rfl,hra⟩:=Sl.at_ hc ha1 ha2 ha3 (by omega);conv=>lhs;whnf
  refine aq ⟨by show(0:Int)≤(k:Int);omega,hlt⟩ ?_;conv=>lhs;whnf
  refine af (zV hra k hkn rfl) ?_;have hdrop:ms.drop k=ms[k]::ms.drop (k+1):=List.drop_eq_getElem_cons hkn;rw [hdrop]at hgo;generalize ms[k]=m at hgo;obtain⟨id,role,weight,group⟩:=m
  have bad:¬(last<id∧id≤7∧((role=2∧weight=0∧group=0)∨(role=1∧0≤weight∧weight≤1000∧0≤group∧group<7)))→Value.int .i64 140= .int .i64 (jj ver ms):=fun h=>by
   have hm:¬cR last ⟨id,role,weight,group⟩=true:=fun hm=>h ((kn _ _).1 hm)
   rw [jj,if_neg (by omega),←hgo,fL,if_neg hm]
  have good:last<id→id≤7→((role=2∧weight=0∧group=0)∨(role=1∧0≤weight∧weight≤1000∧0≤group∧group<7))→IntKind.i64.wrap (w+weight)=w+weight∧(Ge A ms).G (k+1,id,w+weight):=fun h1 h2 h3=>by
   have hm:cR last ⟨id,role,weight,group⟩=true:=(kn _ _).2 ⟨h1,h2,h3⟩;rw [fL,if_pos hm]at hgo;exact⟨AY (by omega) (by omega),by show k+1≤ms.length;omega,hgo,by show 0≤w+weight;omega,by show w+weight≤1000*((k+1:Nat):Int);omega⟩
  clear hgo hdrop hra ha1 ha2 ha3;conv=>lhs;whnf
  repeat' (first
   |exact(hD _).2 ⟨rfl,bad (by dsimp only at*;omega)⟩
   |(have hg:=good (by dsimp only at*;omega) (by dsimp only at*;omega) (by dsimp only at*;omega)
     exact(hD _).2 ⟨(k+1,id,w+weight),⟨hg.2,⟨congrArg (fun x=>some (SV.v (.int .i64 x))) hg.1,av (by omega),trivial⟩,⟨rfl,trivial⟩,rfl⟩,by show ms.length-(k+1)<ms.length-k;omega,⟨rfl,rfl,rfl,rfl,rfl,trivial⟩,⟨rfl,trivial⟩⟩)
   |(refine cL (fun _=> ?_) (fun _=> ?_)<;>(conv=>lhs;whnf))
   |(refine ab (fun _=> ?_) (fun _=> ?_)<;>(conv=>lhs;whnf))
   |(refine aq ⟨by show(0:Int)≤(k:Int);omega,hlt⟩ ?_;conv=>lhs;whnf))
 ·conv=>lhs;whnf
  have hkn:k=ms.length:=by
   have hlt:¬(k:Int)<ms.length:=hlt;omega
  subst hkn;rw [List.drop_eq_nil_of_le (Nat.le_refl _),fL]at hgo
  have fin1:(w=0∨ver<0∨4611686018427387904<ver)→Value.int .i64 140= .int .i64 (jj ver ms):=fun h=>by
   rw [jj,if_neg (by omega),←hgo];dsimp only;rw [if_pos h]
  have fin2:¬(w=0∨ver<0∨4611686018427387904<ver)→Value.int .i64 0= .int .i64 (jj ver ms):=fun h=>by
   rw [jj,if_neg (by omega),←hgo];dsimp only;rw [if_neg h]
  repeat' (first
   |exact(hD _).2 ⟨rfl,fin1 (by dsimp only at*;omega)⟩
   |exact(hD _).2 ⟨rfl,fin2 (by dsimp only at*;omega)⟩
   |(refine ab (fun _=> ?_) (fun _=> ?_)<;>(conv=>lhs;whnf)))
end
end Go.Proofs.YtphigpccfbfnoaaGreatDoor
namespace Go.Sx
noncomputable section
structure bJ where
 zxid:Int
 kind:Int
 ses:Int
 ah:Int
 xid:Int
 time:Int
 path:ByteArray
 data:List UInt8
 owner:Int
 ver:Int
 cver:Int
 tmo:Int
 err:Int
 cfg:Int
 mem:List bT
inductive aB where
 |mk (h:bJ) (parts:List aB)
def aB.h:aB→bJ| .mk h _=>h
def aB.parts:aB→List aB| .mk _ p=>p
def bJ.cells(h:bJ)(vd vm vp:Value):List Value:= [.int .i64 h.zxid,.int .u8 h.kind,.int .i64 h.ses,.int .i64 h.ah,.int .i64 h.xid,.int .i64 h.time,.string h.path,vd,.int .i64 h.owner,.int .i64 h.ver,.int .i64 h.cver,.int .i64 h.tmo,.int .i64 h.err,.int .i64 h.cfg,vm,vp]
mutual
def bj(B:aa):aB→List Value→Prop
 | .mk h parts,cs=>∃vd vm vp rows,cs=h.cells vd vm vp∧h.path.data.toList.length≤140737488351232∧SlB B vd h.data∧kD B vm h.mem∧Sl B 16 parts.length vp rows.flatten∧parts.length*184≤140737488351232∧cS B parts rows
def cS(B:aa):List aB→List (List Value)→Prop
 | [],rows=>rows= []
 |d::ds,rows=>∃r rs,rows=r::rs∧bj B d r∧cS B ds rs
end
def gi(B:aa)(v:Value)(ds:List aB):Prop:=∃rows,Sl B 16 ds.length v rows.flatten∧ds.length*184≤140737488351232∧cS B ds rows
theorem bj.len{B:aa}{d:aB}{cs:List Value}(h:bj B d cs):cs.length=16:=by
 cases d
 obtain⟨vd,vm,vp,rows,rfl,_⟩:=h;rfl
theorem bj.form{B:aa}{d:aB}{cs:List Value}(h:bj B d cs):∃a7 l7 k7 a14 l14 k14 a15 l15 k15,cs=d.h.cells (.slice a7 l7 k7) (.slice a14 l14 k14) (.slice a15 l15 k15):=by
 obtain⟨hd,parts⟩:=d;obtain⟨vd,vm,vp,rows,rfl,_,⟨h1,_⟩,⟨h2,_⟩,h3,_⟩:=h;obtain⟨a5,k5,rfl⟩:=h1.form;obtain⟨a13,k13,rfl⟩:=h2.form;obtain⟨a14,k14,rfl⟩:=h3.form;exact⟨_,_,_,_,_,_,_,_,_,rfl⟩
theorem cS.length{B:aa} :∀ {ds:List aB} {rows:List (List Value)},cS B ds rows→rows.length=ds.length
 | [],_,h=>by simp [cS]at h;subst h;rfl
 |d::ds,rows,h=>by
  obtain⟨r,rs,rfl,_,h⟩:=h;simp [cS.length h]
theorem cS.lens{B:aa} :∀ {ds:List aB} {rows:List (List Value)},cS B ds rows→∀r∈rows,r.length=16
 | [],_,h=>by simp [cS]at h;subst h;simp
 |d::ds,rows,h=>by
  obtain⟨r,rs,rfl,h1,h2⟩:=h;intro x hx;rcases List.mem_cons.1 hx with rfl|hx
  ·exact h1.len
  ·exact cS.lens h2 x hx
theorem cS.at_{B:aa} :∀ {ds:List aB} {rows:List (List Value)},cS B ds rows→∀(k:Nat) (h1:k<ds.length) (h2:k<rows.length),bj B ds[k] rows[k]
 | [],_,_,k,h1,_=>by simp at h1
 |d::ds,rows,h,k,h1,h2=>by
  obtain⟨r,rs,rfl,h3,h4⟩:=h
  cases k with
  |zero=>exact h3
  |succ k=>exact cS.at_ h4 k (by simpa using h1) (by simpa using h2)
mutual
theorem bj.sub{A B:aa}(h:B.Sub A):∀(d:aB) (cs:List Value),bj B d cs→bj A d cs
 | .mk _ parts,cs,hr=>by
   obtain⟨vd,vm,vp,rows,h1,h0,h2,h3,h4,h5,h6⟩:=hr;exact⟨vd,vm,vp,rows,h1,h0,h2.sub h,h3.sub h,h4.sub h,h5,cS.sub h parts rows h6⟩
theorem cS.sub{A B:aa}(h:B.Sub A):∀(ds:List aB) (rows:List (List Value)),cS B ds rows→cS A ds rows
 | [],_,hr=>hr
 |d::ds,rows,hr=>by
  obtain⟨r,rs,h1,h2,h3⟩:=hr;exact⟨r,rs,h1,bj.sub h d r h2,cS.sub h ds rs h3⟩
end
theorem fD{A:aa}{g o n:Nat}{ds:List aB}{rows:List (List Value)}(h:A.rd g o (n*16)=some rows.flatten)(hr:cS A ds rows)(k:Nat)(hk:k<ds.length)(hn:n=ds.length):∃cs,A.rd g (o+k*16) 16=some cs∧bj A ds[k] cs:=by
 have hl:=hr.length;exact⟨_,lU h hr.lens k (by omega) (by omega),hr.at_ k hk (by omega)⟩
def bx(cs:List Value):Value:= .agg cs.toArray
end
end Go.Sx
namespace Go.Proofs.YtphigpccfbfnoaaGreatDoor
open Go.Sx Go.RowKit
noncomputable section
open Classical
def fp:List Nat:= [0,23,17,11,32,260,0,128,256,64]
def gT(A:aa):Prop:=A.rd 0 0 10=some (fp.map fun n=> .int .i64 (n:Nat))
theorem gT.sub{A B:aa}(h:gT B)(hs:B.Sub A):gT A:=aJ hs h
theorem gT.at_{A:aa}(h:gT A)(k:Nat)(hk:k<10):A.rd 0 (0+k*1) 1=some [.int .i64 ((fp.getD k 0:Nat):Int)]:=by
 have:=cU (i:=k) (m:=1) h (by omega);rw [Nat.mul_one,this]
 match k,hk with
 |0,_|1,_|2,_|3,_|4,_|5,_|6,_|7,_|8,_|9,_=>rfl
def iq(k:Int)(i:Nat):Prop:=fp.getD k.toNat 0/2^i%2=1
def cu(h:bJ)(np:Nat):Prop:=
 (1≤h.kind∧h.kind≤9)∧(iq h.kind 0∨h.path.data.toList= [])∧(iq h.kind 1∨h.data.length=0)∧(iq h.kind 2∨h.owner=0)∧(iq h.kind 3∨h.ver=0)∧(iq h.kind 4∨h.cver=0)∧
 (iq h.kind 5∨h.tmo=0)∧(iq h.kind 6∨h.err=0)∧(iq h.kind 8∨np=0)∧(iq h.kind 7∨(h.cfg=0∧h.mem.length=0))∧
 (iq h.kind 0→bO h.path.data.toList=true)∧h.data.length≤1000∧0≤h.owner∧0≤h.ver∧0≤h.cver∧
 (h.kind=1∨h.kind=2→h.path.data.toList≠ [47])∧(h.kind=4→1≤h.tmo∧h.tmo≤1000)∧(h.kind=5→1≤h.owner)∧(h.kind=9→1≤h.err)
def dU:aL:=⟨aB,fun d vs A=>∃cs,vs= [bx cs]∧bj A d cs∧gT A,fun d _ A v A'=>A'=A∧v= .bool (decide (cu d.h d.parts.length))⟩
end
end Go.Proofs.YtphigpccfbfnoaaGreatDoor
