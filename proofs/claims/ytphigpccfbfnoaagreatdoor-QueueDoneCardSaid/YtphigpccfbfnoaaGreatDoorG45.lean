/-
  Parts of the proof: ApM LfA DuA
-/
import Derived.Test.YtphigpccfbfnoaaGreatDoorG39
import Derived.Test.YtphigpccfbfnoaaGreatDoorG42
import Derived.Test.YtphigpccfbfnoaaGreatDoorG29
import Derived.Test.YtphigpccfbfnoaaGreatDoorG30
import Derived.Test.YtphigpccfbfnoaaGreatDoorG43
import Derived.Test.YtphigpccfbfnoaaGreatDoorG37
import Derived.Test.YtphigpccfbfnoaaGreatDoorG44
import Derived.Test.YtphigpccfbfnoaaGreatDoorG15
import Derived.ChangeArms
import Derived.DataReads
import Derived.SizedLaws
import Derived.Test.YtphigpccfbfnoaaGreatDoorG24
set_option maxRecDepth 100000
set_option maxHeartbeats 0
namespace Go.Proofs.YtphigpccfbfnoaaGreatDoor
open Go.Sx Go.RowKit
noncomputable section
open Classical
structure QdT where
 k:Nat
 A:aa
 Ba:aa
 Oa:Nat→Prop
 T:aT
 Bb:aa
 Ob:Nat→Prop
 N:List aC
 S:List bb
structure uY(A0:aa)(ta rb n:Nat)(s:QdT):Prop where
 le:s.k≤n
 a:bz s.A s.Ba s.Oa ta s.T
 b:bC s.A s.Bb s.Ob rb s.N s.S
 ap:ic s.Ba s.Oa s.Bb s.Ob
 sa:Aside s.A A0 s.Oa
 sb:Aside s.A A0 s.Ob
 rt:RT s.T s.N s.S
 keys:gg s.T
 na:s.T.nodes.length≤1+s.k*81
 ea:s.T.aK.length≤s.k*2
def qdInv(A0:aa)(ta rb n:Nat):dE:= { γ:=QdT,G:=uY A0 ta rb n,keepS:= [0,1,5,7,8],keepB:= [0],sl:=fun s=> [(9,.v (.int .i64 s.k))],bl:=fun _=> [],ar:=fun s=>s.A,mu:=fun s=>n-s.k }
def E4:aL:=⟨List aB×Int×aB,fun g vs A=>∃v cs,vs= [v,.int .u8 g.2.1,bx cs]∧gi A v g.1∧bj A g.2.2 cs∧gT A,fun _ _ A v A'=>A.Sub A'∧v= .bool true⟩
theorem share8{G:Prop}{α β γ:Type}(Pre:α→Nat→Nat→Nat→Nat→β→β→γ→Prop){P:α→Nat→Nat→Nat→Nat→β→β→γ→Prop}(h:(∀a b c d e f g i,Pre a b c d e f g i→P a b c d e f g i)→G)(k:∀a b c d e f g i,Pre a b c d e f g i→P a b c d e f g i):G:=h k
structure TwoR(B2 B4:aa)(r:ek)(lm lp km kp:LsD):Prop where
 sub:B2.Sub B4
 x:WhR B4 r lm lp
 y:WhR B4 r km kp
 nx:∀g,lm.g=some g∨lp.g=some g→B2.blk g=none
 ny:∀g,km.g=some g∨kp.g=some g→B2.blk g=none
 dx:jq lm lp
 dy:jq km kp
 xy:∀g,lm.g=some g∨lp.g=some g→km.g≠some g∧kp.g≠some g
 yx:∀g,km.g=some g∨kp.g=some g→lm.g≠some g∧lp.g≠some g
theorem two_of{B2 B3 B4:aa}{r:ek}{lm lp km kp:LsD}(t3:B2.Sub B3)(hx:WhR B3 r lm lp)(mx:∀g,lm.g=some g→B2.blk g=none)(px:∀g,lp.g=some g→B2.blk g=none)(dx:jq lm lp)(t4:B3.Sub B4)(hy:WhR B4 r km kp)(my:∀g,km.g=some g→B3.blk g=none)(py:∀g,kp.g=some g→B3.blk g=none)(dy:jq km kp):TwoR B2 B4 r lm lp km kp:=by
 have live:∀g,lm.g=some g∨lp.g=some g→∃o,B3.blk g=some o:=fun g hg=>hg.elim (fun h=>hx.1.live h) fun h=>hx.2.1.live h
 have xy:∀g,lm.g=some g∨lp.g=some g→km.g≠some g∧kp.g≠some g:=fun g hg=>by
  obtain⟨o,ho⟩:=live g hg;exact⟨fun h=>(by rw [my g h]at ho;cases ho),fun h=>(by rw [py g h]at ho;cases ho)⟩
 refine⟨t3.trans t4,hx.bk fun g o _ ho=>t4 g o ho,hy,fun g hg=>hg.elim (mx g) (px g),fun g hg=> ?_,dx,dy,xy,fun g hg=>⟨fun h=> ?_,fun h=> ?_⟩⟩
 ·have h3:=hg.elim (my g) (py g)
  cases h:B2.blk g with
  |none=>rfl
  |some o=>rw [t3 g o h]at h3;cases h3
 ·exact hg.elim (fun h'=>(xy g (.inl h)).1 h') fun h'=>(xy g (.inl h)).2 h'
 ·exact hg.elim (fun h'=>(xy g (.inr h)).1 h') fun h'=>(xy g (.inr h)).2 h'
theorem lj{A B:aa}(h:A.Sub B){g:Nat}(hg:B.blk g=none):A.blk g=none:=by
 cases e:A.blk g with
 |none=>rfl
 |some o=>rw [h g o e]at hg;cases hg
theorem E3:FOk Tryz.prog 3 E4:=by
 refine aS mixed fun⟨(ds:List aB),kd,dl⟩ vs A hp=> ?_
 obtain⟨v,csl,rfl,⟨rows,hS,hlen,hR⟩,hdl,hHas⟩:∃v cs,vs= [v,.int .u8 kd,bx cs]∧gi A v ds∧bj A dl cs∧gT A:=hp;obtain⟨ao,c,rfl,hc,hl,ha1,ha2,ha3⟩:=hS;obtain⟨la7,ll7,lk7,la14,ll14,lk14,la15,ll15,lk15,hcl⟩:=hdl.form;subst hcl
 have hds:∀n,n≤ds.length→∀k,k<n→∃g0 o dd cs,ao=some ⟨g0,o,none⟩∧A.rd g0 (o+k*16) 16=some cs∧bj A dd cs:=fun n hn k hk=>by
  obtain⟨g0,o,e,hra⟩:=Sl.at_ hc ha1 ha2 ha3 (by omega);obtain⟨cs,h1,h2⟩:=fD hra hR k (by omega) rfl;exact⟨g0,o,_,cs,e,h1,h2⟩
 have hcap:80<ds.length→∃g0 o c',ao=some ⟨g0,o,none⟩∧c=c'+1∧80≤c'+1:=fun h=>by
  obtain⟨g0,o,e,_⟩:=Sl.at_ hc ha1 ha2 ha3 (by omega);exact⟨g0,o,c-1,e,by omega,by omega⟩
 clear ha1 ha2 ha3 hR hlen rows hl;obtain⟨n0,hn0⟩:∃n0,n0=ds.length:=⟨_,rfl⟩;rw [←hn0]at hc hds hcap ⊢
 have hC:aF Tryz.prog (bu [aE 7 GI,aE 4 newS,aE 8 GL,aE 6 El,aE 5 EJ,aE 9 jB,aE 11 iu,aE 12 fS,aE 10 rp,aE 13 lentDeedS',aE 15 keptDeedS',aE 17 overDeedS',aE 14 Gq,aE 16 ED,aE 18 wU] noC):=az (aj _) (fun x hx=>by
  simp only [List.mem_cons,List.not_mem_nil,or_false]at hx;rcases hx with rfl|rfl|rfl|rfl|rfl|rfl|rfl|rfl|rfl|rfl|rfl|rfl|rfl|rfl|rfl
  ·exact ai GH
  ·exact ai Fs
  ·exact ai GK
  ·exact ai wide_ok
  ·exact ai rnew_ok
  ·exact ai zH
  ·exact ai DV
  ·exact ai zE
  ·exact ai vr
  ·exact ai yg
  ·exact ai yp
  ·exact ai xT
  ·exact ai copy_ok
  ·exact ai same_ok
  ·exact ai Ee)
 refine⟨_,da Tryz.prog _ noL 60 [(3,0)],60,hC,aH mixed hC (ak _) _ _,fun blk os' out tape D hD=> ?_⟩;clear hc hn0;revert ao n0 c;apply share8 (fun(ao:Option Addr) (n c ta rb:Nat) (A1 A2:aa) (s:QdT)=>n≤80∧(∀k,k<n→∃g0 o dd cs,ao=some ⟨g0,o,none⟩∧A.rd g0 (o+k*16) 16=some cs∧bj A dd cs)∧uY A ta rb n s)
 ·intro key8 ao c n0 hcap hds
  conv=>lhs;whnf
  refine ab (fun h80=> ?_) (fun h80=> ?_);rotate_left
  ·have h80:n0≤80:=by
     have h80:¬(80:Int)<(n0:Int):=h80;omega
   have hrow:=hds n0 (by omega);refine(hD _).2 ⟨(),rfl,fun v A1 hq=> ?_⟩;obtain⟨ta,O1,hv,hT1,s1,hO1⟩:∃t O,v= .pointer (some ⟨t,0,none⟩)∧bz A1 aa.void O t cg∧A.Sub A1∧∀k,O k→A.blk k=none:=hq;subst hv;conv=>lhs;whnf
   refine(hD _).2 ⟨(),rfl,fun v A2 hq=> ?_⟩;obtain⟨rb,O2,hv,hT2,s2,hO2⟩:∃r O,v= .pointer (some ⟨r,0,none⟩)∧bC A2 aa.void O r mR []∧A1.Sub A2∧∀k,O k→A1.blk k=none:=hq;subst hv
   have hap0:ic aa.void O1 aa.void O2:=by
    obtain⟨m,s',E,h⟩:=hT1;refine⟨fun k h1 h2=> ?_,fun k o hb _=>(by cases hb),fun k o hb _=>(by cases hb)⟩;obtain⟨o,ho⟩:=h.live k h1;rw [hO2 k h2]at ho;cases ho
   conv=>lhs;whnf
   have hI0:uY A ta rb n0 ⟨0,A2,aa.void,O1,cg,aa.void,O2,mR, []⟩:=
    ⟨Nat.zero_le _,bM hT1 s2,hT2,hap0,⟨s1.trans s2,fun k o hk hO=>(by rw [hO1 k hO]at hk;cases hk)⟩,⟨s1.trans s2,fun k o hk hO=>(by have:=s1 _ _ hk;rw [hO2 k hO]at this;cases this)⟩,EG,yl,by show 1≤1+0*81;omega,by show 0≤0*2;omega⟩
   refine(hD _).2 ⟨qdInv A ta rb n0,⟨(⟨0,A2,aa.void,O1,cg,aa.void,O2,mR, []⟩:QdT),hI0,⟨rfl,trivial⟩,trivial,rfl⟩,fun(s:QdT) hG=>⟨⟨trivial,trivial⟩,trivial,key8 ao n0 c ta rb A1 A2 s ⟨h80,hrow,hG⟩⟩⟩
  ·have h80:80<n0:=by
     have h80:(80:Int)<(n0:Int):=h80;omega
   have hrow:=hds 80 (by omega);obtain⟨g0,o,c',hao,hcc,h81⟩:=hcap h80;subst hao;subst hcc
   conv=>lhs;whnf
   refine bP (by show(80:Int)≤((c'+1:Nat):Int);omega) ?_;refine(hD _).2 ⟨(),rfl,fun v A1 hq=> ?_⟩;obtain⟨ta,O1,hv,hT1,s1,hO1⟩:∃t O,v= .pointer (some ⟨t,0,none⟩)∧bz A1 aa.void O t cg∧A.Sub A1∧∀k,O k→A.blk k=none:=hq;subst hv;conv=>lhs;whnf
   refine(hD _).2 ⟨(),rfl,fun v A2 hq=> ?_⟩;obtain⟨rb,O2,hv,hT2,s2,hO2⟩:∃r O,v= .pointer (some ⟨r,0,none⟩)∧bC A2 aa.void O r mR []∧A1.Sub A2∧∀k,O k→A1.blk k=none:=hq;subst hv
   have hap0:ic aa.void O1 aa.void O2:=by
    obtain⟨m,s',E,h⟩:=hT1;refine⟨fun k h1 h2=> ?_,fun k o hb _=>(by cases hb),fun k o hb _=>(by cases hb)⟩;obtain⟨o,ho⟩:=h.live k h1;rw [hO2 k h2]at ho;cases ho
   conv=>lhs;whnf
   have hI0:uY A ta rb 80 ⟨0,A2,aa.void,O1,cg,aa.void,O2,mR, []⟩:=
    ⟨Nat.zero_le _,bM hT1 s2,hT2,hap0,⟨s1.trans s2,fun k o hk hO=>(by rw [hO1 k hO]at hk;cases hk)⟩,⟨s1.trans s2,fun k o hk hO=>(by have:=s1 _ _ hk;rw [hO2 k hO]at this;cases this)⟩,EG,yl,by show 1≤1+0*81;omega,by show 0≤0*2;omega⟩
   refine(hD _).2 ⟨qdInv A ta rb 80,⟨(⟨0,A2,aa.void,O1,cg,aa.void,O2,mR, []⟩:QdT),hI0,⟨rfl,trivial⟩,trivial,rfl⟩,fun(s:QdT) hG=>⟨⟨trivial,trivial⟩,trivial,key8 (some ⟨g0,o,none⟩) 80 (c'+1) ta rb A1 A2 s ⟨Nat.le_refl _,hrow,hG⟩⟩⟩
 intro ao n c ta rb A1 A2 s ⟨hn80,hrow,hG⟩;obtain⟨k,Ak,Ba,Oa,T,Bb,Ob,N,S⟩:=s;obtain⟨hk,hTa,hTb,hAp,hsa,hsb,hrt,hky,hna,hea⟩:uY A ta rb n ⟨k,Ak,Ba,Oa,T,Bb,Ob,N,S⟩:=hG;dsimp only at hk hTa hTb hAp hsa hsb hrt hky hna hea;conv=>lhs;whnf
 refine ab (fun hlt=> ?_) (fun hlt=> ?_)
 ·have hlt:(k:Int)<(n:Int):=hlt
  have hkn:k<n:=by omega
  obtain⟨g1,o1,dd,cs,e1,r1,hR1⟩:=hrow k hkn;subst e1;have i0:(0:Int)≤(k:Int)∧(k:Int)<(n:Int):=by omega
  obtain⟨a7,l7,k7,a14,l14,k14,a15,l15,k15,hcf⟩:=hR1.form;subst hcf;have rk:=aJ hsa.1 r1;conv=>lhs;whnf
  repeat(first|refine aq i0 ?_|refine af rk ?_|refine au hD rfl ?_
         conv=>lhs;whnf)
  refine(hD _).2 ⟨(dd,A),⟨_,rfl,hR1⟩,fun v A9 hq=> ?_⟩;obtain⟨h9,b,hv,hb⟩:A9=Ak∧∃b,v= .bool b∧(b=false→dd.parts.length≤80∧dd.h.mem.length≤100):=hq;have h9:=h9.symm;subst h9
  cases b with
  |true=>
   subst hv;conv=>lhs;whnf
   refine(hD _).2 ⟨(),rfl,fun v A9 hq=> ?_⟩;obtain⟨h9,hv⟩:A9=Ak∧v= .bool true:=hq;subst h9;subst hv
   conv=>lhs;whnf
   exact(hD _).2 ⟨hsa.1,rfl⟩
  |false=>
   subst hv;obtain⟨hb80,hb100⟩:=hb rfl;have l1:=Ed T dd;have l4:=AP T dd;have hNl:=zx hrt;have hSl:=Br hrt;have hrt':=hrt.apply dd;have hky':=AR hky dd;have hsh':=xx hrt' hky';have hNl':=zx hrt';have hSl':=Br hrt';conv=>lhs;whnf
   repeat(first|refine aq i0 ?_|refine af rk ?_|refine au hD rfl ?_
          conv=>lhs;whnf)
   refine(hD _).2 ⟨((⟨T,Ba,Oa,ta⟩:TG),dd,A),⟨_,rfl,hTa,hR1,hHas,hsa⟩,fun v A4 hq=> ?_⟩;obtain⟨Ba4,Oa4,hTa4,hSa⟩:bf Ak Ba Oa ta (aN T dd) A4:=hq;obtain⟨hTb4,hAp4⟩:=Cs hTb hAp hSa;have hsa4:=hsa.step hSa;have hsb4:Aside A4 A Ob:=⟨hsa4.1,hsb.2⟩;have rk4:=aJ hsa4.1 r1;conv=>lhs;whnf
   repeat(first|refine aq i0 ?_|refine af rk4 ?_|refine au hD rfl ?_
          conv=>lhs;whnf)
   refine(hD _).2 ⟨((⟨N,S,Bb,Ob,rb⟩:RG),dd,A),⟨_,rfl,hTb4,by show N.length≤800000;omega,by show S.length≤800000;omega,hR1,hsb4⟩,fun v A5 hq=> ?_⟩;obtain⟨Bb5,Ob5,hTb5,hSb⟩:dF A4 Bb Ob rb (dN N dd) (dM S dd) A5:=hq;obtain⟨hTa5,hAp5⟩:=EX hTa4 hAp4.symm hSb;have hsb5:=hsb4.step hSb;have hsa5:Aside A5 A Oa4:=⟨hsb5.1,hsa4.2⟩;have hAp5:=hAp5.symm;have rk5:=aJ hsa5.1 r1;generalize hT5:aN T dd=T5 at*;generalize hN5:dN N dd=N5 at*;generalize hS5:dM S dd=S5 at*;have hnl5:T5.nodes.length≤1000000:=by omega
   have hml:=pR (bE (some T5)) kd dd;conv=>lhs;whnf
   repeat(first|refine aq i0 ?_|refine af rk5 ?_|refine au hD rfl ?_
          conv=>lhs;whnf)
   refine(hD _).2 ⟨(⟨some ta,some T5,kd,dd,A⟩:DnG),⟨_,rfl,.inr ⟨ta,T5,Ba4,Oa4,rfl,rfl,hTa5,hnl5⟩,hR1,hsa5.1,by show dd.parts.length≤1000000;omega⟩,fun v A6 hq=> ?_⟩;have hq:w5 A5 A6 (cO (bE (some T5)) kd dd) v:=hq;obtain⟨s6,ca,hv,hra⟩:=hq.rep (by omega) (by omega);subst hv;have hTb6:=hTb5.more s6;have rk6:=aJ (hsa5.1.trans s6) r1;conv=>lhs;whnf
   repeat(first|refine aq i0 ?_|refine af rk6 ?_|refine au hD rfl ?_
          conv=>lhs;whnf)
   refine(hD _).2 ⟨(⟨some rb,some N5,kd,dd,A⟩:RdG),⟨_,rfl,.inr ⟨rb,N5,Bb5,Ob5,S5,rfl,rfl,hTb6,by omega,hsh'⟩,hR1,hsa5.1.trans s6,by show dd.parts.length≤1000000;omega⟩,fun v A7 hq=> ?_⟩;have hq:Ej A6 A7 (cO (cD (some N5)) kd dd) v:=hq;rw [look_eq hrt']at hq;obtain⟨s7,cb,hv,hrb⟩:=hq;subst hv;have hra7:=hra.sub s7;conv=>lhs;whnf
   repeat(first|refine au hD rfl ?_
          conv=>lhs;whnf)
   refine(hD _).2 ⟨cO (bE (some T5)) kd dd,⟨ca,cb,rfl,hra7,hrb⟩,fun v A8 hq=> ?_⟩;obtain⟨h9,hv⟩:A8=A7∧v= .bool true:=hq;subst h9;subst hv
   have s58:=s6.trans s7;have hend:uY A ta rb n ⟨k+1,A8,Ba4,Oa4,T5,Bb5,Ob5,N5,S5⟩:=⟨hkn,bM hTa5 s58,hTb5.more s58,hAp5,GS.sub hsa5 s58,GS.sub hsb5 s58,hrt',hky',by show T5.nodes.length≤1+(k+1)*81;omega,by show T5.aK.length≤(k+1)*2;omega⟩;conv=>lhs;whnf
   repeat(first|refine au hD rfl ?_
          conv=>lhs;whnf)
   exact(hD _).2 ⟨(⟨k+1,A8,Ba4,Oa4,T5,Bb5,Ob5,N5,S5⟩:QdT),⟨hend,⟨av (k:=k) (by omega),trivial⟩,trivial,rfl⟩,by show n-(k+1)<n-k;omega,⟨an rfl rfl,an rfl rfl,an rfl rfl,an rfl rfl,an rfl rfl,trivial⟩,⟨an rfl rfl,trivial⟩⟩
 clear hlt;have hdlk:bj Ak dl (dl.h.cells (.slice la7 ll7 lk7) (.slice la14 ll14 lk14) (.slice la15 ll15 lk15)):=bj.sub hsa.1 _ _ hdl;have hNl:=zx hrt;have hnl:T.nodes.length≤1000000:=by omega
 have hsl:T.aK.length≤1000000:=by omega
 conv=>lhs;whnf
 repeat(first|refine au hD rfl ?_
        conv=>lhs;whnf)
 refine(hD _).2 ⟨(dl,A),⟨_,rfl,hdl⟩,fun v A9 hq=> ?_⟩;obtain⟨h9,b,hv,hb⟩:A9=Ak∧∃b,v= .bool b∧(b=false→dl.parts.length≤80∧dl.h.mem.length≤100):=hq;have h9:=h9.symm;subst h9
 cases b with
 |true=>
  subst hv;conv=>lhs;whnf
  refine(hD _).2 ⟨(),rfl,fun v A9 hq=> ?_⟩;obtain⟨h9,hv⟩:A9=Ak∧v= .bool true:=hq;subst h9;subst hv
  conv=>lhs;whnf
  exact(hD _).2 ⟨hsa.1,rfl⟩
 |false=>
  subst hv;obtain⟨hb80,hb100⟩:=hb rfl;have hml:=pR (bE (some T)) kd dl;conv=>lhs;whnf
  repeat(first|refine au hD rfl ?_
         conv=>lhs;whnf)
  refine(hD _).2 ⟨dl,⟨_,rfl,hdlk⟩,fun v B1 hq=> ?_⟩;obtain⟨t1,csL,L,hv,hL1,hLk⟩:Ak.Sub B1∧∃cs L,v=bx cs∧bH B1 dl cs L∧∀k∈L,Ak.blk k=none:=hq;obtain⟨b7,m7,c7,b14,m14,c14,b15,m15,c15,hcL⟩:=hL1.ask.form;subst hcL;subst hv
  conv=>lhs;whnf
  repeat(first|refine au hD rfl ?_
         conv=>lhs;whnf)
  refine(hD _).2 ⟨(⟨T,Ba,Oa,ta⟩:TG),⟨rfl,bM hTa t1,hrt.ok.qK,hsl⟩,fun v B2 hq=> ?_⟩;obtain⟨t2,tw,Bw,Ow,Ew,skw,hv,hTw,hOw,hBw,hEw,hskw⟩:B1.Sub B2∧∃(t':Nat) (B':aa) (O':Nat→Prop) (E sk:List (ByteArray×Nat×bn)),v= .pointer (some ⟨t',0,none⟩)∧bz B2 B' O' t' ⟨bY sk,cC (aU T)⟩∧(∀k,O' k→B1.blk k=none)∧(∀k o,B'.blk k=some o→B1.blk k=none)∧T.nodes=dv (·.2) E∧sk.Perm E:=hq;subst hv;have heW:=copy_eq hrt.ok hEw hskw;have hcl:=DX hEw hskw (n:=999999) (m:=1000000) (by omega) hsl
  have hL2:bH B2 dl _ L:=hL1.bk fun k hk=>by
   obtain⟨o,ho⟩:=hL1.live k hk;rw [ho,t2 k o ho]
  conv=>lhs;whnf
  repeat(first|refine au hD rfl ?_
         conv=>lhs;whnf)
  refine cK ?_ ?_<;>(conv=>lhs;whnf)
  all_goals try(refine cK ?_ ?_<;>(conv=>lhs;whnf))
  all_goals try(refine cK ?_ ?_<;>(conv=>lhs;whnf))
  all_goals
   refine(hD _).2 ⟨(⟨some ta,some T,kd,dl,B2⟩:DnG),⟨_,rfl,.inr ⟨ta,T,Ba,Oa,rfl,rfl,bM hTa (t1.trans t2),hnl⟩,hL2.ask,aa.Sub.refl _,by show dl.parts.length≤1000000;omega⟩,fun v B3 hq=> ?_⟩;have hqa:w5 B2 B3 (cO (bE (some T)) kd dl) v:=hq;clear hq;obtain⟨t3,⟨mvX,mnX,mcX,mgX⟩,⟨pvX,pnX,pcX,pgX⟩,hv,hWX,hmX,hpX,hdX⟩:=hqa;have hap:=hWX.1.app;obtain⟨mbX,hmbX, -⟩:=hap;have hap:=hWX.2.1.app;obtain⟨pbX,hpbX, -⟩:=hap;have hmbX:mvX= .slice (aD mbX) mnX mcX:=hmbX;have hpbX:pvX= .slice (aD pbX) pnX pcX:=hpbX;subst hmbX;subst hpbX;subst hv
   have hL3:bH B3 dl _ L:=hL2.bk fun k hk=>by
    obtain⟨o,ho⟩:=hL2.live k hk;rw [ho,t3 k o ho]
   conv=>lhs;whnf
   repeat(first|refine au hD rfl ?_
          conv=>lhs;whnf)
   try(refine cK ?_ ?_<;>(conv=>lhs;whnf))
   all_goals try(refine cK ?_ ?_<;>(conv=>lhs;whnf))
   all_goals try(refine cK ?_ ?_<;>(conv=>lhs;whnf))
   all_goals
    refine(hD _).2 ⟨(⟨some ta,some T,kd,dl,B3⟩:DnG),⟨_,rfl,.inr ⟨ta,T,Ba,Oa,rfl,rfl,bM hTa ((t1.trans t2).trans t3),hnl⟩,hL3.ask,aa.Sub.refl _,by show dl.parts.length≤1000000;omega⟩,fun v B4 hq=> ?_⟩;have hqa:w5 B3 B4 (cO (bE (some T)) kd dl) v:=hq;clear hq;obtain⟨t4,⟨mvY,mnY,mcY,mgY⟩,⟨pvY,pnY,pcY,pgY⟩,hv,hWY,hmY,hpY,hdY⟩:=hqa;have hap:=hWY.1.app;obtain⟨mbY,hmbY, -⟩:=hap;have hap:=hWY.2.1.app;obtain⟨pbY,hpbY, -⟩:=hap;have hmbY:mvY= .slice (aD mbY) mnY mcY:=hmbY;have hpbY:pvY= .slice (aD pbY) pnY pcY:=hpbY;subst hmbY;subst hpbY;subst hv
    have hL4:bH B4 dl _ L:=hL3.bk fun k hk=>by
     obtain⟨o,ho⟩:=hL3.live k hk;rw [ho,t4 k o ho]
    have h2:=two_of t3 hWX hmX hpX hdX t4 hWY hmY hpY hdY;clear hWX hmX hpX hdX hWY hmY hpY hdY;conv=>lhs;whnf
    repeat(first|refine au hD rfl ?_
           conv=>lhs;whnf)
    try(refine cK ?_ ?_<;>(conv=>lhs;whnf))
    all_goals try(refine cK ?_ ?_<;>(conv=>lhs;whnf))
    all_goals
    have t24:=h2.sub;have t14:=t1.trans (t2.trans t24);have hWnd:=bz.nd hTw;have hp1000:(cO (bE (some T)) kd dl).parts.length≤1000:=by omega
    have hm1000:(cO (bE (some T)) kd dl).mem.length≤1000:=by omega
    have hp1M:(cO (bE (some T)) kd dl).parts.length≤1000000:=by omega
    have hm32:(cO (bE (some T)) kd dl).mem.length*32≤140737488351232:=by omega
    have hml0:=pR (bE none) kd dl;have hp0:(cO (bE none) kd dl).parts.length≤1000000:=by omega
    have hm0:(cO (bE none) kd dl).mem.length*32≤140737488351232:=by omega
    have hdp:dl.parts.length≤1000000:=by omega
    have hNl9:N.length≤1000000:=by omega
    clear hml0 hNl hna hea hb80 hb100 hml hn80 hrow
    skip
    refine(hD _).2 ⟨(dl,L),⟨_,_,rfl,hL4,bj.sub t14 _ _ hdlk⟩,fun v B9 hq=> ?_⟩;obtain⟨h9,hv⟩:B9=B4∧v= .bool true:=hq;have h9:=h9.symm;subst h9;subst hv
    conv=>lhs;whnf
    repeat(first|refine au hD rfl ?_
           conv=>lhs;whnf)
    refine(hD _).2 ⟨((⟨T,Ba,Oa,ta⟩:TG),(⟨⟨bY skw,cC (aU T)⟩,Bw,Ow,tw⟩:TG)),⟨rfl,bM hTa t14,bM hTw t24,⟨hrt.ok.qK,hnl,hsl⟩,⟨xr heW hrt.ok hWnd,hcl.1,hcl.2⟩⟩,fun v B5 hq=> ?_⟩;obtain⟨t5,hv⟩:B4.Sub B5∧v= .bool (decide (Ck T ⟨bY skw,cC (aU T)⟩)):=hq;rw [decide_eq_true (TEq.same heW hrt.ok.nd hWnd)]at hv;subst hv
    have hL5:bH B5 dl _ L:=hL4.bk fun k hk=>by
     have h9:=hL4.live k hk;obtain⟨o,ho⟩:=h9;rw [ho,t5 k o ho]
    conv=>lhs;whnf
    repeat(first|refine au hD rfl ?_
           conv=>lhs;whnf)
    refine(hD _).2 ⟨(dl,L),⟨_,rfl,hL5⟩,fun v B6 hq=> ?_⟩;have hov:jo B5 B6 L:=hq
    have hk6:∀k o,Ak.blk k=some o→B6.blk k=some o:=fun k o ho=>by
     rw [hov.other k fun hm=>(by rw [hLk k hm]at ho;cases ho)];exact t5 k o (t14 k o ho)
    have hsA6:A.Sub B6:=fun k o ho=>hk6 k o (hsa.1 k o ho)
    have hTb6:=hTb.stays hk6
    have hkL:∀k o,B2.blk k=none→B4.blk k=some o→B6.blk k=some o:=fun k o h2 h5=>by
     rw [hov.other k fun hm=>(by
      obtain⟨o',ho'⟩:=hL2.live k hm
      rw [h2]at ho';cases ho')]
     exact t5 k o h5
    have hWX6:=h2.x.bk (A':=B6) fun g o hg ho=>hkL g o (h2.nx g hg) ho
    have hWY6:=h2.y.bk (A':=B6) fun g o hg ho=>hkL g o (h2.ny g hg) ho
    have hrX6:=hWX6.rep hm32 hp1M;have hrY6:=hWY6.rep hm32 hp1M;have eX:∀g,(⟨.slice (aD mbX) mnX mcX,mnX,mcX,mgX⟩:LsD).g=some g∨(⟨.slice (aD pbX) pnX pcX,pnX,pcX,pgX⟩:LsD).g=some g→A.blk g=none:=fun g hg=>lj (hsa.1.trans (t1.trans t2)) (h2.nx g hg)
    have eY:∀g,(⟨.slice (aD mbY) mnY mcY,mnY,mcY,mgY⟩:LsD).g=some g∨(⟨.slice (aD pbY) pnY pcY,pnY,pcY,pgY⟩:LsD).g=some g→A.blk g=none:=fun g hg=>lj (hsa.1.trans (t1.trans t2)) (h2.ny g hg)
    conv=>lhs;whnf
    repeat(first|refine au hD rfl ?_
           conv=>lhs;whnf)
    refine(hD _).2 ⟨(⟨some rb,some N,kd,dl,A⟩:RdG),⟨_,rfl,.inr ⟨rb,N,Bb,Ob,S,rfl,rfl,hTb6,hNl9,xx hrt hky⟩,hdl,hsA6,hdp⟩,fun v B7 hq=> ?_⟩;have hq:Ej B6 B7 (cO (cD (some N)) kd dl) v:=hq;rw [look_eq hrt]at hq;obtain⟨t7,cw,hv,hrw⟩:=hq;have hrw':=hrw;obtain⟨wm,wp,hcw,hwm,hwp, -⟩:=hrw';have hap:=hwm.1.form;obtain⟨wa,wc,hwme⟩:=hap;have hap:=hwp.form;obtain⟨wb,wd,hwpe⟩:=hap;subst hwme;subst hwpe;subst hcw;subst hv
    have hrX:=hrX6.sub t7;have hrY:=hrY6.sub t7;have hWX7:=hWX6.bk (A':=B7) fun g o _ ho=>t7 g o ho
    have hWY7:=hWY6.bk (A':=B7) fun g o _ ho=>t7 g o ho
    have hsA7:=hsA6.trans t7;clear hTb6 hTa hTw hWX6 hWY6 hrX6 hrY6 hkL hk6 hov hL5 hL4 hrt hky;conv=>lhs;whnf
    repeat(first|refine au hD rfl ?_
           conv=>lhs;whnf)
    refine(hD _).2 ⟨cO (bE (some T)) kd dl,(by first|exact⟨_,_,rfl,hrX,hrw⟩|exact⟨_,_,rfl,hrY,hrw⟩),fun v B8 hq=> ?_⟩;obtain⟨h9,hv⟩:B8=B7∧v= .bool true:=hq;have h9:=h9.symm;subst h9;subst hv
    conv=>lhs;whnf
    repeat(first|refine au hD rfl ?_
           conv=>lhs;whnf)
    refine(hD _).2 ⟨cO (bE (some T)) kd dl,(by first|exact⟨_,_,rfl,hrY,hrw⟩|exact⟨_,_,rfl,hrX,hrw⟩),fun v B8 hq=> ?_⟩;obtain⟨h9,hv⟩:B8=B7∧v= .bool true:=hq;have h9:=h9.symm;subst h9;subst hv
    conv=>lhs;whnf
    repeat(first|refine au hD rfl ?_
           conv=>lhs;whnf)
    try(refine cK ?_ ?_<;>(conv=>lhs;whnf))
    all_goals
     refine(hD _).2 fun g1 C1 hN1=> ?_
     have hg1:B7.blk g1=none:=hN1.none_;have hc1:B7.Sub C1:=hN1.sub;conv=>lhs;whnf
     repeat(first|refine au hD rfl ?_
            conv=>lhs;whnf)
     refine(hD _).2 fun g2 C2 hN2=> ?_
     have hg2:B7.blk g2=none:=lj hc1 hN2.none_
     have hne12:g1≠g2:=fun e=>by
      have h1:C1.blk g1=some _:=hN1.at_;have h2:C1.blk g2=none:=hN2.none_;rw [←e,h1]at h2
      cases h2
     conv=>lhs;whnf
     repeat(first|refine au hD rfl ?_
            conv=>lhs;whnf)
     refine(hD _).2 fun g3 C3 hN3=> ?_
     have hX7:B7.Sub C3:=hc1.trans (hN2.sub.trans hN3.sub);conv=>lhs;whnf
     repeat(first|refine au hD rfl ?_
            conv=>lhs;whnf)
     first
     |(refine(hD _).2 ⟨(⟨A,(cO (bE (some T)) kd dl),(⟨.slice (some ⟨g1,0,none⟩) 1 1,1,1,some g1⟩:LsD),(⟨.slice (aD mbX) mnX mcX,mnX,mcX,mgX⟩:LsD),(⟨.slice (aD pbX) pnX pcX,pnX,pcX,pgX⟩:LsD),(cO (bE (some T)) kd dl),(⟨.slice (some ⟨g2,0,none⟩) 1 1,1,1,some g2⟩:LsD),(⟨.slice (aD mbY) mnY mcY,mnY,mcY,mgY⟩:LsD),(⟨.slice (aD pbY) pnY pcY,pnY,pcY,pgY⟩:LsD)⟩:ArG),⟨_,rfl,Sl.row (Nat.le_refl _) (hN3.rd (o:=0) (n:=2*1) (by show 0+2*1≤2;omega)),mw hWX7 hWY7 hsA7 eX eY h2.dx h2.dy h2.xy hX7 (hN3.sub _ _ (hN2.sub _ _ hN1.at_)) (hN3.sub _ _ hN2.at_) hg1 hg2 hne12 hp1000 hm1000⟩,fun v C4 hq=> ?_⟩)
     |(refine(hD _).2 ⟨(⟨A,(cO (bE (some T)) kd dl),(⟨.slice (some ⟨g2,0,none⟩) 1 1,1,1,some g2⟩:LsD),(⟨.slice (aD mbX) mnX mcX,mnX,mcX,mgX⟩:LsD),(⟨.slice (aD pbX) pnX pcX,pnX,pcX,pgX⟩:LsD),(cO (bE (some T)) kd dl),(⟨.slice (some ⟨g1,0,none⟩) 1 1,1,1,some g1⟩:LsD),(⟨.slice (aD mbY) mnY mcY,mnY,mcY,mgY⟩:LsD),(⟨.slice (aD pbY) pnY pcY,pnY,pcY,pgY⟩:LsD)⟩:ArG),⟨_,rfl,Sl.row (Nat.le_refl _) (hN3.rd (o:=0) (n:=2*1) (by show 0+2*1≤2;omega)),mw hWX7 hWY7 hsA7 eX eY h2.dx h2.dy h2.xy hX7 (hN3.sub _ _ hN2.at_) (hN3.sub _ _ (hN2.sub _ _ hN1.at_)) hg2 hg1 hne12.symm hp1000 hm1000⟩,fun v C4 hq=> ?_⟩)
     |(refine(hD _).2 ⟨(⟨A,(cO (bE (some T)) kd dl),(⟨.slice (some ⟨g1,0,none⟩) 1 1,1,1,some g1⟩:LsD),(⟨.slice (aD mbY) mnY mcY,mnY,mcY,mgY⟩:LsD),(⟨.slice (aD pbY) pnY pcY,pnY,pcY,pgY⟩:LsD),(cO (bE (some T)) kd dl),(⟨.slice (some ⟨g2,0,none⟩) 1 1,1,1,some g2⟩:LsD),(⟨.slice (aD mbX) mnX mcX,mnX,mcX,mgX⟩:LsD),(⟨.slice (aD pbX) pnX pcX,pnX,pcX,pgX⟩:LsD)⟩:ArG),⟨_,rfl,Sl.row (Nat.le_refl _) (hN3.rd (o:=0) (n:=2*1) (by show 0+2*1≤2;omega)),mw hWY7 hWX7 hsA7 eY eX h2.dy h2.dx h2.yx hX7 (hN3.sub _ _ (hN2.sub _ _ hN1.at_)) (hN3.sub _ _ hN2.at_) hg1 hg2 hne12 hp1000 hm1000⟩,fun v C4 hq=> ?_⟩)
     |(refine(hD _).2 ⟨(⟨A,(cO (bE (some T)) kd dl),(⟨.slice (some ⟨g2,0,none⟩) 1 1,1,1,some g2⟩:LsD),(⟨.slice (aD mbY) mnY mcY,mnY,mcY,mgY⟩:LsD),(⟨.slice (aD pbY) pnY pcY,pnY,pcY,pgY⟩:LsD),(cO (bE (some T)) kd dl),(⟨.slice (some ⟨g1,0,none⟩) 1 1,1,1,some g1⟩:LsD),(⟨.slice (aD mbX) mnX mcX,mnX,mcX,mgX⟩:LsD),(⟨.slice (aD pbX) pnX pcX,pnX,pcX,pgX⟩:LsD)⟩:ArG),⟨_,rfl,Sl.row (Nat.le_refl _) (hN3.rd (o:=0) (n:=2*1) (by show 0+2*1≤2;omega)),mw hWY7 hWX7 hsA7 eY eX h2.dy h2.dx h2.yx hX7 (hN3.sub _ _ hN2.at_) (hN3.sub _ _ (hN2.sub _ _ hN1.at_)) hg2 hg1 hne12.symm hp1000 hm1000⟩,fun v C4 hq=> ?_⟩)
     obtain⟨hsC4,hv⟩:A.Sub C4∧v= .bool true:=hq;subst hv;conv=>lhs;whnf
     repeat(first|refine au hD rfl ?_
            conv=>lhs;whnf)
     refine(hD _).2 ⟨(⟨none,none,kd,dl,A⟩:DnG),⟨_,rfl,.inl ⟨rfl,rfl⟩,hdl,hsC4,hdp⟩,fun v C5 hq=> ?_⟩;have hq:w5 C4 C5 (cO (bE none) kd dl) v:=hq;have hq9:=hq.rep hm0 hp0;obtain⟨t15,cx,hv,hrx⟩:=hq9;subst hv;conv=>lhs;whnf
     repeat(first|refine au hD rfl ?_
            conv=>lhs;whnf)
     refine(hD _).2 ⟨(⟨none,none,kd,dl,A⟩:RdG),⟨_,rfl,.inl ⟨rfl,rfl⟩,hdl,hsC4.trans t15,hdp⟩,fun v C6 hq=> ?_⟩;have hq:Ej C5 C6 (cO (cD none) kd dl) v:=hq;rw [look_nil]at hq;obtain⟨t16,cz,hv,hrz⟩:=hq;subst hv;conv=>lhs;whnf
     repeat(first|refine au hD rfl ?_
            conv=>lhs;whnf)
     refine(hD _).2 ⟨cO (bE none) kd dl,⟨cx,cz,rfl,hrx.sub t16,hrz⟩,fun v C7 hq=> ?_⟩;obtain⟨h9,hv⟩:C7=C6∧v= .bool true:=hq;have h9:=h9.symm;subst h9;subst hv
     conv=>lhs;whnf
     repeat(first|refine au hD rfl ?_
            conv=>lhs;whnf)
     refine(hD _).2 ⟨(),rfl,fun v C8 hq=> ?_⟩;obtain⟨h9,hv⟩:C8=C6∧v= .bool true:=hq;have h9:=h9.symm;subst h9;subst hv
     have hend:E4.post (ds,kd,dl) [] A (.bool true) C6:=⟨hsC4.trans (t15.trans t16),rfl⟩;conv=>lhs;whnf
     repeat(first|refine au hD rfl ?_
            conv=>lhs;whnf)
     exact(hD _).2 hend
end
end Go.Proofs.YtphigpccfbfnoaaGreatDoor
namespace Go.Sx
noncomputable section
open Go.RowKit Go.ChangeShapes Go.WideShapes
theorem list4{α:Type}{l:List α}(h:l.length=4):∃v0 v1 v2 v3,l= [v0,v1,v2,v3]:=by
 match l,h with
 | [v0,v1,v2,v3],_=>exact⟨v0,v1,v2,v3,rfl⟩
theorem list16{α:Type}{l:List α}(h:l.length=16):∃v0 v1 v2 v3 v4 v5 v6 v7 v8 v9 v10 v11 v12 v13 v14 v15,l= [v0,v1,v2,v3,v4,v5,v6,v7,v8,v9,v10,v11,v12,v13,v14,v15]:=by
 match l,h with
 | [v0,v1,v2,v3,v4,v5,v6,v7,v8,v9,v10,v11,v12,v13,v14,v15],_=>exact⟨v0,v1,v2,v3,v4,v5,v6,v7,v8,v9,v10,v11,v12,v13,v14,v15,rfl⟩
def fg(W:World):aa:=aa.of fun k=>W.heap[k]?
theorem tk{W:World}{a:Addr}{n:Nat}{cs:List Value}(h:W.cells? 0 a n=some cs)(hn:0<n):a.spot=none:=by
 unfold World.cells? at h;rw [if_pos (Nat.zero_le _)]at h;have h1:=mapM_some_get h 0 0 (by simp [hn]);have hl:=mapM_some_length h;rw [List.length_range]at hl;have h2:cs[0]? =some cs[0]:=List.getElem?_eq_getElem (by omega);rw [h2]at h1;unfold World.cell? Addr.add at h1;simp only [if_true]at h1
 split at h1
 ·split at h1
  ·cases h1
  ·rename_i h3
   cases hs:a.spot with
   |none=>rfl
   |some s=>rw [hs]at h3;simp at h3
 ·cases h1
theorem yW{W:World}{g o:Nat}{n:Nat}{cs:List Value}(h:W.cells? 0 ⟨g,o,none⟩ n=some cs)(hn:0<n):(fg W).rd g o n=some cs:=by
 unfold World.cells? at h;rw [if_pos (Nat.zero_le _)]at h;have hl:=mapM_some_length h;rw [List.length_range]at hl
 have key:∀i,i<n→∃c t fz,W.heap[g]? =some (.cells c t fz)∧c[o+i]? =cs[i]? :=fun i hi=>by
  have h1:=mapM_some_get h i i (by simp [hi]);have h2:cs[i]? =some cs[i]:=List.getElem?_eq_getElem (by omega);rw [h2]at h1;unfold World.cell? at h1;rw [db]at h1;simp only at h1
  split at h1
  ·rename_i c t fz hb
   simp only [Option.isSome_none,Bool.false_eq_true,if_false]at h1;exact⟨c,t,fz,hb,by rw [h1,h2]⟩
  ·cases h1
 obtain⟨c,t,fz,hb,_⟩:=key 0 hn
 have hle:o+n≤c.size:=by
  obtain⟨c',t',fz',hb',h3⟩:=key (n-1) (by omega);rw [hb]at hb';injection hb' with hb'
  injection hb' with e1 e2 e3
  subst e1;have h4:cs[n-1]? =some cs[n-1]:=List.getElem?_eq_getElem (by omega);rw [h4]at h3;have:=(Array.getElem?_eq_some_iff.1 h3).1;omega
 rw [rd_mk (A:=fg W) (c:=c) (t:=t) (fz:=fz) hb hle];congr 1;refine List.ext_getElem? fun i=> ?_
 by_cases hi:i<n
 ·obtain⟨c',t',fz',hb',h3⟩:=key i hi
  rw [hb]at hb';injection hb' with hb'
  injection hb' with e1 e2 e3
  subst e1;rw [List.getElem?_take_of_lt hi,List.getElem?_drop,Array.getElem?_toList,h3]
 ·rw [List.getElem?_eq_none (by simp;omega),List.getElem?_eq_none (by omega)]
theorem rd_join{A:aa}{g o n m:Nat}{xs ys:List Value}(h1:A.rd g o n=some xs)(h2:A.rd g (o+n) m=some ys):A.rd g o (n+m)=some (xs++ys):=by
 obtain⟨c,t,fz,hb,hle,rfl⟩:=rd_some h1;obtain⟨c',t',fz',hb',hle',rfl⟩:=rd_some h2;rw [hb]at hb';injection hb' with hb'
 injection hb' with e1 e2 e3
 subst e1;rw [rd_mk hb (by omega),List.take_add,List.drop_drop]
section
variable {H:Type} {enc:TypeId×Value→H} {P:Program} {W:World}
abbrev fM(enc:TypeId×Value→H)(P:Program)(W:World)(n:Nat)(t:TypeId)(cs:List Value):Option (DataW H×List MemPlace):=DataW.trod enc P W 0 (fun _=>true) true n t cs
def eM(P:Program)(t:TypeId)(d:DataW H):Prop:=∀z∈d.weights P t,z≤140737488351232
theorem kK{e:TypeId} :∀ {l:List (DataW H)} {d:DataW H},d∈l→∀z∈d.weights P e,z∈DataW.weightsAll P e l
 | [],d,h=>by cases h
 |x::l,d,h=>fun z hz=>by
  simp only [DataW.weightsAll,List.mem_append];rcases List.mem_cons.1 h with rfl|h
  ·exact .inl hz
  ·exact .inr (kK h z hz)
theorem gU:∀ {ts:List TypeId} {l:List (DataW H)} {i:Nat} {t:TypeId} {d:DataW H},ts[i]? =some t→l[i]? =some d→∀z∈d.weights P t,z∈DataW.weightsEach P ts l
 | [],_,_,_,_,h1,_=>by simp at h1
 |_::_, [],_,_,_,_,h2=>by simp at h2
 |t'::ts,d'::l,0,t,d,h1,h2=>fun z hz=>by
  simp only [List.getElem?_cons_zero,Option.some.injEq]at h1 h2;subst h1;subst h2
  simp only [DataW.weightsEach,List.mem_append];exact .inl hz
 |t'::ts,d'::l,i+1,t,d,h1,h2=>fun z hz=>by
  simp only [List.getElem?_cons_succ]at h1 h2;simp only [DataW.weightsEach,List.mem_append];exact .inr (gU h1 h2 z hz)
theorem xF{ts:List TypeId}{l:List (DataW H)}(h:(DataW.weightsEach P ts l).all (· ≤reachBytes)=true)(i:Nat){t:TypeId}{d:DataW H}(h1:ts[i]? =some t)(h2:l[i]? =some d):eM P t d:=fun z hz=>by
 have h3:=List.all_eq_true.1 h z (gU h1 h2 z hz);have h4:z≤reachBytes:=by simpa using h3
 exact h4
theorem zr{t e:TypeId}(ht:P.underlying t=some (.slice e)){r:Reach}{b:Nat}{v:Value}(h:Value.okWide P W r b t v):v.cells.toList= [v]:=by
 unfold Value.okWide at h;rw [ht]at h;simp only [Cell.okWide,Cell.ok,ht]at h
 cases v with
 |slice a l c=>rfl
 |_=>exact h.elim
theorem nB{t e:TypeId}{es B:Nat}(ht:P.underlying t=some (.slice e))(hes:P.cellsOf e=es)(hes0:0<es)(hB:P.bytesOf e=B){n:Nat}{x:DataW H×List MemPlace}{v:Value}(h:fM enc P W n t [v]=some x)(hw:eM P t x.1):
  ∃rows:List (List Value),Sl (fg W) es rows.length v rows.flatten∧rows.length*B≤140737488351232∧∀r∈rows,r.length=es∧∃m y,m<n∧fM enc P W m e r=some y∧eM P e y.1:=by
 rcases DataW.trod_slice ht h with⟨hn,_⟩|⟨a,len,cap,elems,rest,m,hm,hn,hx,_,hle,_,hel,hrd,hsp,_⟩
 ·obtain rfl:v= .slice none 0 0:=by simpa using hn
  exact⟨[],Sl.nil _ _,by simp,by simp⟩
 ·obtain rfl:v= .slice (some a) len cap:=by simpa using hn
  obtain⟨hr1,hr2⟩:=hsp rfl;subst hes
  have hone:∀i,i<len→∃cs y,W.cells? 0 (a.add (i*P.cellsOf e)) (P.cellsOf e)=some cs∧fM enc P W m e cs=some y∧elems[i]? =some y:=fun i hi=>by
   have h1:=hrd i hi;have h2:elems[i]? =some elems[i]:=List.getElem?_eq_getElem (by omega);rw [h2,Option.bind_eq_some_iff]at h1;obtain⟨cs,h3,h4⟩:=h1;exact⟨cs,_,h3,h4,h2⟩
  have hspot:0<cap→a.spot=none:=fun hc=>by
   by_cases h0:0<len
   ·obtain⟨cs,y,h1,_⟩:=hone 0 h0
    rw [Nat.zero_mul]at h1;exact tk (a:=a) (by simpa [Addr.add]using h1) hes0
   ·have h1:=hr2 0 (by omega)
    have h2:rest[0]? =some rest[0]:=List.getElem?_eq_getElem (by omega);rw [h2,Option.bind_eq_some_iff]at h1;obtain⟨cs,h3,_⟩:=h1;have h0:len=0:=by omega
    subst h0;exact tk (a:=a) (by simpa [Addr.add]using h3) hes0
  have hfit:∀y∈elems,eM P e y.1:=fun y hy z hz=>by
   refine hw z ?_;rw [hx];simp only [DataW.weights,ht,List.mem_cons,List.mem_append];exact .inr (.inl (kK (List.mem_map.2 ⟨y,hy,rfl⟩) z hz))
  have hrows:∀k,k≤len→∃rows:List (List Value),rows.length=k∧(0<k→(fg W).rd a.block a.off (k*P.cellsOf e)=some rows.flatten)∧∀r∈rows,r.length=P.cellsOf e∧∃m y,m<n∧fM enc P W m e r=some y∧eM P e y.1:=fun k=>by
   induction k with
   |zero=>exact fun _=>⟨[],rfl,fun h=>(by omega),by simp⟩
   |succ k ih=>
    intro hk;obtain⟨rows,r1,r2,r3⟩:=ih (by omega);obtain⟨cs,y,h1,h2,h3⟩:=hone k (by omega);obtain⟨g,o,s⟩:=a;have hs:=hspot (by omega);simp only at hs;subst hs;rw [db]at h1;have h4:=yW h1 hes0;refine⟨rows++ [cs],by simp [r1],fun _=> ?_,fun r hr=> ?_⟩
    ·rw [List.flatten_append,Nat.succ_mul]
     simp only [List.flatten_cons,List.flatten_nil,List.append_nil]
     by_cases h0:0<k
     ·exact rd_join (r2 h0) h4
     ·have h0:k=0:=by omega
      subst h0;have:rows= []:=List.length_eq_zero_iff.1 r1;subst this;simpa using h4
    ·rcases List.mem_append.1 hr with hr|hr
     ·exact r3 r hr
     ·rw [List.mem_singleton]at hr
      subst hr;exact⟨vC h4,m,y,by omega,h2,hfit y (List.mem_of_getElem? h3)⟩
  obtain⟨rows,r1,r2,r3⟩:=hrows len (Nat.le_refl _);refine⟨rows,⟨some a,cap,by rw [r1],by omega,?_,fun h=>(by cases h),fun b hb hc=>(by injection hb with hb;subst hb;exact hspot hc),fun h0 b hb=>(by injection hb with hb;subst hb;rw [r1];exact r2 (by omega))⟩,?_,r3⟩
  ·clear r1 r2
   induction rows with
   |nil=>simp
   |cons r rows ih=>
    rw [List.flatten_cons,List.length_append,ih (fun x hx=>r3 x (List.mem_cons_of_mem _ hx)),(r3 r (by simp)).1,List.length_cons,Nat.succ_mul];omega
  ·have h1:(elems.length+rest.length)*P.bytesOf e≤140737488351232:=by
     refine hw _ ?_;rw [hx];simp [DataW.weights,ht]
   rw [hB]at h1;refine Nat.le_trans (Nat.mul_le_mul_right B ?_) h1;omega
theorem pP{t:TypeId}{fs:Array Field}(ht:P.underlying t=some (.struct fs)){n:Nat}{x:DataW H×List MemPlace}{cs:List Value}(h:fM enc P W n t cs=some x)(hw:eM P t x.1):
  cs.length=P.cellsOf t∧∃m,m<n∧∀(i:Nat) (f:Field),fs[i]? =some f→∃y,fM enc P W m f.type ((cs.drop f.offset).take (P.cellsOf f.type))=some y∧eM P f.type y.1:=by
 obtain⟨xs,m,hm,hx,hl,hlen,hf⟩:=DataW.trod_struct ht h;refine⟨hl,m,by omega,fun i f hi=> ?_⟩;have hi':i<fs.size:=(Array.getElem?_eq_some_iff.1 hi).1;have h2:xs[i]? =some xs[i]:=List.getElem?_eq_getElem (by omega);refine⟨xs[i],(hf i f hi).trans h2,fun z hz=>hw z ?_⟩;rw [hx];simp only [DataW.weights,ht];exact gU (i:=i) (t:=f.type) (d:=xs[i].1) (by simp [hi]) (by simp [h2]) z hz
variable {n:Nat} {t:TypeId} {v:Value} {l:List Value}
theorem qZ(hc:P.cellsOf t=1)(h:∃y,fM enc P W n t ((v::l).take (P.cellsOf t))=some y∧eM P t y.1):∃y,fM enc P W n t [v]=some y∧eM P t y.1:=by
 rw [hc]at h;exact h
theorem fh{k:IntKind}(ht:P.underlying t=some (.int k))(hc:P.cellsOf t=1)(h:∃y,fM enc P W n t ((v::l).take (P.cellsOf t))=some y∧eM P t y.1):∃x,v= .int k x∧(Lit.int k x).wf=true:=by
 obtain⟨y,h,_⟩:=qZ hc h;obtain⟨x,hx,_,hw⟩:=DataW.trod_int ht h;exact⟨x,by simpa using hx,hw⟩
theorem Cr(ht:P.underlying t=some .string)(hc:P.cellsOf t=1)(h:∃y,fM enc P W n t ((v::l).take (P.cellsOf t))=some y∧eM P t y.1):∃x:ByteArray,v= .string x∧x.data.toList.length≤140737488351232:=by
 obtain⟨y,h,hf⟩:=qZ hc h;obtain⟨x,hx,hy,_⟩:=DataW.trod_string ht h;refine⟨x,by simpa using hx,hf _ ?_⟩;rw [hy];simp [DataW.weights]
theorem Em{e:TypeId}(ht:P.underlying t=some (.slice e))(he:P.underlying e=some (.int .u8))(hc:P.cellsOf e=1)(hb:P.bytesOf e=1)(ht1:P.cellsOf t=1)(h:∃y,fM enc P W n t ((v::l).take (P.cellsOf t))=some y∧eM P t y.1):∃bs,SlB (fg W) v bs:=by
 obtain⟨y,h,hf⟩:=qZ ht1 h;obtain⟨rows,h1,h2,h3⟩:=nB ht hc (by omega) hb h hf
 have key:∀rows:List (List Value),(∀r∈rows,r.length=1∧∃m y,m<n∧fM enc P W m e r=some y∧eM P e y.1)→∃bs:List UInt8,rows.flatten=bs.map bv∧bs.length=rows.length:=by
  intro rows
  induction rows with
  |nil=>exact fun _=>⟨[],rfl,rfl⟩
  |cons r rows ih=>
   intro h;obtain⟨bs,k1,k2⟩:=ih fun x hx=>h x (List.mem_cons_of_mem _ hx)
   obtain⟨_,m,y,_,h5,_⟩:=h r (by simp);obtain⟨x,hx,_,hwf⟩:=DataW.trod_int he h5
   have hr:0≤x∧x<256:=by
    simp only [Lit.wf,Bool.and_eq_true,decide_eq_true_eq]at hwf;have h8:IntKind.u8.min=0:=rfl;have h9:IntKind.u8.max=255:=rfl;omega
   refine⟨UInt8.ofNat x.toNat::bs,?_,by simp [k2]⟩;rw [List.flatten_cons,k1,hx,List.map_cons];simp only [bv,List.cons_append,List.nil_append,List.cons.injEq,and_true];congr 1;simp only [UInt8.toNat_ofNat'];omega
 obtain⟨bs,k1,k2⟩:=key rows h3;refine⟨bs,?_,by omega⟩;rw [k2,←k1];exact h1
end
theorem tr{A':aa}{w w':World}(hs:(fg w).Sub A')(hm:GP (fg w) A' w w'):Below w.heap.size w w':=by
 have hb:∀k,k<w.heap.size→w'.heap[k]? =w.heap[k]? :=fun k hk=>by
  have h0:w.heap[k]? =some w.heap[k]:=Array.getElem?_eq_getElem hk;rw [hm.sub k _ (hs k _ h0)];exact h0.symm
 refine⟨hm.os,hm.tape,hm.out,?_,hb⟩;rcases Nat.eq_zero_or_pos w.heap.size with h0|h0
 ·omega
 ·have h1:=hb (w.heap.size-1) (by omega)
  have h2:(w.heap[w.heap.size-1]?)=some w.heap[w.heap.size-1]:=Array.getElem?_eq_getElem (by omega);rw [h2]at h1;have:=(Array.getElem?_eq_some_iff.1 h1).1;omega
theorem wN{P:Program}{f:FuncId}{S:aL}(h:FOk P f S){fn:Func}(hf:P.funcs[f]? =some fn)(hn:(fn.name== "runtime.NumGoroutine")=false)(hb:fn.body.isSome=true)(g:S.γ)(vs:List Value)(w:World)(hp:S.pre g vs (fg w))
  (hs:∀v A',S.post g vs (fg w) v A'→(fg w).Sub A'):Calls P f vs.toArray w fun e w'=>∃v,e= .returned v∧(∃A',S.post g vs (fg w) v A')∧Below w.heap.size w w':=
 (tY (h g vs (fg w) w (fun _ _ h=>h) hp) hf hn hb).mono fun _ _ ⟨v,he,A',h1,h2⟩=>⟨v,he,⟨A',h1⟩,tr (hs v A' h1) h2⟩
end
end Go.Sx
namespace Go.Proofs.YtphigpccfbfnoaaGreatDoor
open Go.Sx Go.RowKit Go.ChangeShapes Go.WideShapes
noncomputable section
section
variable {H : Type} {enc : TypeId × Value → H} {W : World}
theorem Di{n:Nat}{cs:List Value}(h:∃y,fM enc Tryz.prog W n 97 cs=some y∧eM Tryz.prog 97 y.1):∃m:bT,cs=m.cells:=by
 obtain⟨y,h,hf⟩:=h;obtain⟨hl,m,_,hx⟩:=pP (P:=Tryz.prog) Tryz.underlying97 h hf;have hl:cs.length=4:=hl.trans (by kernel_rfl);obtain⟨v0,v1,v2,v3,rfl⟩:=list4 hl;obtain⟨c0,rfl,_⟩:=fh (v:=v0) (l:= [v1,v2,v3]) Tryz.underlying3 (by kernel_rfl) (hx 0 _ rfl);obtain⟨c1,rfl,_⟩:=fh (v:=v1) (l:= [v2,v3]) Tryz.underlying95 (by kernel_rfl) (hx 1 _ rfl);obtain⟨c2,rfl,_⟩:=fh (v:=v2) (l:= [v3]) Tryz.underlying3 (by kernel_rfl) (hx 2 _ rfl);obtain⟨c3,rfl,_⟩:=fh (v:=v3) (l:= []) Tryz.underlying3 (by kernel_rfl) (hx 3 _ rfl);exact⟨⟨c0,c1,c2,c3⟩,rfl⟩
theorem zU{n:Nat}{v:Value}{l:List Value}(h:∃y,fM enc Tryz.prog W n 28 ((v::l).take (Tryz.prog.cellsOf 28))=some y∧eM Tryz.prog 28 y.1):∃ms,kD (fg W) v ms:=by
 obtain⟨y,h,hf⟩:=qZ (by kernel_rfl) h;obtain⟨rows,h1,h2,h3⟩:=nB (es:=4) (B:=32) Tryz.underlying28 (by kernel_rfl) (by decide) (by kernel_rfl) h hf
 have key:∀rows:List (List Value),(∀r∈rows,r.length=4∧∃m y,m<n∧fM enc Tryz.prog W m 97 r=some y∧eM Tryz.prog 97 y.1)→∃ms:List bT,rows=ms.map bT.cells:=by
  intro rows
  induction rows with
  |nil=>exact fun _=>⟨[],rfl⟩
  |cons r rows ih=>
   intro h;obtain⟨ms,rfl⟩:=ih fun x hx=>h x (List.mem_cons_of_mem _ hx)
   obtain⟨_,m,y,_,h5,h6⟩:=h r (by simp);obtain⟨d,rfl⟩:=Di ⟨y,h5,h6⟩;exact⟨d::ms,rfl⟩
 obtain⟨ms,rfl⟩:=key rows h3;rw [List.length_map]at h1 h2;exact⟨ms,h1,h2⟩
theorem nm{n:Nat}(ih:∀m,m<n→∀cs,(∃y,fM enc Tryz.prog W m 32 cs=some y∧eM Tryz.prog 32 y.1)→∃d,bj (fg W) d cs):
  ∀rows:List (List Value),(∀r∈rows,r.length=16∧∃m y,m<n∧fM enc Tryz.prog W m 32 r=some y∧eM Tryz.prog 32 y.1)→∃ds,cS (fg W) ds rows
 | [],_=>⟨[],rfl⟩
 |r::rows,h=>by
  obtain⟨ds,hd⟩:=nm ih rows fun x hx=>h x (List.mem_cons_of_mem _ hx)
  obtain⟨_,m,y,h4,h5,h6⟩:=h r (by simp);obtain⟨d,hr⟩:=ih m h4 r ⟨y,h5,h6⟩;exact⟨d::ds,r,rows,rfl,hr,hd⟩
theorem Cb(n:Nat):∀cs,(∃y,fM enc Tryz.prog W n 32 cs=some y∧eM Tryz.prog 32 y.1)→∃d,bj (fg W) d cs:=by
 induction n using Nat.strongRecOn with
 |_ n ih=>
  intro cs ⟨y,h,hf⟩;obtain⟨hl,m,hm,hx⟩:=pP (P:=Tryz.prog) Tryz.underlying32 h hf;have hl:cs.length=16:=hl.trans (by kernel_rfl);obtain⟨v0,v1,v2,v3,v4,v5,v6,v7,v8,v9,v10,v11,v12,v13,v14,v15,rfl⟩:=list16 hl;obtain⟨c0,rfl,_⟩:=fh (v:=v0) (l:= [v1,v2,v3,v4,v5,v6,v7,v8,v9,v10,v11,v12,v13,v14,v15]) Tryz.underlying24 (by kernel_rfl) (hx 0 _ rfl);obtain⟨c1,rfl,_⟩:=fh (v:=v1) (l:= [v2,v3,v4,v5,v6,v7,v8,v9,v10,v11,v12,v13,v14,v15]) Tryz.underlying25 (by kernel_rfl) (hx 1 _ rfl);obtain⟨c2,rfl,_⟩:=fh (v:=v2) (l:= [v3,v4,v5,v6,v7,v8,v9,v10,v11,v12,v13,v14,v15]) Tryz.underlying2 (by kernel_rfl) (hx 2 _ rfl);obtain⟨c3,rfl,_⟩:=fh (v:=v3) (l:= [v4,v5,v6,v7,v8,v9,v10,v11,v12,v13,v14,v15]) Tryz.underlying3 (by kernel_rfl) (hx 3 _ rfl);obtain⟨c4,rfl,_⟩:=fh (v:=v4) (l:= [v5,v6,v7,v8,v9,v10,v11,v12,v13,v14,v15]) Tryz.underlying3 (by kernel_rfl) (hx 4 _ rfl);obtain⟨c5,rfl,_⟩:=fh (v:=v5) (l:= [v6,v7,v8,v9,v10,v11,v12,v13,v14,v15]) Tryz.underlying2 (by kernel_rfl) (hx 5 _ rfl);obtain⟨c6,rfl,hc6⟩:=Cr (v:=v6) (l:= [v7,v8,v9,v10,v11,v12,v13,v14,v15]) Tryz.underlying9 (by kernel_rfl) (hx 6 _ rfl);obtain⟨bs,hbs⟩:=Em (v:=v7) (l:= [v8,v9,v10,v11,v12,v13,v14,v15]) Tryz.underlying26 Tryz.underlying5 (by kernel_rfl) (by kernel_rfl) (by kernel_rfl) (hx 7 _ rfl);obtain⟨c8,rfl,_⟩:=fh (v:=v8) (l:= [v9,v10,v11,v12,v13,v14,v15]) Tryz.underlying2 (by kernel_rfl) (hx 8 _ rfl);obtain⟨c9,rfl,_⟩:=fh (v:=v9) (l:= [v10,v11,v12,v13,v14,v15]) Tryz.underlying3 (by kernel_rfl) (hx 9 _ rfl);obtain⟨c10,rfl,_⟩:=fh (v:=v10) (l:= [v11,v12,v13,v14,v15]) Tryz.underlying3 (by kernel_rfl) (hx 10 _ rfl);obtain⟨c11,rfl,_⟩:=fh (v:=v11) (l:= [v12,v13,v14,v15]) Tryz.underlying3 (by kernel_rfl) (hx 11 _ rfl);obtain⟨c12,rfl,_⟩:=fh (v:=v12) (l:= [v13,v14,v15]) Tryz.underlying27 (by kernel_rfl) (hx 12 _ rfl);have he:∃y,fM enc Tryz.prog W m 30 ([v13,v14,v15].take (Tryz.prog.cellsOf 30))=some y∧eM Tryz.prog 30 y.1:=hx 13 _ rfl;rw [show Tryz.prog.cellsOf 30=2 by kernel_rfl]at he;obtain⟨ye,he,hfe⟩:=he;obtain⟨_,me,_,hxe⟩:=pP (P:=Tryz.prog) Tryz.underlying30 he hfe;obtain⟨c13,rfl,_⟩:=fh (v:=v13) (l:= [v14]) Tryz.underlying24 (by kernel_rfl) (hxe 0 _ rfl);have h14:=hxe 1 _ rfl;obtain⟨ms,hms⟩:=zU (v:=v14) (l:= []) h14;obtain⟨y,h,hf⟩:=qZ (P:=Tryz.prog) (t:=22) (v:=v15) (l:= []) (by kernel_rfl) (hx 14 _ rfl);obtain⟨rows,h1,h2,h3⟩:=nB (es:=16) (B:=184) Tryz.underlying22 (by kernel_rfl) (by decide) (by kernel_rfl) h hf;obtain⟨ds,hds⟩:=nm (n:=m) (fun k hk=>ih k (by omega)) rows h3;have hlen:=hds.length;rw [hlen]at h1 h2;exact⟨.mk ⟨c0,c1,c2,c3,c4,c5,c6,bs,c8,c9,c10,c11,c12,c13,ms⟩ ds,v7,v14,v15,rows,rfl,hc6,hbs,hms,h1,h2,hds⟩
theorem Gl{v:Value}{d:DataW H}{ps:List MemPlace}(h:DataW.Trod enc Tryz.prog W 0 (fun _=>true) true 22 v d ps)(hf:eM Tryz.prog 22 d)(hv:v.cells.toList= [v]):∃ds,gi (fg W) v ds:=by
 obtain⟨n,h⟩:=h;rw [hv]at h;obtain⟨rows,h1,h2,h3⟩:=nB (es:=16) (B:=184) Tryz.underlying22 (by kernel_rfl) (by decide) (by kernel_rfl) h hf;obtain⟨ds,hds⟩:=nm (n:=n) (fun k _=>Cb k) rows h3;have hlen:=hds.length;rw [hlen]at h1 h2;exact⟨ds,rows,h1,h2,hds⟩
end
end
end Go.Proofs.YtphigpccfbfnoaaGreatDoor
