/-
  Parts of the proof: IfA IsC InB ImP
-/
import Derived.Test.YtmmlhdiejkknnaaGreatDoorG14
import Derived.Test.YtmmlhdiejkknnaaGreatDoorG12
import Derived.Test.YtmmlhdiejkknnaaGreatDoorG13
set_option maxRecDepth 100000
set_option maxHeartbeats 0
namespace Go.Proofs.YtmmlhdiejkknnaaGreatDoor
open Go.Sx Go.RowKit
noncomputable section
open Classical
def alWr:TypeId→Bool:=fun t=>Nat.beq t 195
def uf:aY:=⟨Int×List bC,fun g vs A=>∃vm,vs= [.agg #[.int .i64 g.1,vm]]∧gq A vm g.2∧fL g.1 g.2=0,fun g _ A v A'=>A.Sub A'∧∃x,v= .tuple #[x,.int .i64 0]∧SlB (A'.minus A) x (dJ g.1 g.2)⟩
def nX(A0:aa)(w:Nat)(ver:Int)(ms:List bC):fj:=
 { γ:=Nat×aa,G:=fun s=>s.1≤ms.length∧BfN A0 s.2 w (ab ver++ab ms.length++(ms.take s.1).flatMap ky),
   keepS:= [5,26,27],keepB:= [],sl:=fun s=> [(28,.v (.int .i64 s.1))],bl:=fun _=> [],ar:=fun s=>s.2,mu:=fun s=>ms.length-s.1 }
theorem zP:aI Tryz.prog (bQ [aM 119 BG,aM 66 Dy,aM 72 xX] noC):=aD (aA _) (fun x hx=>by
 simp only [List.mem_cons,List.not_mem_nil,or_false]at hx;rcases hx with rfl|rfl|rfl
 ·exact au ue
 ·exact au zo
 ·exact au vx)
theorem BH:FOk Tryz.prog 70 uf:=by
 refine oO mixed alWr fun⟨ver,ms⟩ vs A hp=> ?_
 obtain⟨vm,rfl,hM,hE⟩:∃vm,vs= [.agg #[.int .i64 ver,vm]]∧gq A vm ms∧fL ver ms=0:=hp;have hM0:=hM;obtain⟨⟨ao,c,rfl,hc,hml,ha1,ha2,ha3⟩,hm32⟩:=hM0;have hin:=yx hE;obtain⟨h7,hv0,hv1,hmi⟩:=hin;refine⟨_,ic Tryz.prog _ noL 60 [(70,0)],60,zP,bg mixed zP (az _) _ _,fun blk os out tape D hD=> ?_⟩;conv=>lhs;whnf
 refine(hD _).2 ⟨((ver,ms):Int×List bC),⟨_,rfl,hM⟩,fun v A1 hq=> ?_⟩;have hq:A1=A∧v= .int .i64 (fL ver ms):=hq;rw [hE]at hq;have h9:=hq.1.symm;have hv:=hq.2;subst h9;subst hv;conv=>lhs;whnf
 refine(hD _).2 fun w A1 hN=> ?_
 have hN:A.New A1 w #[.slice none 0 0,.int .i64 0,.int .i8 0] 195:=hN;have hW0:=BfN.new (aa.Sub.refl A) hN rfl;conv=>lhs;whnf
 refine(hD _).2 ⟨((⟨A,w, []⟩,ver):NwG×Int),⟨rfl,hW0,Nat.zero_le _,by show _≤ver;omega,by show ver≤_;omega⟩,fun v A2 hq=> ?_⟩;obtain⟨hv,hW1⟩:v= .tuple #[]∧BfN A A2 w ([]++ab ver):=hq;subst hv;rw [List.nil_append]at hW1;have hlv:=aV ver;have hln:=aV (ms.length:Int);conv=>lhs;whnf
 refine(hD _).2 ⟨((⟨A,w,ab ver⟩,(ms.length:Int)):NwG×Int),⟨rfl,hW1,by show(ab ver).length≤_;omega,by show _≤(ms.length:Int);omega,by show(ms.length:Int)≤_;omega⟩,fun v A3 hq=> ?_⟩;obtain⟨hv,hW2⟩:v= .tuple #[]∧BfN A A3 w (ab ver++ab ms.length):=hq;subst hv;conv=>lhs;whnf
 have hG0:(nX A w ver ms).G (0,A3):=⟨Nat.zero_le _,by show BfN A A3 w (ab ver++ab ms.length++ []);rw [List.append_nil];exact hW2⟩;refine(hD _).2 ⟨nX A w ver ms,⟨((0,A3):Nat×aa),hG0,⟨rfl,trivial⟩,trivial,rfl⟩,fun(s:Nat×aa) hG=>⟨⟨trivial,trivial⟩,trivial,?_⟩⟩;clear hG0 hW2 hW1 hW0 hN;obtain⟨k,A4⟩:=s;obtain⟨hk,hW⟩:k≤ms.length∧BfN A A4 w (ab ver++ab ms.length++(ms.take k).flatMap ky):=hG;obtain⟨b0,hb0⟩:∃b0,b0=ab ver++ab ms.length++(ms.take k).flatMap ky:=⟨_,rfl⟩
 have hbl:b0.length≤300:=by
  have h9:=iz vz (ms.take k);rw [List.length_take]at h9
  have h8:min k ms.length*40≤280:=by
   have:min k ms.length≤7:=by omega
   omega
  rw [hb0,List.length_append,List.length_append];omega
 rw [←hb0]at hW;conv=>lhs;whnf
 refine af (fun hlt=> ?_) (fun hlt=> ?_)
 ·have hkl:k<ms.length:=by
    have hlt:(k:Int)<(ms.length:Int):=hlt;omega
  obtain⟨g,o,rfl,hra⟩:=Sl.at_ hc ha1 ha2 ha3 (by omega);have r1:=bI hW.1 (DC hra k hkl rfl);have i0:(0:Int)≤(k:Int)∧(k:Int)<(ms.length:Int):=by omega
  have hmk:=hmi ms[k] (List.getElem_mem _)
  have hfin:∀A9,BfN A A9 w (b0++ab ms[k].id++ab ms[k].role++ab ms[k].weight++ab ms[k].group)→(nX A w ver ms).G (k+1,A9):=fun A9 h9=>by
   refine⟨hkl,?_⟩;show BfN A A9 w (ab ver++ab ms.length++(ms.take (k+1)).flatMap ky)
   rw [mQ ky ms hkl,←List.append_assoc,←hb0];unfold ky;simp only [←List.append_assoc];exact h9
  generalize ms[k]=m at*;obtain⟨id,role,weight,group⟩:=m;obtain⟨m1,m2,m3,m4,m5,m6,m7,m8⟩:=hmk;dsimp only at m1 m2 m3 m4 m5 m6 m7 m8 r1 hfin;conv=>lhs;whnf
  repeat(first|refine cO i0 ?_|refine ai r1 ?_|refine aj hD rfl ?_
         conv=>lhs;whnf)
  have hrole: [Value.pointer (some ⟨w,0,none⟩),.int .i64 (IntKind.i64.wrap role)]= [.pointer (some ⟨w,0,none⟩),.int .i64 role]:=by rw [i64_in (by omega) (by omega)]
  have l1:=aV id;have l2:=aV role;have l3:=aV weight;have l4:=aV group;refine(hD _).2 ⟨((⟨A,w,b0⟩,id):NwG×Int),⟨rfl,hW,by show(b0).length≤_;(try simp only [List.length_append]);omega,by show _≤id;omega,by show id≤_;omega⟩,fun v A9 hq=> ?_⟩;have hq:v= .tuple #[]∧BfN A A9 w (b0++ab id):=hq;have hv:=hq.1;have hW:=hq.2;subst hv;clear hq;conv=>lhs;whnf
  repeat(first|refine aj hD rfl ?_
         conv=>lhs;whnf)
  refine(hD _).2 ⟨((⟨A,w,b0++ab id⟩,role):NwG×Int),⟨hrole,hW,by show(b0++ab id).length≤_;(try simp only [List.length_append]);omega,by show _≤role;omega,by show role≤_;omega⟩,fun v A9 hq=> ?_⟩;have hq:v= .tuple #[]∧BfN A A9 w (b0++ab id++ab role):=hq;have hv:=hq.1;have hW:=hq.2;subst hv;clear hq;conv=>lhs;whnf
  repeat(first|refine aj hD rfl ?_
         conv=>lhs;whnf)
  refine(hD _).2 ⟨((⟨A,w,b0++ab id++ab role⟩,weight):NwG×Int),⟨rfl,hW,by show(b0++ab id++ab role).length≤_;(try simp only [List.length_append]);omega,by show _≤weight;omega,by show weight≤_;omega⟩,fun v A9 hq=> ?_⟩;have hq:v= .tuple #[]∧BfN A A9 w (b0++ab id++ab role++ab weight):=hq;have hv:=hq.1;have hW:=hq.2;subst hv;clear hq;conv=>lhs;whnf
  repeat(first|refine aj hD rfl ?_
         conv=>lhs;whnf)
  refine(hD _).2 ⟨((⟨A,w,b0++ab id++ab role++ab weight⟩,group):NwG×Int),⟨rfl,hW,by show(b0++ab id++ab role++ab weight).length≤_;(try simp only [List.length_append]);omega,by show _≤group;omega,by show group≤_;omega⟩,fun v A9 hq=> ?_⟩;have hq:v= .tuple #[]∧BfN A A9 w (b0++ab id++ab role++ab weight++ab group):=hq;have hv:=hq.1;have hW:=hq.2;subst hv;clear hq;conv=>lhs;whnf
  repeat(first|refine aj hD rfl ?_
         conv=>lhs;whnf)
  have hG9:=hfin _ hW;exact(hD _).2 ⟨((k+1,_):Nat×aa),⟨hG9,⟨bf (by omega),trivial⟩,trivial,rfl⟩,by show ms.length-(k+1)<ms.length-k;omega,⟨dr rfl rfl,dr rfl rfl,dr rfl rfl,trivial⟩,trivial⟩
 ·have hk9:k=ms.length:=by
    have hlt:¬(k:Int)<(ms.length:Int):=hlt;omega
  conv=>lhs;whnf
  refine(hD _).2 ⟨(⟨A,w,b0⟩:NwG),⟨rfl,hW,by show b0.length≤_;omega⟩,fun v A5 hq=> ?_⟩;obtain⟨s5,hS⟩:A4.Sub A5∧SlB (A5.minus A4) v b0:=hq;have hS1:=hS.sub (oJ (A2:=A5) hW.1);obtain⟨av,cv,hv⟩:=hS.1.form;subst hv
  have hend:uf.post (ver,ms) [] A (.tuple #[.slice av b0.length cv,.int .i64 0]) A5:=by
   refine⟨hW.1.trans s5,_,rfl,?_⟩;show SlB (A5.minus A) _ (dJ ver ms)
   have e:dJ ver ms=b0:=by rw [hb0,hk9,List.take_length];rfl
   rw [e];exact hS1
  conv=>lhs;whnf
  repeat(first|refine aj hD rfl ?_
         conv=>lhs;whnf)
  exact(hD _).2 hend
def wU:aY:=⟨Nat,fun n vs _=>vs= [.int .u32 n],fun n _ A v A'=>A.Sub A'∧∃g,v= .slice (some ⟨g,0,none⟩) 4 4∧A.blk g=none∧ee A' g 1 5 4 4 ((iy n).map bv)⟩
theorem Co:FOk Tryz.prog 128 wU:=by
 refine bG mixed fun(n:Nat) vs A hp=> ?_
 obtain rfl:vs= [.int .u32 n]:=hp;refine⟨noC,noL,60,aA _,az _,fun blk os out tape D hD=> ?_⟩;have f0:=D9 n;have f1:=tZ n 8 (by decide);have f2:=tZ n 16 (by decide);have f3:=tZ n 24 (by decide);conv=>lhs;whnf
 refine(hD _).2 fun g A1 hN=> ?_
 have hN:A.New A1 g #[.int .u8 (IntKind.u8.wrap (n:Int)),.int .u8 (IntKind.u8.wrap ((n:Int).fdiv (2^(min (8:Int).toNat IntKind.u32.bits)))),.int .u8 (IntKind.u8.wrap ((n:Int).fdiv (2^(min (16:Int).toNat IntKind.u32.bits)))),.int .u8 (IntKind.u8.wrap ((n:Int).fdiv (2^(min (24:Int).toNat IntKind.u32.bits))))] 5:=hN
 have e: #[Value.int .u8 (IntKind.u8.wrap (n:Int)),.int .u8 (IntKind.u8.wrap ((n:Int).fdiv (2^(min (8:Int).toNat IntKind.u32.bits)))),.int .u8 (IntKind.u8.wrap ((n:Int).fdiv (2^(min (16:Int).toNat IntKind.u32.bits)))),.int .u8 (IntKind.u8.wrap ((n:Int).fdiv (2^(min (24:Int).toNat IntKind.u32.bits))))]=((iy n).map bv).toArray:=by
  rw [show(8:Int)=((8:Nat):Int)from rfl,show(16:Int)=((16:Nat):Int)from rfl,show(24:Int)=((24:Nat):Int)from rfl,f0,f1,f2,f3];rfl
 rw [e]at hN;have hend:wU.post n [.int .u32 n] A (.slice (some ⟨g,0,none⟩) 4 4) A1:=⟨hN.sub,g,rfl,hN.none_,⟨_,hN.at_,rfl,rfl⟩,Nat.le_refl _,rfl⟩;conv=>lhs;whnf
 exact(hD _).2 hend
def o8:aY:=⟨List UInt8,fun l vs A=>∃x,vs= [x]∧SlB A x l,fun l _ A v A'=>A.Sub A'∧(l.length≤1048576→∃L:LsD,v= .tuple #[L.v,.int .i64 0]∧LsN A A' L ((de l).map bv))∧(1048576<l.length→v= .tuple #[.slice none 0 0,.int .i64 3])⟩
theorem Ad:FOk Tryz.prog 71 o8:=by
 refine bG mixed fun(l:List UInt8) vs A hp=> ?_
 obtain⟨x,rfl,hX⟩:∃x,vs= [x]∧SlB A x l:=hp;have hX0:=hX;obtain⟨⟨ao,c,rfl,hc,hcl,ha1,ha2,ha3⟩,hxl⟩:=hX0
 have hC:aI Tryz.prog (bQ [aM 128 wU,aM 129 sumS] noC):=aD (aA _) (fun x hx=>by
  simp only [List.mem_cons,List.not_mem_nil,or_false]at hx;rcases hx with rfl|rfl
  ·exact au Co
  ·exact au Cw)
 refine⟨_,noL,60,hC,az _,fun blk os out tape D hD=> ?_⟩;conv=>lhs;whnf
 refine af (fun hgt=> ?_) (fun hgt=> ?_)<;>(conv=>lhs;whnf)
 ·have hgt:(1048576:Int)<(l.length:Int):=hgt
  exact(hD _).2 ⟨aa.Sub.refl _,fun h=>absurd h (by omega),fun _=>rfl⟩
 have hle:l.length≤1048576:=by
  have hgt:¬(1048576:Int)<(l.length:Int):=hgt;omega
 have hw1: [Value.int .u32 (IntKind.u32.wrap (l.length:Int))]= [.int .u32 (l.length:Int)]:=by rw [fS (by omega)]
 refine(hD _).2 ⟨l.length,hw1,fun v A1 hq=> ?_⟩;obtain⟨s1,g1,hv,hn1,hR1⟩:A.Sub A1∧∃g,v= .slice (some ⟨g,0,none⟩) 4 4∧A.blk g=none∧ee A1 g 1 5 4 4 ((iy l.length).map bv):=hq;subst hv;conv=>lhs;whnf
 refine(hD _).2 ⟨l,⟨_,rfl,hX.sub s1⟩,fun v A2 hq=> ?_⟩;obtain⟨s2,hv⟩:A1.Sub A2∧v= .int .u32 (dn (fM l)):=hq;subst hv;conv=>lhs;whnf
 refine(hD _).2 ⟨(fM l).toNat,rfl,fun v A3 hq=> ?_⟩;obtain⟨s3,g3,hv,hn3,hR3⟩:A2.Sub A3∧∃g,v= .slice (some ⟨g,0,none⟩) 4 4∧A2.blk g=none∧ee A3 g 1 5 4 4 ((iy (fM l).toNat).map bv):=hq;subst hv;have hs3:A.Sub A3:=s1.trans (s2.trans s3);have hL1:LsR A3 1 5 ⟨.slice (some ⟨g1,0,none⟩) 4 4,4,4,some g1⟩ ((iy l.length).map bv):= .inr ⟨g1,rfl,rfl,by show 0<4;omega,hR1.sub (s2.trans s3)⟩;have hap:=hL1.app;obtain⟨base,hbv, -,hG,hcont⟩:=hap
 have hb:base=some (g1,0):=by
  have hbv:Value.slice (some ⟨g1,0,none⟩) 4 4= .slice (cq base) 4 4:=hbv;injection hbv with h1 _ _
  exact(fO (b:=some (g1,0)) h1).symm
 subst hb;have hPd:=hG 4 1 (by omega) (by show 4+4≤1000000000;omega) (by omega);conv=>lhs;whnf
 repeat(first|refine aj hD rfl ?_
        conv=>lhs;whnf)
 refine(hD _).2 ⟨_,(iy (fM l).toNat).map bv,hPd.rd,mo (by decide) hR3.rd,rfl,iK _,by show 4+4≤9223372036854775807;omega,hPd.cap,rfl,hPd.none_,fun g' o' he' hle' _=>hPd.room 4 rfl g' o' he' hle',fun v9 A4 hAp=> ?_⟩;have hc9:=hcont 4 ((iy (fM l).toNat).map bv) v9 A4 rfl (by omega) hAp;obtain⟨L4,q1,q2,q3,q4,q5, -⟩:=hc9;have hm4:=LsN.more hs3 (fun g h=>by injection h with h;rw [←h];exact hn1) q3 q4 q5;obtain⟨hs4,hN4⟩:=hm4;have hf4:L4.n=8:=q2
 have hf5:∃g4,L4.v= .slice (some ⟨g4,0,none⟩) L4.n L4.c:=by
  rcases q3 with⟨_,h0,_⟩|⟨g4,_,h2,_⟩
  ·omega
  ·exact⟨g4,h2⟩
 obtain⟨g4,hv4⟩:=hf5;have hap4:=q3.app;obtain⟨base4,hbv4, -,hG4,hcont4⟩:=hap4
 have hb4:base4=some (g4,0):=by
  rw [hv4]at hbv4;injection hbv4 with h1 _ _
  exact(fO (b:=some (g4,0)) h1).symm
 subst hb4;have hv9:v9= .slice (some ⟨g4,0,none⟩) L4.n L4.c:=q1.symm.trans hv4;subst hv9
 have hcat:(iy l.length).map bv++(iy (fM l).toNat).map bv++l.map bv=(de l).map bv:=by
  unfold de;rw [List.map_append,List.map_append]
 by_cases hs:l= []
 ·have hl0:l.length=0:=by rw [hs];rfl
  have hP1:=hG4 1 1 (by omega) (by omega) (by omega);conv=>lhs;whnf
  repeat(first|refine aj hD rfl ?_
         conv=>lhs;whnf)
  refine(hD _).2 ⟨_, [],hP1.rd,uN hl0,by rw [hl0];rfl,fun v hv=>(by cases hv),(by show L4.n+l.length≤9223372036854775807;omega),fun h=>absurd h (by have:=hN4.1.rowAt (g4_of hN4.1 hv4 (by omega));have:=this.2.2.le;show ¬L4.c<L4.n+l.length;omega),rfl,hP1.none_,fun _ _ _ _ h=>absurd rfl h,fun v9 A5 hAp=> ?_⟩
  have hle4:L4.n+l.length≤L4.c:=by
   have:=(hN4.1.rowAt (g4_of hN4.1 hv4 (by omega))).2.2.le;omega
  have hsame:∀k,A5.blk k=A4.blk k:=by
   rcases hAp with⟨_,_,⟨_,rfl⟩|⟨g,o,_,hP⟩⟩|⟨h,_⟩
   ·exact fun _=>rfl
   ·exact tz hP
   ·exact absurd h (by omega)
  have hv9:v9= .slice (some ⟨g4,0,none⟩) (L4.n+l.length) L4.c:=by
   rcases hAp with⟨_,h,_⟩|⟨h,_⟩
   ·exact h
   ·exact absurd h (by omega)
  subst hv9
  have hend:o8.post l [.slice ao l.length c] A (.tuple #[.slice (some ⟨g4,0,none⟩) (L4.n+l.length) L4.c,.int .i64 0]) A5:=by
   refine⟨fun k o hk=>(hsame k).trans (hs4 k o hk),fun _=>⟨L4,by rw [hv4,hl0];rfl,?_,hN4.2⟩,fun h=>absurd h (by omega)⟩;have hnl:l.map bv= []:=by rw [hs];rfl
   rw [←hcat,hnl,List.append_nil];exact hN4.1.ck fun g o _ ho=>(hsame g).trans ho
  conv=>lhs;whnf
  repeat(first|refine aj hD rfl ?_
         conv=>lhs;whnf)
  exact(hD _).2 hend
 ·have hpos:0<l.length:=List.length_pos_iff.2 hs
  have hsrc:=Sl.at_ hc ha1 ha2 ha3 hpos;obtain⟨gx,ox,e,hra⟩:=hsrc;subst e;have hP1:=hG4 l.length 1 (by omega) (by omega) (by omega);conv=>lhs;whnf
  repeat(first|refine aj hD rfl ?_
         conv=>lhs;whnf)
  refine(hD _).2 ⟨_,l.map bv,hP1.rd,mo (by omega) (bI hs4 hra),by rw [List.length_map];exact(Nat.mul_one _).symm,iK l,(by show L4.n+l.length≤9223372036854775807;omega),hP1.cap,rfl,hP1.none_,fun g' o' he' hle' _=>hP1.room (l.map bv).length (by rw [List.length_map,Nat.mul_one]) g' o' he' hle',fun v9 A5 hAp=> ?_⟩;have hc9:=hcont4 l.length (l.map bv) v9 A5 (by rw [List.length_map,Nat.mul_one]) hpos hAp;obtain⟨L5,p1, -,p3,p4,p5, -⟩:=hc9;have hm5:=LsN.more hs4 hN4.2 p3 p4 p5;rw [hcat]at hm5;have hap5:=p3.app;obtain⟨b5,hb5, -⟩:=hap5;rw [p1]at hb5;subst hb5;have hend:o8.post l [.slice (some ⟨gx,ox,none⟩) l.length c] A (.tuple #[.slice (cq b5) L5.n L5.c,.int .i64 0]) A5:=⟨hm5.1,fun _=>⟨L5,by rw [p1],hm5.2⟩,fun h=>absurd h (by omega)⟩;conv=>lhs;whnf
  repeat(first|refine aj hD rfl ?_
         conv=>lhs;whnf)
  exact(hD _).2 hend
theorem BfR.grow{A A':aa}{w:Nat}{L:LsD}{l:List UInt8}(h:BfR A w L l)(hs:A.Sub A'):BfR A' w L l:=by
 obtain⟨⟨lr,k1⟩,k2,k3,k4,k5⟩:=h;exact⟨⟨lr,k1.sub fun o ho=>hs w o ho⟩,k2.ck fun g o _ ho=>hs g o ho,k3,k4,k5⟩
def vy:aY:=⟨NwG×List UInt8,fun g vs A=>∃x,vs= [.pointer (some ⟨g.1.w,0,none⟩),x]∧BfN g.1.A0 A g.1.w g.1.l∧g.1.l.length+g.2.length≤880000000∧(Sl g.1.A0 1 g.2.length x (g.2.map bv)∨∃A1,BfN g.1.A0 A1 g.1.w g.1.l∧A1.Sub A∧Sl (A.minus A1) 1 g.2.length x (g.2.map bv)),fun g _ _ v A'=>v= .tuple #[]∧BfN g.1.A0 A' g.1.w (g.1.l++ab g.2.length++g.2)⟩
theorem xY:FOk Tryz.prog 68 vy:=mP wT fun⟨⟨A0,w,l⟩,s⟩ _ A ⟨x,h1,h2,h6,h7⟩=>by
 rcases h7 with h7|⟨A1,⟨k1,k2,L,k4,k5⟩,hs,h7⟩
 ·obtain⟨h2,h3,L,h4,h5⟩:=h2
  exact⟨⟨w,L,l,s,A0⟩,⟨x,h1,h4,h6,h7,fun k o hk=>⟨h2 k o hk,fun e=>(by rw [e,h3]at hk;cases hk),fun e=>(by rw [h5 k e]at hk;cases hk)⟩⟩,fun _ _ ⟨k1,k2⟩=>⟨k1,BfN.to h2 h3 h5 k2⟩⟩
 ·refine⟨⟨w,L,l,s,A.minus A1⟩,⟨x,h1,k4.grow hs,h6,h7,fun k o hk=> ?_⟩,fun _ _ ⟨j1,j2⟩=>⟨j1,BfN.to h2.1 h2.2.1 k5 j2⟩⟩
  obtain⟨m1,m2⟩:=cj hk;refine⟨m2,fun e=> ?_,fun e=> ?_⟩
  ·obtain⟨lr,ht⟩:=k4.top
   obtain⟨o',ho⟩:=ht.dom;have ho:A1.blk w=some o':=ho;rw [e,ho]at m1;cases m1
  ·obtain⟨o',ho⟩:=k4.row.live e
   rw [ho]at m1;cases m1
def PutR(g:ji)(A:aa)(v:Value)(A':aa):Prop:=
 A.Sub A'∧(¬g.ok→v= .tuple #[.slice none 0 0,.int .i64 4])∧
 (g.ok→(ew (g.l.map (·.1)) g.ss g.ver g.ms g.f g.t).length≤1048576∧∃L:LsD,v= .tuple #[L.v,.int .i64 0]∧LsN A A' L ((de (ew (g.l.map (·.1)) g.ss g.ver g.ms g.f g.t)).map bv))
end
end Go.Proofs.YtmmlhdiejkknnaaGreatDoor
