/-
  Parts of the proof: FkR ApF
-/
import Derived.Test.YtphigpccfbfnoaaGreatDoorG16
import Derived.Test.YtphigpccfbfnoaaGreatDoorG19
import Derived.Test.YtphigpccfbfnoaaGreatDoorG18
import Derived.Test.YtphigpccfbfnoaaGreatDoorG20
import Derived.Test.YtphigpccfbfnoaaGreatDoorG21
import Derived.Test.YtphigpccfbfnoaaGreatDoorG22
set_option maxRecDepth 100000
set_option maxHeartbeats 0
namespace Go.Proofs.YtphigpccfbfnoaaGreatDoor
open Go.Sx Go.RowKit
noncomputable section
open Classical
def mmR(k i:Nat):List Value:= [.int .u8 0,.int .i64 (mkI (k:Int) (i:Int)),.int .i64 0,.int .i64 0,.int .i64 0,.int .i64 0,.string ⟨#[]⟩,.slice none 0 0,.int .i64 0,.int .i64 0,.int .i64 0,.int .i64 0,.int .i64 0,.int .i64 0,.int .i64 0,.int .i64 0,.int .i64 0,.int .i64 0,.slice none 0 0,.int .i64 0,.slice none 0 0,.slice none 0 0]
theorem nS(k i:Nat):(mmR k i).length=22:=rfl
theorem mmR_one(k i:Nat):∀v∈mmR k i,v.oneCell'=true:=fun v hv=>by
 simp only [mmR,List.mem_cons,List.not_mem_nil,or_false]at hv;rcases hv with rfl|rfl|rfl|rfl|rfl|rfl|rfl|rfl|rfl|rfl|rfl|rfl|rfl|rfl|rfl|rfl|rfl|rfl|rfl|rfl|rfl|rfl<;>rfl
theorem sQ:FOk Tryz.prog 111 (kH 22 46):=by
 refine aS mixed fun⟨(C:aa),(Ls:List LsD)⟩ vs A hp=> ?_
 obtain⟨x,rfl,hX,hsub,hlay,hD'⟩:∃x,vs= [x]∧Sl C 1 Ls.length x (Ls.map LsD.v)∧C.Sub A∧(∀j (h:j<Ls.length),∃cs,LsR A 22 46 Ls[j] cs)∧FlD C Ls:=hp;obtain⟨ao,c,rfl,hc, -,ha1,ha2,ha3⟩:=hX
 have hrow:∀k (hk:k<Ls.length),∃g0 o,ao=some ⟨g0,o,none⟩∧C.rd g0 (o+k*1) 1=some [Ls[k].v]:=fun k hk=>by
  obtain⟨g0,o,e,hra⟩:=Sl.at_ hc ha1 ha2 ha3 (by omega);exact⟨g0,o,e,BC hra k hk rfl⟩
 have hfew:=hD'.few
 have hC:aF Tryz.prog (bu [aE 144 r8,aE 10 oO] noC):=az (aj _) (fun x hx=>by
  simp only [List.mem_cons,List.not_mem_nil,or_false]at hx;rcases hx with rfl|rfl
  ·exact ai vY
  ·exact ai qb)
 have hin:=aH mixed hC (ak _) 60 [(111,2),(111,6),(111,10),(111,14),(111,18)];refine⟨_,da Tryz.prog _ (da Tryz.prog _ noL 60 [(111,2),(111,6),(111,10),(111,14),(111,18)]) 60 [(111,0),(111,4),(111,8),(111,12),(111,16)],60,hC,aH mixed hC hin _ _,fun blk os' out tape D hD=> ?_⟩;conv=>lhs;whnf
 refine(hD _).2 ⟨fl1 C 22 46 mmR Ls,⟨(⟨0,A⟩:FaG),⟨Nat.zero_le _,hsub,FlS.zero hlay⟩,⟨rfl,trivial⟩,trivial,rfl⟩,fun(s:FaG) hG=>⟨⟨trivial,trivial⟩,trivial,?_⟩⟩;clear hlay hsub;obtain⟨k,Ak⟩:=s;obtain⟨hk,hsub,hS⟩:k≤Ls.length∧C.Sub Ak∧FlS Ak 22 46 mmR Ls k 0:=hG;conv=>lhs;whnf
 refine ab (fun hlt=> ?_) (fun hlt=> ?_)
 ·have hlt:(k:Int)<(Ls.length:Int):=hlt
  have hkl:k<Ls.length:=by omega
  obtain⟨g0,o,rfl,hr0⟩:=hrow k hkl;have k0:(0:Int)≤(k:Int)∧(k:Int)<(Ls.length:Int):=by omega
  conv=>lhs;whnf
  refine(hD _).2 ⟨fl2 C 22 46 mmR Ls k Ls[k].n,⟨(⟨0,Ak⟩:FaG),⟨Nat.zero_le _,hsub,hS⟩,⟨rfl,trivial⟩,trivial,rfl⟩,fun(s:FaG) hG=>⟨⟨trivial,trivial⟩,trivial,?_⟩⟩;clear hS hsub;obtain⟨i,Ai⟩:=s;obtain⟨hi,hsub,hS⟩:i≤Ls[k].n∧C.Sub Ai∧FlS Ai 22 46 mmR Ls k i:=hG;obtain⟨base,hbv,hbase⟩:=(hS.at_ hkl).form;have hsm:=hD'.small k hkl
  have r1:Ai.rd g0 (o+k*1) 1=some [.slice (aD base) Ls[k].n Ls[k].c]:=by
   rw [←hbv];exact aJ hsub hr0
  conv=>lhs;whnf
  repeat(first|refine aq k0 ?_|refine af r1 ?_|refine au hD rfl ?_
         conv=>lhs;whnf)
  refine ab (fun hlt=> ?_) (fun hlt=> ?_)
  ·have hlt:(i:Int)<(Ls[k].n:Int):=hlt
   have hil:i<Ls[k].n:=by omega
   have i0:(0:Int)≤(i:Int)∧(i:Int)<(Ls[k].n:Int):=by omega
   obtain⟨g,hgv,hroom,hput⟩:=FlS.put nS hD' hsub hkl hS hil
   have r2:Ai.rd g0 (o+k*1) 1=some [.slice (some ⟨g,0,none⟩) Ls[k].n Ls[k].c]:=by
    rw [←hgv];exact aJ hsub hr0
   clear hbv hbase r1;conv=>lhs;whnf
   repeat(first|refine aq k0 ?_|refine aq i0 ?_|refine af r2 ?_|refine au hD rfl ?_
          conv=>lhs;whnf)
   refine(hD _).2 ⟨((k:Int),(i:Int)),rfl,fun v A9 hq=> ?_⟩;obtain⟨h9,hv⟩:A9=Ai∧v=(.agg (mkP (k:Int) (i:Int)).cells.toArray):=hq;subst h9;subst hv
   conv=>lhs;whnf
   repeat(first|refine aq k0 ?_|refine aq i0 ?_|refine af r2 ?_|refine au hD rfl ?_
          conv=>lhs;whnf)
   refine(hD _).2 ⟨hroom,fun A6 hPut=> ?_⟩;obtain⟨hS6,hs6⟩:=hput A6 hPut;conv=>lhs;whnf
   exact(hD _).2 ⟨(⟨i+1,A6⟩:FaG),⟨⟨hil,hs6,hS6⟩,⟨av (k:=i) (by omega),trivial⟩,trivial,rfl⟩,by show Ls[k].n-(i+1)<Ls[k].n-i;omega,⟨an rfl rfl,an rfl rfl,trivial⟩,trivial⟩
  ·have hie:i=Ls[k].n:=by
     have hlt:¬((i:Int)<(Ls[k].n:Int)):=hlt;omega
   subst hie;conv=>lhs;whnf
   exact(hD _).2 ⟨(⟨k+1,Ai⟩:FaG),⟨⟨hkl,hsub,hS.next hkl⟩,⟨av (k:=k) (by omega),trivial⟩,trivial,rfl⟩,by show Ls.length-(k+1)<Ls.length-k;omega,⟨an rfl rfl,trivial⟩,trivial⟩
 have hF:=hS.full (by
  have hlt:¬((k:Int)<(Ls.length:Int)):=hlt
  omega)
 clear hS hk hlt;conv=>lhs;whnf
 refine(hD _).2 ⟨Int.natCast_nonneg _,Int.le_refl _,by show(Ls.length:Int)≤9223372036854775807;omega,by show 24*Ls.length≤281474976710656;omega,rfl,fun gb A1 c1 hc1 hN1=> ?_⟩;have hN1:Ak.New A1 gb c1 44:=hN1
 have hc1:c1.toList=List.replicate Ls.length gX:=by
  rw [hc1];show(List.replicate Ls.length [gX]).flatten=_
  rw [List.flatten_replicate_singleton]
 have hG1:FlG C A1 22 46 mmR Ls gb 64 [] (List.replicate (Ls.length-0) gX):=FlG.start hsub hF hN1 hc1 (by simp);clear hF hsub hN1 hc1;conv=>lhs;whnf
 refine(hD _).2 ⟨fl3 C 22 46 mmR Ls gb,⟨(⟨A1, []⟩:FbG),hG1,⟨rfl,trivial⟩,trivial,rfl⟩,fun(s:FbG) hG=>⟨⟨trivial,trivial⟩,trivial,?_⟩⟩;clear hG1;obtain⟨A2,Ws⟩:=s;have hG:FlG C A2 22 46 mmR Ls gb 64 Ws (List.replicate (Ls.length-Ws.length) gX):=hG
 have hWl:Ws.length≤Ls.length:=by
  have:=hG.rl;omega
 conv=>lhs;whnf
 refine ab (fun hlt=> ?_) (fun hlt=> ?_)
 ·have hlt:(Ws.length:Int)<(Ls.length:Int):=hlt
  have hkl:Ws.length<Ls.length:=by omega
  obtain⟨g0,o,rfl,hr0⟩:=hrow Ws.length hkl;have k0:(0:Int)≤(Ws.length:Int)∧(Ws.length:Int)<(Ls.length:Int):=by omega
  have hFk:=hG.full Ws.length hkl;obtain⟨base,hbv,hbase⟩:=hFk.form;have hsm:=hD'.small Ws.length hkl
  have r1:A2.rd g0 (o+Ws.length*1) 1=some [.slice (aD base) Ls[Ws.length].n Ls[Ws.length].c]:=by
   rw [←hbv];exact aJ hG.sub hr0
  conv=>lhs;whnf
  repeat(first|refine aq k0 ?_|refine af r1 ?_|refine au hD rfl ?_
         conv=>lhs;whnf)
  refine(hD _).2 ⟨fl4 A2 22 46 (mmR Ws.length) Ls[Ws.length],⟨(⟨0,A2,Ls[Ws.length]⟩:FcG),⟨Nat.zero_le _,FlR.start hFk,fun _ h=>h⟩,⟨congrArg (fun x=>some (SV.v x)) hbv.symm,rfl,trivial⟩,trivial,rfl⟩,fun(s:FcG) hG'=>⟨⟨trivial,trivial,trivial⟩,trivial,?_⟩⟩;have hbv':=hbv;clear hbase;obtain⟨i,Ai,⟨wv,wn,wc,wg⟩⟩:=s;obtain⟨hi,hR,hdom⟩:i≤64∧FlR A2 Ai 22 46 (mmR Ws.length) Ls[Ws.length] ⟨wv,wn,wc,wg⟩ i (Ls[Ws.length].n+i)∧∀x,Ai.blk x=none→A2.blk x=none:=hG';have hwn:wn=Ls[Ws.length].n+i:=hR.wn;obtain⟨base2,cs2,hwv,hbase2,hcs2,hG2,hA2⟩:=hR.app;have hwv:wv= .slice (aD base2) wn wc:=hwv;subst hwv;have hsubi:C.Sub Ai:=fun x o hx=>hR.bk x o (hG.sub x o hx) fun h9=>by rw [hD'.c0 _ hkl x h9]at hx;cases hx
  conv=>lhs;whnf
  refine ab (fun hlt=> ?_) (fun hlt=> ?_)
  ·have hlt:(i:Int)<64:=hlt
   have hi64:i<64:=by omega
   have hw:IntKind.i64.wrap ((Ls[Ws.length].n:Int)+(i:Int))=((Ls[Ws.length].n+i:Nat):Int):=by
    rw [Sx.wrap_i64 (by omega) (by omega)];omega
   have hr9:=aJ hsubi hr0;rw [hbv']at hr9;conv=>lhs;whnf
   repeat(first|refine aq k0 ?_|refine af hr9 ?_|refine au hD rfl ?_
          conv=>lhs;whnf)
   refine(hD _).2 ⟨((Ws.length:Int),IntKind.i64.wrap ((Ls[Ws.length].n:Int)+(i:Int))),rfl,fun v A9 hq=> ?_⟩;obtain⟨h9,hv⟩:A9=Ai∧v=(.agg (mkP (Ws.length:Int) (IntKind.i64.wrap ((Ls[Ws.length].n:Int)+(i:Int)))).cells.toArray):=hq;rw [hw]at hv;subst h9;subst hv
   conv=>lhs;whnf
   repeat(first|refine aq k0 ?_|refine af hr9 ?_|refine au hD rfl ?_
          conv=>lhs;whnf)
   refine(hD _).2 fun ge A8 hN8=> ?_
   have hN8:A9.New A8 ge (List.toArray (mmR Ws.length (Ls[Ws.length].n+i))) 46:=hN8;have hR8:=hR.more hN8.sub;obtain⟨base3,cs3,hwv3, -,hcs3,hG3,hA3⟩:=hR8.app;have hwv3:Value.slice (aD base2) wn wc= .slice (aD base3) wn wc:=hwv3
   have hb3:base2=base3:=by
    injection hwv3 with h1 _ _
    exact dJ h1
   subst hb3;have hPd:=hG3 1 248 (by omega) (by show wn+1≤1000000000;omega) (by omega);have hone:∀v∈mmR Ws.length (Ls[Ws.length].n+i),v.oneCell'=true:=mmR_one _ _
   have hrow9:A8.rd ge 0 (1*22)=some (mmR Ws.length (Ls[Ws.length].n+i)):=by
    have:=hN8.rd (o:=0) (n:=1*22) (by show 0+1*22≤22;omega);exact this
   have hdn:∀x,A8.blk x=none→A2.blk x=none:=fun x hx=>hdom x (by
    cases h:A9.blk x with
    |none=>rfl
    |some o'=>rw [hN8.sub x o' h]at hx;cases hx)
   rcases hbase2 with rfl|⟨gx,ox,rfl⟩<;>(conv=>lhs;whnf)
   all_goals
    refine(hD _).2 ⟨cs3,mmR Ws.length (Ls[Ws.length].n+i),hPd.rd,hrow9,rfl,hone,?_,hPd.cap,rfl,hPd.none_,fun g' o' he' hle' _=>hPd.room 22 rfl g' o' he' hle',fun v9 A7 hAp=> ?_⟩
    ·show wn+1≤9223372036854775807
     omega
    ·obtain⟨⟨w1,w2,w3,w4⟩,e1,hR7,hmk⟩:=hA3 1 _ v9 A7 rfl (by omega) hdn hAp
     have e1:w1=v9:=e1;subst e1;have hM7:=hmk 1 hwn.symm (by simp [mmR]) (Nat.le_refl _);have hR7':FlR A2 A7 22 46 (mmR Ws.length) Ls[Ws.length] ⟨w1,w2,w3,w4⟩ (i+1) (Ls[Ws.length].n+(i+1)):=⟨hR7.bk,hR7.old,hM7,hR7.wn,hR7.wg,hR7.wc⟩;conv=>lhs;whnf
     exact(hD _).2 ⟨(⟨i+1,A7,⟨w1,w2,w3,w4⟩⟩:FcG),⟨⟨hi64,hR7',fun x hx=>hdn x (oD hAp hx)⟩,⟨rfl,av (k:=i) (by omega),trivial⟩,trivial,rfl⟩,by show 64-(i+1)<64-i;omega,⟨an rfl rfl,an rfl rfl,an rfl rfl,trivial⟩,trivial⟩
  ·have hie:i=64:=by
     have hlt:¬((i:Int)<64):=hlt;omega
   subst hie
   have k1:(0:Int)≤(Ws.length:Int)∧(Ws.length:Int)<(((Ls.length:Int).toNat:Nat):Int):=by
    rw [Int.toNat_natCast];exact k0
   obtain⟨d,hd⟩:∃d,Ls.length-Ws.length=d+1:=⟨Ls.length-Ws.length-1,by omega⟩;rw [hd,List.replicate_succ]at hG;have hgs:aG Ai gb (Ws.map LsD.v++gX::List.replicate d gX):=hG.gs.sub fun o ho=>hR.bk gb o ho (hG.gbL _ hkl)
   have hroom:Ai.Room gb (0+Ws.length*1) 1:=hgs.room (by rw [List.length_append,List.length_map,List.length_cons];omega);conv=>lhs;whnf
   repeat(first|refine aq k1 ?_|refine au hD rfl ?_
          conv=>lhs;whnf)
   refine(hD _).2 ⟨hroom,fun A6 hPut=> ?_⟩;have hG6:=hG.next hD' hkl hR hPut
   have hd2:d=Ls.length-(Ws++ [(⟨.slice (aD base2) wn wc,wn,wc,wg⟩:LsD)]).length:=by
    rw [List.length_append,List.length_singleton];omega
   rw [hd2]at hG6;conv=>lhs;whnf
   exact(hD _).2 ⟨(⟨A6,Ws++ [(⟨.slice (aD base2) wn wc,wn,wc,wg⟩:LsD)]⟩:FbG),⟨hG6,⟨(av (k:=Ws.length) (by omega)).trans (by rw [List.length_append,List.length_singleton]),trivial⟩,trivial,rfl⟩,by show Ls.length-(Ws++ [(⟨.slice (aD base2) wn wc,wn,wc,wg⟩:LsD)]).length<Ls.length-Ws.length;rw [List.length_append,List.length_singleton];omega,⟨an rfl rfl,an rfl rfl,trivial⟩,trivial⟩
 have hWe:Ws.length=Ls.length:=by
  have hlt:¬((Ws.length:Int)<(Ls.length:Int)):=hlt;omega
 rw [hWe,Nat.sub_self,List.replicate_zero]at hG;clear hlt hWl;conv=>lhs;whnf
 refine(hD _).2 ⟨fl5 A2 Ls.length,⟨(0:Nat),Nat.zero_le _,⟨rfl,trivial⟩,trivial,rfl⟩,fun(k:Nat) hk=>⟨⟨trivial,trivial⟩,trivial,?_⟩⟩;have hk:k≤Ls.length:=hk;conv=>lhs;whnf
 refine ab (fun hlt=> ?_) (fun hlt=> ?_)
 ·have hlt:(k:Int)<(Ls.length:Int):=hlt
  have hkl:k<Ls.length:=by omega
  obtain⟨g0,o,rfl,hr0⟩:=hrow k hkl;have k0:(0:Int)≤(k:Int)∧(k:Int)<(Ls.length:Int):=by omega
  have k1:(0:Int)≤(k:Int)∧(k:Int)<(((Ls.length:Int).toNat:Nat):Int):=by
   rw [Int.toNat_natCast];exact k0
  have hsm:=hD'.small k hkl;obtain⟨hw1,hw2⟩:=hG.ws k (by omega) hkl;obtain⟨gw,hwv,hwr⟩:=hw1.reads (nS k) (by omega);obtain⟨base,gl,hbv,hbo,hlr⟩:=(hG.full k hkl).both (nS k)
  have rls:A2.rd g0 (o+k*1) 1=some [.slice (aD base) Ls[k].n Ls[k].c]:=by
   rw [←hbv];exact aJ hG.sub hr0
  have rgs:A2.rd gb (0+k*1) 1=some [.slice (some ⟨gw,0,none⟩) (Ls[k].n+64) (Ws[k]'(by omega)).c]:=by
   rw [←hw2,←hwv];have h9:=hG.gs.rd (o:=0+k*1) (n:=1) (by rw [List.length_append,List.length_map];omega);rw [h9,List.append_nil,Nat.zero_add,Nat.mul_one,←List.map_drop,←List.map_take,List.drop_eq_getElem_cons (by omega)];rfl
  conv=>lhs;whnf
  refine(hD _).2 ⟨fl6 A2 (Ls[k].n+64),⟨(0:Nat),Nat.zero_le _,⟨rfl,trivial⟩,trivial,rfl⟩,fun(i:Nat) hi=>⟨⟨trivial,trivial⟩,trivial,?_⟩⟩;have hi:i≤Ls[k].n+64:=hi;conv=>lhs;whnf
  repeat(first|refine aq k1 ?_|refine af rgs ?_|refine au hD rfl ?_
         conv=>lhs;whnf)
  refine ab (fun hlt=> ?_) (fun hlt=> ?_)
  ·have hlt:(i:Int)<((Ls[k].n+64:Nat):Int):=hlt
   have hil:i<Ls[k].n+64:=by omega
   have i0:(0:Int)≤(i:Int)∧(i:Int)<((Ls[k].n+64:Nat):Int):=by omega
   have rw9:A2.rd gw (0+i*22) 22=some [.int .u8 0,.int .i64 (mkI (k:Int) (i:Int)),.int .i64 0,.int .i64 0,.int .i64 0,.int .i64 0,.string ⟨#[]⟩,.slice none 0 0,.int .i64 0,.int .i64 0,.int .i64 0,.int .i64 0,.int .i64 0,.int .i64 0,.int .i64 0,.int .i64 0,.int .i64 0,.int .i64 0,.slice none 0 0,.int .i64 0,.slice none 0 0,.slice none 0 0]:=hwr i hil;conv=>lhs;whnf
   repeat(first|refine aq k1 ?_|refine aq i0 ?_|refine af rgs ?_|refine af rw9 ?_|refine au hD rfl ?_
          conv=>lhs;whnf)
   refine(hD _).2 ⟨((k:Int),(i:Int)),rfl,fun v A9 hq=> ?_⟩;obtain⟨h9,hv⟩:A9=A2∧v=(.agg (mkP (k:Int) (i:Int)).cells.toArray):=hq;subst h9;subst hv
   conv=>lhs;whnf
   repeat(first|refine aq k1 ?_|refine aq i0 ?_|refine af rgs ?_|refine af rw9 ?_|refine au hD rfl ?_
          conv=>lhs;whnf)
   refine(hD _).2 ⟨(mkP (k:Int) (i:Int)),rfl,fun v AQ hq=> ?_⟩;have hq:AQ=_∧v= .bool true:=hq;have hqA:=hq.1.symm;have hv:=hq.2;subst hqA;subst hv
   conv=>lhs;whnf
   repeat(first|refine aq k0 ?_|refine af rls ?_|refine au hD rfl ?_
          conv=>lhs;whnf)
   refine ab (fun hln=> ?_) (fun hln=> ?_)
   ·have hln:(i:Int)<(Ls[k].n:Int):=hln
    have hb:=hbo (by omega);have i2:(0:Int)≤(i:Int)∧(i:Int)<(Ls[k].n:Int):=by omega
    have rl9:A9.rd gl (0+i*22) 22=some [.int .u8 0,.int .i64 (mkI (k:Int) (i:Int)),.int .i64 0,.int .i64 0,.int .i64 0,.int .i64 0,.string ⟨#[]⟩,.slice none 0 0,.int .i64 0,.int .i64 0,.int .i64 0,.int .i64 0,.int .i64 0,.int .i64 0,.int .i64 0,.int .i64 0,.int .i64 0,.int .i64 0,.slice none 0 0,.int .i64 0,.slice none 0 0,.slice none 0 0]:=hlr i (by omega)
    have rls2:A9.rd g0 (o+k*1) 1=some [.slice (some ⟨gl,0,none⟩) Ls[k].n Ls[k].c]:=by
     rw [←hb];exact rls
    conv=>lhs;whnf
    repeat(first|refine aq k0 ?_|refine aq i2 ?_|refine af rls2 ?_|refine af rl9 ?_|refine au hD rfl ?_
           conv=>lhs;whnf)
    refine(hD _).2 ⟨((k:Int),(i:Int)),rfl,fun v A7 hq=> ?_⟩;obtain⟨h9,hv⟩:A7=A9∧v=(.agg (mkP (k:Int) (i:Int)).cells.toArray):=hq;subst h9;subst hv
    conv=>lhs;whnf
    repeat(first|refine aq k0 ?_|refine aq i2 ?_|refine af rls2 ?_|refine af rl9 ?_|refine au hD rfl ?_
           conv=>lhs;whnf)
    refine(hD _).2 ⟨(mkP (k:Int) (i:Int)),rfl,fun v AQ hq=> ?_⟩;have hq:AQ=_∧v= .bool true:=hq;have hqA:=hq.1.symm;have hv:=hq.2;subst hqA;subst hv
    conv=>lhs;whnf
    exact(hD _).2 ⟨(i+1:Nat),⟨hil,⟨av (k:=i) (by omega),trivial⟩,trivial,rfl⟩,by show Ls[k].n+64-(i+1)<Ls[k].n+64-i;omega,⟨an rfl rfl,an rfl rfl,an rfl rfl,trivial⟩,trivial⟩
   ·conv=>lhs;whnf
    exact(hD _).2 ⟨(i+1:Nat),⟨hil,⟨av (k:=i) (by omega),trivial⟩,trivial,rfl⟩,by show Ls[k].n+64-(i+1)<Ls[k].n+64-i;omega,⟨an rfl rfl,an rfl rfl,an rfl rfl,trivial⟩,trivial⟩
  ·conv=>lhs;whnf
   exact(hD _).2 ⟨(k+1:Nat),⟨hkl,⟨av (k:=k) (by omega),trivial⟩,trivial,rfl⟩,by show Ls.length-(k+1)<Ls.length-k;omega,⟨an rfl rfl,an rfl rfl,trivial⟩,trivial⟩
 clear hlt hk;have hG4:=hG.again (q':=0)
 have hWn:∀j (h:j<Ws.length),0<Ws[j].n:=fun j h=>by
  have:=(hG.ws j h (by omega)).2;omega
 clear hG;conv=>lhs;whnf
 refine(hD _).2 ⟨fl7 C 22 46 mmR Ls Ws gb,⟨(⟨A2, []⟩:FbG),hG4,⟨rfl,trivial⟩,trivial,rfl⟩,fun(s:FbG) hG=>⟨⟨trivial,trivial⟩,trivial,?_⟩⟩;clear hG4;obtain⟨A3,Vs⟩:=s;have hG:FlG C A3 22 46 mmR Ls gb 0 Vs ((Ws.drop Vs.length).map LsD.v):=hG
 have hVl:Vs.length≤Ls.length:=by
  have:=hG.rl;omega
 conv=>lhs;whnf
 refine ab (fun hlt=> ?_) (fun hlt=> ?_)
 ·have hlt:(Vs.length:Int)<(Ls.length:Int):=hlt
  have hkl:Vs.length<Ls.length:=by omega
  obtain⟨g0,o,rfl,hr0⟩:=hrow Vs.length hkl;have k0:(0:Int)≤(Vs.length:Int)∧(Vs.length:Int)<(Ls.length:Int):=by omega
  have k1:(0:Int)≤(Vs.length:Int)∧(Vs.length:Int)<(((Ls.length:Int).toNat:Nat):Int):=by
   rw [Int.toNat_natCast];exact k0
  have hFk:=hG.full Vs.length hkl;have hsm:=hD'.small Vs.length hkl;conv=>lhs;whnf
  refine(hD _).2 ⟨by omega,Int.le_refl _,by omega,by show 248*64≤281474976710656;omega,rfl,fun mb A4 c4 hc4 hN4=> ?_⟩;have hN4:A3.New A4 mb c4 46:=hN4;have hc4:c4.toList=(List.replicate 64 [Value.int .u8 0,.int .i64 0,.int .i64 0,.int .i64 0,.int .i64 0,.int .i64 0,.string ⟨#[]⟩,.slice none 0 0,.int .i64 0,.int .i64 0,.int .i64 0,.int .i64 0,.int .i64 0,.int .i64 0,.int .i64 0,.int .i64 0,.int .i64 0,.int .i64 0,.slice none 0 0,.int .i64 0,.slice none 0 0,.slice none 0 0]).flatten:=hc4
  have hmb:C.blk mb=none:=by
   cases h:C.blk mb with
   |none=>rfl
   |some o'=>
    have:=hN4.none_;rw [hG.sub mb o' h]at this
    cases this
  have hcm:aG A4 mb (List.replicate 64 [Value.int .u8 0,.int .i64 0,.int .i64 0,.int .i64 0,.int .i64 0,.int .i64 0,.string ⟨#[]⟩,.slice none 0 0,.int .i64 0,.int .i64 0,.int .i64 0,.int .i64 0,.int .i64 0,.int .i64 0,.int .i64 0,.int .i64 0,.int .i64 0,.int .i64 0,.slice none 0 0,.int .i64 0,.slice none 0 0,.slice none 0 0]).flatten:=by
   rw [←hc4];exact aG.new hN4
  conv=>lhs;whnf
  refine(hD _).2 ⟨fl8 A3 22 mb,⟨(⟨0,A4⟩:FaG),⟨Nat.zero_le _,hN4.sub,_,hcm,rfl,fun v hv=>by
   obtain⟨r,hr,hv⟩:=List.mem_flatten.1 hv;rw [List.eq_of_mem_replicate hr]at hv;simp only [List.mem_cons,List.not_mem_nil,or_false]at hv
   rcases hv with rfl|rfl|rfl|rfl|rfl|rfl|rfl|rfl|rfl|rfl|rfl|rfl|rfl|rfl|rfl|rfl|rfl|rfl|rfl|rfl|rfl|rfl<;>rfl⟩,⟨rfl,trivial⟩,trivial,rfl⟩,fun(s:FaG) hG'=>⟨⟨trivial,trivial⟩,trivial,?_⟩⟩
  obtain⟨i,A5⟩:=s;obtain⟨hi,hs5,cm,hcm5,hml,hmo⟩:i≤64∧A3.Sub A5∧∃cs,aG A5 mb cs∧cs.length=64*22∧∀v∈cs,v.oneCell'=true:=hG';have hR5:=(FlR.start hFk).more hs5;obtain⟨base3,cs3,hwv3,hbase3,hcs3,hG3,hA3⟩:=hR5.app;have hsub5:C.Sub A5:=hG.sub.trans hs5
  have rls:A5.rd g0 (o+Vs.length*1) 1=some [.slice (aD base3) Ls[Vs.length].n Ls[Vs.length].c]:=by
   rw [←hwv3];exact aJ hsub5 hr0
  have hPd:=hG3 64 248 (by omega) (by show Ls[Vs.length].n+64≤1000000000;omega) (by omega)
  have hrm:A5.rd mb 0 (64*22)=some cm:=by
   have h9:=hcm5.rd (o:=0) (n:=64*22) (by omega);rw [h9,List.drop_zero,List.take_of_length_le (by omega)]
  have hgs:aG A5 gb (Vs.map LsD.v++(Ws.drop Vs.length).map LsD.v):=hG.gs.sub fun o' ho=>hs5 _ _ ho
  have hdn5:∀x,A5.blk x=none→A3.blk x=none:=fun x hx=>by
   cases h:A3.blk x with
   |none=>rfl
   |some o'=>rw [hs5 x o' h]at hx;cases hx
  conv=>lhs;whnf
  refine ab (fun hlt=> ?_) (fun hlt=> ?_)
  ·have hlt:(i:Int)<64:=hlt
   have hi64:i<64:=by omega
   have i0:(0:Int)≤(i:Int)∧(i:Int)<64:=by omega
   have hroom:A5.Room mb (0+i*22) 22:=hcm5.room (by omega);conv=>lhs;whnf
   repeat(first|refine aq i0 ?_|refine au hD rfl ?_
          conv=>lhs;whnf)
   refine(hD _).2 ⟨(IntKind.i64.wrap ((Vs.length:Int)+(Ls.length:Int)),(i:Int)),rfl,fun v A9 hq=> ?_⟩;obtain⟨h9,hv⟩:A9=A5∧v=(.agg (mkP (IntKind.i64.wrap ((Vs.length:Int)+(Ls.length:Int))) (i:Int)).cells.toArray):=hq;subst h9;subst hv
   conv=>lhs;whnf
   repeat(first|refine aq i0 ?_|refine au hD rfl ?_
          conv=>lhs;whnf)
   refine(hD _).2 ⟨hroom,fun A6 hPut=> ?_⟩;have hPut:A9.Put A6 mb (0+i*22) [.int .u8 0,.int .i64 (mkI (IntKind.i64.wrap ((Vs.length:Int)+(Ls.length:Int))) (i:Int)),.int .i64 0,.int .i64 0,.int .i64 0,.int .i64 0,.string ⟨#[]⟩,.slice none 0 0,.int .i64 0,.int .i64 0,.int .i64 0,.int .i64 0,.int .i64 0,.int .i64 0,.int .i64 0,.int .i64 0,.int .i64 0,.int .i64 0,.slice none 0 0,.int .i64 0,.slice none 0 0,.slice none 0 0]:=hPut;have hc6:=hcm5.put hPut (by show 0+i*22+22≤cm.length;omega);conv=>lhs;whnf
   exact(hD _).2 ⟨(⟨i+1,A6⟩:FaG),⟨⟨hi64,fun x o' hx=>by
    rw [hPut.other x fun e=>(by rw [e,hN4.none_]at hx;cases hx)];exact hs5 x o' hx,_,hc6,by
    simp only [List.length_append,List.length_take,List.length_drop,List.length_cons,List.length_nil];omega,fun v hv=>by
    rcases List.mem_append.1 hv with hv|hv
    ·rcases List.mem_append.1 hv with hv|hv
     ·exact hmo v (List.mem_of_mem_take hv)
     ·simp only [List.mem_cons,List.not_mem_nil,or_false]at hv
      rcases hv with rfl|rfl|rfl|rfl|rfl|rfl|rfl|rfl|rfl|rfl|rfl|rfl|rfl|rfl|rfl|rfl|rfl|rfl|rfl|rfl|rfl|rfl<;>rfl
    ·exact hmo v (List.mem_of_mem_drop hv)⟩,⟨av (k:=i) (by omega),trivial⟩,trivial,rfl⟩,by show 64-(i+1)<64-i;omega,⟨an rfl rfl,an rfl rfl,an rfl rfl,an rfl rfl,trivial⟩,trivial⟩
  ·clear hlt
   rcases hbase3 with rfl|⟨gx,ox,rfl⟩<;>(conv=>lhs;whnf)
   all_goals
    repeat(first|refine aq k0 ?_|refine aq k1 ?_|refine af rls ?_|refine au hD rfl ?_
           conv=>lhs;whnf)
    refine(hD _).2 ⟨cs3,cm,hPd.rd,?_,hml,hmo,?_,hPd.cap,rfl,hPd.none_,fun g' o' he' hle' _=>hPd.room cm.length hml g' o' he' hle',fun v9 A7 hAp=> ?_⟩
    ·show(if 64*22=0 then some []else A5.rd mb 0 (64*22))=_
     rw [if_neg (by omega)];exact hrm
    ·show Ls[Vs.length].n+64≤9223372036854775807
     omega
    ·obtain⟨W',e1,hR7, -⟩:=hA3 64 cm v9 A7 hml (by omega) hdn5 hAp
     obtain⟨b9,hb9, -⟩:=hR7.w.form;rw [e1]at hb9;subst hb9;have hR7':FlR A3 A7 22 46 (mmR Vs.length) Ls[Vs.length] W' 64 (Ls[Vs.length].n+0):=hR7;have hdr:Ws.drop Vs.length=Ws[Vs.length]'(by omega)::Ws.drop (Vs.length+1):=List.drop_eq_getElem_cons (by omega);rw [hdr,List.map_cons]at hG;have hg7:aG A7 gb (Vs.map LsD.v++((Ws[Vs.length]'(by omega)).v::(Ws.drop (Vs.length+1)).map LsD.v)):=hG.gs.sub fun o' ho=>hR7.bk gb o' ho (hG.gbL _ hkl)
     have hroom:A7.Room gb (0+Vs.length*1) 1:=hg7.room (by rw [List.length_append,List.length_map,List.length_cons];omega);conv=>lhs;whnf
     repeat(first|refine aq k0 ?_|refine aq k1 ?_|refine au hD rfl ?_
            conv=>lhs;whnf)
     refine(hD _).2 ⟨hroom,fun A6 hPut=> ?_⟩;have hPut:A7.Put A6 gb (0+Vs.length*1) [.slice (aD b9) W'.n W'.c]:=hPut;rw [←e1]at hPut;have hG6:=hG.next hD' hkl hR7' hPut;have hl9:Vs.length+1=(Vs++ [W']).length:=by rw [List.length_append,List.length_singleton]
     rw [hl9]at hG6;conv=>lhs;whnf
     exact(hD _).2 ⟨(⟨A6,Vs++ [W']⟩:FbG),⟨hG6,⟨(av (k:=Vs.length) (by omega)).trans (by rw [hl9]),trivial⟩,trivial,rfl⟩,by show Ls.length-(Vs++ [W']).length<Ls.length-Vs.length;rw [List.length_append,List.length_singleton];omega,⟨an rfl rfl,an rfl rfl,trivial⟩,trivial⟩
 have hVe:Vs.length=Ls.length:=by
  have hlt:¬((Vs.length:Int)<(Ls.length:Int)):=hlt;omega
 have hdr:Ws.drop Vs.length= []:=List.drop_of_length_le (by omega);rw [hdr,List.map_nil]at hG;clear hlt hVl;conv=>lhs;whnf
 refine(hD _).2 ⟨fl9 A3 Ls.length,⟨(0:Nat),Nat.zero_le _,⟨rfl,trivial⟩,trivial,rfl⟩,fun(k:Nat) hk=>⟨⟨trivial,trivial⟩,trivial,?_⟩⟩;have hk:k≤Ls.length:=hk;have hend:(kH 22 46).post (C,Ls) [] A (.bool true) A3:=⟨hG.sub,rfl⟩;conv=>lhs;whnf
 refine ab (fun hlt=> ?_) (fun hlt=> ?_)
 ·have hlt:(k:Int)<(Ls.length:Int):=hlt
  have hkl:k<Ls.length:=by omega
  obtain⟨g0,o,rfl,hr0⟩:=hrow k hkl;have k0:(0:Int)≤(k:Int)∧(k:Int)<(Ls.length:Int):=by omega
  have k1:(0:Int)≤(k:Int)∧(k:Int)<(((Ls.length:Int).toNat:Nat):Int):=by
   rw [Int.toNat_natCast];exact k0
  have hsm:=hD'.small k hkl;obtain⟨hw1,hw2⟩:=hG.ws k (by omega) hkl;obtain⟨bw,gw,hwv,hwb,hwr⟩:=hw1.both (nS k);obtain⟨base,gl,hbv,hbo,hlr⟩:=(hG.full k hkl).both (nS k)
  have rls:A3.rd g0 (o+k*1) 1=some [.slice (aD base) Ls[k].n Ls[k].c]:=by
   rw [←hbv];exact aJ hG.sub hr0
  have rgs:A3.rd gb (0+k*1) 1=some [.slice (aD bw) (Ls[k].n+64) (Vs[k]'(by omega)).c]:=by
   rw [←hw2,←hwv];have h9:=hG.gs.rd (o:=0+k*1) (n:=1) (by rw [List.length_append,List.length_map];omega);rw [h9,List.append_nil,Nat.zero_add,Nat.mul_one,←List.map_drop,←List.map_take,List.drop_eq_getElem_cons (by omega)];rfl
  conv=>lhs;whnf
  refine(hD _).2 ⟨fl10 A3 Ls[k].n,⟨(0:Nat),Nat.zero_le _,⟨rfl,trivial⟩,trivial,rfl⟩,fun(i:Nat) hi=>⟨⟨trivial,trivial⟩,trivial,?_⟩⟩;have hi:i≤Ls[k].n:=hi;conv=>lhs;whnf
  repeat(first|refine aq k0 ?_|refine af rls ?_|refine au hD rfl ?_
         conv=>lhs;whnf)
  refine ab (fun hlt=> ?_) (fun hlt=> ?_)
  ·have hlt:(i:Int)<(Ls[k].n:Int):=hlt
   have hil:i<Ls[k].n:=by omega
   have i0:(0:Int)≤(i:Int)∧(i:Int)<(Ls[k].n:Int):=by omega
   have i1:(0:Int)≤(i:Int)∧(i:Int)<((Ls[k].n+64:Nat):Int):=by omega
   have rw9:A3.rd gw (0+i*22) 22=some [.int .u8 0,.int .i64 (mkI (k:Int) (i:Int)),.int .i64 0,.int .i64 0,.int .i64 0,.int .i64 0,.string ⟨#[]⟩,.slice none 0 0,.int .i64 0,.int .i64 0,.int .i64 0,.int .i64 0,.int .i64 0,.int .i64 0,.int .i64 0,.int .i64 0,.int .i64 0,.int .i64 0,.slice none 0 0,.int .i64 0,.slice none 0 0,.slice none 0 0]:=hwr i hil;have rl9:A3.rd gl (0+i*22) 22=some [.int .u8 0,.int .i64 (mkI (k:Int) (i:Int)),.int .i64 0,.int .i64 0,.int .i64 0,.int .i64 0,.string ⟨#[]⟩,.slice none 0 0,.int .i64 0,.int .i64 0,.int .i64 0,.int .i64 0,.int .i64 0,.int .i64 0,.int .i64 0,.int .i64 0,.int .i64 0,.int .i64 0,.slice none 0 0,.int .i64 0,.slice none 0 0,.slice none 0 0]:=hlr i hil
   have rls2:A3.rd g0 (o+k*1) 1=some [.slice (some ⟨gl,0,none⟩) Ls[k].n Ls[k].c]:=by
    rw [←hbo (by omega)];exact rls
   have rgs2:A3.rd gb (0+k*1) 1=some [.slice (some ⟨gw,0,none⟩) (Ls[k].n+64) (Vs[k]'(by omega)).c]:=by
    rw [←hwb (by omega)];exact rgs
   conv=>lhs;whnf
   repeat(first|refine aq k0 ?_|refine aq i0 ?_|refine af rls2 ?_|refine af rl9 ?_|refine au hD rfl ?_
          conv=>lhs;whnf)
   refine(hD _).2 ⟨((k:Int),(i:Int)),rfl,fun v A9 hq=> ?_⟩;obtain⟨h9,hv⟩:A9=A3∧v=(.agg (mkP (k:Int) (i:Int)).cells.toArray):=hq;subst h9;subst hv
   conv=>lhs;whnf
   repeat(first|refine aq k0 ?_|refine aq i0 ?_|refine af rls2 ?_|refine af rl9 ?_|refine au hD rfl ?_
          conv=>lhs;whnf)
   refine(hD _).2 ⟨(mkP (k:Int) (i:Int)),rfl,fun v AQ hq=> ?_⟩;have hq:AQ=_∧v= .bool true:=hq;have hqA:=hq.1.symm;have hv:=hq.2;subst hqA;subst hv
   conv=>lhs;whnf
   repeat(first|refine aq k1 ?_|refine aq i1 ?_|refine af rgs2 ?_|refine af rw9 ?_|refine au hD rfl ?_
          conv=>lhs;whnf)
   refine(hD _).2 ⟨((k:Int),(i:Int)),rfl,fun v A7 hq=> ?_⟩;obtain⟨h9,hv⟩:A7=A9∧v=(.agg (mkP (k:Int) (i:Int)).cells.toArray):=hq;subst h9;subst hv
   conv=>lhs;whnf
   repeat(first|refine aq k1 ?_|refine aq i1 ?_|refine af rgs2 ?_|refine af rw9 ?_|refine au hD rfl ?_
          conv=>lhs;whnf)
   refine(hD _).2 ⟨(mkP (k:Int) (i:Int)),rfl,fun v AQ hq=> ?_⟩;have hq:AQ=_∧v= .bool true:=hq;have hqA:=hq.1.symm;have hv:=hq.2;subst hqA;subst hv
   conv=>lhs;whnf
   exact(hD _).2 ⟨(i+1:Nat),⟨hil,⟨av (k:=i) (by omega),trivial⟩,trivial,rfl⟩,by show Ls[k].n-(i+1)<Ls[k].n-i;omega,⟨an rfl rfl,an rfl rfl,an rfl rfl,trivial⟩,trivial⟩
  ·conv=>lhs;whnf
   exact(hD _).2 ⟨(k+1:Nat),⟨hkl,⟨av (k:=k) (by omega),trivial⟩,trivial,rfl⟩,by show Ls.length-(k+1)<Ls.length-k;omega,⟨an rfl rfl,an rfl rfl,trivial⟩,trivial⟩
 conv=>lhs;whnf
 exact(hD _).2 hend
def bes(j:Nat):Nat:=if j=0 then 1 else if j=1 then 1 else if j=2 then 4 else 22
def bet(j:Nat):TypeId:=if j=0 then 9 else if j=1 then 5 else if j=2 then 97 else 46
structure ApD(E:aa)(b:Nat)(L:Nat→LsD)(X:Nat→List LsD):Prop where
 sep:∀j,j<4→∀i (h:i<(X j).length) g,(X j)[i].g=some g→g≠b∧E.blk g=none∧∀j',j'<4→(L j').g≠some g
 ne1:∀j,j<4→∀i i' (h:i<(X j).length) (h':i'<(X j).length),i≠i'→∀g,(X j)[i].g=some g→(X j)[i'].g≠some g
 ne2:∀j j',j<4→j'<4→j≠j'→∀i i' (h:i<(X j).length) (h':i'<(X j').length) g,(X j)[i].g=some g→(X j')[i'].g≠some g
 small:∀j,j<4→∀i (h:i<(X j).length),(X j)[i].n≤1000000
 few:∀j,j<4→(X j).length≤1000000
structure ApS(E A:aa)(b:Nat)(L:Nat→LsD)(X:Nat→List LsD)(js:Nat→Prop):Prop where
 sub:E.Sub A
 top:aG A b (oC (L 0).v (L 1).v (L 2).v (L 3).v)
 rows:∀j,j<4→LsR A 1 (bt j) (L j) ((X j).map (·.v))
 lists:∀j,j<4→js j→∀i (h:i<(X j).length),∃cs,LsR A (bes j) (bet j) (X j)[i] cs
def lsB(X:List LsD)(k:Nat):Prop:=∃i,∃h:i<X.length,X[i].g=some k
theorem ApS.more{E A A':aa}{b:Nat}{L:Nat→LsD}{X:Nat→List LsD}{js:Nat→Prop}(h:ApS E A b L X js)(hs:A.Sub A'):ApS E A' b L X js:=
 ⟨h.sub.trans hs,h.top.sub fun _ ho=>hs _ _ ho,fun j hj=>(h.rows j hj).bk fun _ _ _ ho=>hs _ _ ho,fun j hj hjs i hi=>by
   obtain⟨cs,hc⟩:=h.lists j hj hjs i hi
   exact⟨cs,hc.bk fun _ _ _ ho=>hs _ _ ho⟩⟩
def rsA(A:aa)(P:Nat→Prop):aa:=aa.of fun k=>if P k then none else A.blk k
theorem rs_sub(A:aa)(P:Nat→Prop):(rsA A P).Sub A:=fun k o h=>by
 have h:(if P k then none else A.blk k)=some o:=h
 split at h
 ·cases h
 ·exact h
theorem rs_at{A:aa}{P:Nat→Prop}{k:Nat}(h:¬P k):(rsA A P).blk k=A.blk k:=if_neg h
theorem rs_no{A:aa}{P:Nat→Prop}{k:Nat}(h:P k):(rsA A P).blk k=none:=if_pos h
theorem ApS.flat{E A:aa}{b j:Nat}{L:Nat→LsD}{X:Nat→List LsD}{js:Nat→Prop}(hD:ApD E b L X)(hj:j<4)(hjs:js j)(h:ApS E A b L X js):
  Sl (rsA A (lsB (X j))) 1 (X j).length (L j).v ((X j).map (·.v))∧(rsA A (lsB (X j))).Sub A∧(∀i (hi:i<(X j).length),∃cs,LsR A (bes j) (bet j) (X j)[i] cs)∧FlD (rsA A (lsB (X j))) (X j)∧
  ∀A',(rsA A (lsB (X j))).Sub A'→ApS E A' b L X (fun i=>js i∧i≠j):=by
 have hnb:¬lsB (X j) b:=fun⟨i,hi,hg⟩=>(hD.sep j hj i hi b hg).1 rfl
 have hnL:∀i,i<4→∀g,(L i).g=some g→¬lsB (X j) g:=fun i hi g hg ⟨q,hq,hg2⟩=>(hD.sep j hj q hq g hg2).2.2 i hi hg
 have hkp:∀ {A'},(rsA A (lsB (X j))).Sub A'→∀k o,A.blk k=some o→¬lsB (X j) k→A'.blk k=some o:=fun {A'} hs k o ho hn=>hs k o (by rw [rs_at hn];exact ho)
 refine⟨?_,rs_sub _ _,h.lists j hj hjs,⟨fun i hi g hg=>rs_no ⟨i,hi,hg⟩,fun i i' hi hi' hne g hg=>hD.ne1 j hj i i' hi hi' hne g hg,hD.small j hj,hD.few j hj⟩,fun A' hs=>⟨fun k o hk=>hkp hs k o (h.sub k o hk) fun⟨i,hi,hg⟩=> ?_,h.top.sub fun o ho=>hkp hs b o ho hnb,fun i hi=>(h.rows i hi).bk fun g o hg ho=>hkp hs g o ho (hnL i hi g hg),fun i hi hij q hq=> ?_⟩⟩
 ·have hr:=(h.rows j hj).bk (A':=rsA A (lsB (X j))) fun g o hg ho=>by rw [rs_at (hnL j hj g hg)];exact ho
  have hl:=hr.len;rw [List.length_map,Nat.mul_one]at hl;rcases hr with⟨_,h2,_,h4,base,h5⟩|⟨g,_,h2,_,h4⟩
  ·have h0:(X j).length=0:=by omega
   rw [h5,h4,h0]
   cases base with
   |none=>exact Sl.nil _ _
   |some x=>exact Sl.zero _ _ (fun _=>rfl) fun a _ h=>absurd h (Nat.lt_irrefl 0)
  ·have h9:=h4.rd
   have h8:=h4.le;rw [h2];rw [←hl]at h9 h8 ⊢;exact Sl.row h8 h9
 ·rw [(hD.sep j hj i hi k hg).2.1]at hk
  cases hk
 ·obtain⟨cs,hc⟩:=h.lists i hi hij.1 q hq
  exact⟨cs,hc.bk fun g o hg ho=>hkp hs g o ho fun⟨q',hq',hg'⟩=>hD.ne2 i j hi hj hij.2 q q' hq hq' g hg hg'⟩
structure ApG where
 E:aa
 b:Nat
 L:Nat→LsD
 X:Nat→List LsD
def AS:aL:=⟨ApG,fun g vs A=>vs= [.pointer (some ⟨g.b,0,none⟩)]∧ApD g.E g.b g.L g.X∧ApS g.E A g.b g.L g.X (fun _=>True),fun g _ _ v A'=>g.E.Sub A'∧v= .bool true⟩
theorem GM:FOk Tryz.prog 62 AS:=by
 refine aS mixed fun⟨E,b,L,X⟩ vs A hp=> ?_
 obtain⟨rfl,hD0,hS⟩:vs= [.pointer (some ⟨b,0,none⟩)]∧ApD E b L X∧ApS E A b L X (fun _=>True):=hp
 have hC:aF Tryz.prog (bu [aE 99 bB,aE 100 bB,aE 101 bB,aE 102 (kH (bes 0) (bet 0)),aE 103 (kH (bes 1) (bet 1)),aE 104 bB,aE 105 (kH (bes 2) (bet 2)),aE 106 bB,aE 107 bB,aE 108 bB,aE 109 bB,aE 110 bB,aE 111 (kH (bes 3) (bet 3)),aE 112 bB,aE 113 bB,aE 114 bB,aE 115 bB,aE 116 bB,aE 117 bB,aE 118 bB] noC):=az (aj _) (fun x hx=>by
  simp only [List.mem_cons,List.not_mem_nil,or_false]at hx;rcases hx with rfl|rfl|rfl|rfl|rfl|rfl|rfl|rfl|rfl|rfl|rfl|rfl|rfl|rfl|rfl|rfl|rfl|rfl|rfl|rfl
  ·exact ai qy
  ·exact ai sR
  ·exact ai qD
  ·exact ai wB
  ·exact ai wC
  ·exact ai qx
  ·exact ai sT
  ·exact ai mB
  ·exact ai qE
  ·exact ai qB
  ·exact ai ni
  ·exact ai sS
  ·exact ai sQ
  ·exact ai pM
  ·exact ai oq
  ·exact ai oo
  ·exact ai qC
  ·exact ai qA
  ·exact ai qz
  ·exact ai nj)
 refine⟨_,noL,60,hC,ak _,fun blk os out tape D hD=> ?_⟩;have rr:A.rd b 0 1=some [nlS]:=hS.top.rd (o:=0) (n:=1) (by show 0+1≤20;omega);conv=>lhs;whnf
 repeat(first|refine af rr ?_|refine au hD rfl ?_
        conv=>lhs;whnf)
 refine(hD _).2 ⟨(),rfl,fun v A1 hq=> ?_⟩;obtain⟨hq1,hv⟩:A.Sub A1∧v= .bool true:=hq;subst hv;have hS:=hS.more hq1;have rr:A1.rd b 1 1=some [nlS]:=hS.top.rd (o:=1) (n:=1) (by show 1+1≤20;omega);conv=>lhs;whnf
 repeat(first|refine af rr ?_|refine au hD rfl ?_
        conv=>lhs;whnf)
 refine(hD _).2 ⟨(),rfl,fun v A2 hq=> ?_⟩;obtain⟨hq1,hv⟩:A1.Sub A2∧v= .bool true:=hq;subst hv;have hS:=hS.more hq1;have rr:A2.rd b 2 1=some [nlS]:=hS.top.rd (o:=2) (n:=1) (by show 2+1≤20;omega);conv=>lhs;whnf
 repeat(first|refine af rr ?_|refine au hD rfl ?_
        conv=>lhs;whnf)
 refine(hD _).2 ⟨(),rfl,fun v A3 hq=> ?_⟩;obtain⟨hq1,hv⟩:A2.Sub A3∧v= .bool true:=hq;subst hv;have hS:=hS.more hq1;have rr:A3.rd b 3 1=some [(L 0).v]:=hS.top.rd (o:=3) (n:=1) (by show 3+1≤20;omega);have hfl:=hS.flat (j:=0) hD0 (by omega) (by simp);conv=>lhs;whnf
 repeat(first|refine af rr ?_|refine au hD rfl ?_
        conv=>lhs;whnf)
 refine(hD _).2 ⟨(rsA A3 (lsB (X 0)),X 0),⟨_,rfl,hfl.1,hfl.2.1,hfl.2.2.1,hfl.2.2.2.1⟩,fun v A4 hq=> ?_⟩;obtain⟨hq1,hv⟩:(rsA A3 (lsB (X 0))).Sub A4∧v= .bool true:=hq;subst hv;have hS:=hfl.2.2.2.2 A4 hq1;have rr:A4.rd b 4 1=some [(L 1).v]:=hS.top.rd (o:=4) (n:=1) (by show 4+1≤20;omega);have hfl:=hS.flat (j:=1) hD0 (by omega) (by simp);conv=>lhs;whnf
 repeat(first|refine af rr ?_|refine au hD rfl ?_
        conv=>lhs;whnf)
 refine(hD _).2 ⟨(rsA A4 (lsB (X 1)),X 1),⟨_,rfl,hfl.1,hfl.2.1,hfl.2.2.1,hfl.2.2.2.1⟩,fun v A5 hq=> ?_⟩;obtain⟨hq1,hv⟩:(rsA A4 (lsB (X 1))).Sub A5∧v= .bool true:=hq;subst hv;have hS:=hfl.2.2.2.2 A5 hq1;have rr:A5.rd b 5 1=some [nlS]:=hS.top.rd (o:=5) (n:=1) (by show 5+1≤20;omega);conv=>lhs;whnf
 repeat(first|refine af rr ?_|refine au hD rfl ?_
        conv=>lhs;whnf)
 refine(hD _).2 ⟨(),rfl,fun v A6 hq=> ?_⟩;obtain⟨hq1,hv⟩:A5.Sub A6∧v= .bool true:=hq;subst hv;have hS:=hS.more hq1;have rr:A6.rd b 6 1=some [(L 2).v]:=hS.top.rd (o:=6) (n:=1) (by show 6+1≤20;omega);have hfl:=hS.flat (j:=2) hD0 (by omega) (by simp);conv=>lhs;whnf
 repeat(first|refine af rr ?_|refine au hD rfl ?_
        conv=>lhs;whnf)
 refine(hD _).2 ⟨(rsA A6 (lsB (X 2)),X 2),⟨_,rfl,hfl.1,hfl.2.1,hfl.2.2.1,hfl.2.2.2.1⟩,fun v A7 hq=> ?_⟩;obtain⟨hq1,hv⟩:(rsA A6 (lsB (X 2))).Sub A7∧v= .bool true:=hq;subst hv;have hS:=hfl.2.2.2.2 A7 hq1;have rr:A7.rd b 7 1=some [nlS]:=hS.top.rd (o:=7) (n:=1) (by show 7+1≤20;omega);conv=>lhs;whnf
 repeat(first|refine af rr ?_|refine au hD rfl ?_
        conv=>lhs;whnf)
 refine(hD _).2 ⟨(),rfl,fun v A8 hq=> ?_⟩;obtain⟨hq1,hv⟩:A7.Sub A8∧v= .bool true:=hq;subst hv;have hS:=hS.more hq1;have rr:A8.rd b 8 1=some [nlS]:=hS.top.rd (o:=8) (n:=1) (by show 8+1≤20;omega);conv=>lhs;whnf
 repeat(first|refine af rr ?_|refine au hD rfl ?_
        conv=>lhs;whnf)
 refine(hD _).2 ⟨(),rfl,fun v A9 hq=> ?_⟩;obtain⟨hq1,hv⟩:A8.Sub A9∧v= .bool true:=hq;subst hv;have hS:=hS.more hq1;have rr:A9.rd b 9 1=some [nlS]:=hS.top.rd (o:=9) (n:=1) (by show 9+1≤20;omega);conv=>lhs;whnf
 repeat(first|refine af rr ?_|refine au hD rfl ?_
        conv=>lhs;whnf)
 refine(hD _).2 ⟨(),rfl,fun v A10 hq=> ?_⟩;obtain⟨hq1,hv⟩:A9.Sub A10∧v= .bool true:=hq;subst hv;have hS:=hS.more hq1;have rr:A10.rd b 10 1=some [nlS]:=hS.top.rd (o:=10) (n:=1) (by show 10+1≤20;omega);conv=>lhs;whnf
 repeat(first|refine af rr ?_|refine au hD rfl ?_
        conv=>lhs;whnf)
 refine(hD _).2 ⟨(),rfl,fun v A11 hq=> ?_⟩;obtain⟨hq1,hv⟩:A10.Sub A11∧v= .bool true:=hq;subst hv;have hS:=hS.more hq1;have rr:A11.rd b 11 1=some [nlS]:=hS.top.rd (o:=11) (n:=1) (by show 11+1≤20;omega);conv=>lhs;whnf
 repeat(first|refine af rr ?_|refine au hD rfl ?_
        conv=>lhs;whnf)
 refine(hD _).2 ⟨(),rfl,fun v A12 hq=> ?_⟩;obtain⟨hq1,hv⟩:A11.Sub A12∧v= .bool true:=hq;subst hv;have hS:=hS.more hq1;have rr:A12.rd b 12 1=some [(L 3).v]:=hS.top.rd (o:=12) (n:=1) (by show 12+1≤20;omega);have hfl:=hS.flat (j:=3) hD0 (by omega) (by simp);conv=>lhs;whnf
 repeat(first|refine af rr ?_|refine au hD rfl ?_
        conv=>lhs;whnf)
 refine(hD _).2 ⟨(rsA A12 (lsB (X 3)),X 3),⟨_,rfl,hfl.1,hfl.2.1,hfl.2.2.1,hfl.2.2.2.1⟩,fun v A13 hq=> ?_⟩;obtain⟨hq1,hv⟩:(rsA A12 (lsB (X 3))).Sub A13∧v= .bool true:=hq;subst hv;have hS:=hfl.2.2.2.2 A13 hq1;have rr:A13.rd b 13 1=some [nlS]:=hS.top.rd (o:=13) (n:=1) (by show 13+1≤20;omega);conv=>lhs;whnf
 repeat(first|refine af rr ?_|refine au hD rfl ?_
        conv=>lhs;whnf)
 refine(hD _).2 ⟨(),rfl,fun v A14 hq=> ?_⟩;obtain⟨hq1,hv⟩:A13.Sub A14∧v= .bool true:=hq;subst hv;have hS:=hS.more hq1;have rr:A14.rd b 14 1=some [nlS]:=hS.top.rd (o:=14) (n:=1) (by show 14+1≤20;omega);conv=>lhs;whnf
 repeat(first|refine af rr ?_|refine au hD rfl ?_
        conv=>lhs;whnf)
 refine(hD _).2 ⟨(),rfl,fun v A15 hq=> ?_⟩;obtain⟨hq1,hv⟩:A14.Sub A15∧v= .bool true:=hq;subst hv;have hS:=hS.more hq1;have rr:A15.rd b 15 1=some [nlS]:=hS.top.rd (o:=15) (n:=1) (by show 15+1≤20;omega);conv=>lhs;whnf
 repeat(first|refine af rr ?_|refine au hD rfl ?_
        conv=>lhs;whnf)
 refine(hD _).2 ⟨(),rfl,fun v A16 hq=> ?_⟩;obtain⟨hq1,hv⟩:A15.Sub A16∧v= .bool true:=hq;subst hv;have hS:=hS.more hq1;have rr:A16.rd b 16 1=some [nlS]:=hS.top.rd (o:=16) (n:=1) (by show 16+1≤20;omega);conv=>lhs;whnf
 repeat(first|refine af rr ?_|refine au hD rfl ?_
        conv=>lhs;whnf)
 refine(hD _).2 ⟨(),rfl,fun v A17 hq=> ?_⟩;obtain⟨hq1,hv⟩:A16.Sub A17∧v= .bool true:=hq;subst hv;have hS:=hS.more hq1;have rr:A17.rd b 17 1=some [nlS]:=hS.top.rd (o:=17) (n:=1) (by show 17+1≤20;omega);conv=>lhs;whnf
 repeat(first|refine af rr ?_|refine au hD rfl ?_
        conv=>lhs;whnf)
 refine(hD _).2 ⟨(),rfl,fun v A18 hq=> ?_⟩;obtain⟨hq1,hv⟩:A17.Sub A18∧v= .bool true:=hq;subst hv;have hS:=hS.more hq1;have rr:A18.rd b 18 1=some [nlS]:=hS.top.rd (o:=18) (n:=1) (by show 18+1≤20;omega);conv=>lhs;whnf
 repeat(first|refine af rr ?_|refine au hD rfl ?_
        conv=>lhs;whnf)
 refine(hD _).2 ⟨(),rfl,fun v A19 hq=> ?_⟩;obtain⟨hq1,hv⟩:A18.Sub A19∧v= .bool true:=hq;subst hv;have hS:=hS.more hq1;have rr:A19.rd b 19 1=some [nlS]:=hS.top.rd (o:=19) (n:=1) (by show 19+1≤20;omega);conv=>lhs;whnf
 repeat(first|refine af rr ?_|refine au hD rfl ?_
        conv=>lhs;whnf)
 refine(hD _).2 ⟨(),rfl,fun v A20 hq=> ?_⟩;obtain⟨hq1,hv⟩:A19.Sub A20∧v= .bool true:=hq;subst hv;have hS:=hS.more hq1;have hend:AS.post (⟨E,b,L,X⟩:ApG) [] A (.bool true) A20:=⟨hS.sub,rfl⟩;conv=>lhs;whnf
 exact(hD _).2 hend
end
end Go.Proofs.YtphigpccfbfnoaaGreatDoor
