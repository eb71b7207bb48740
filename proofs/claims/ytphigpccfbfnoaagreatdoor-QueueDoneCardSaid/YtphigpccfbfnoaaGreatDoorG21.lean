/-
  Parts of the proof: FkB LkC
-/
import Derived.Test.YtphigpccfbfnoaaGreatDoorG16
import Derived.Test.YtphigpccfbfnoaaGreatDoorG20
import Derived.Test.YtphigpccfbfnoaaGreatDoorG17
set_option maxRecDepth 100000
set_option maxHeartbeats 0
namespace Go.Proofs.YtphigpccfbfnoaaGreatDoor
open Go.Sx Go.RowKit
noncomputable section
open Classical
def mmB(k i:Nat):List Value:= [.int .u8 (mkB (k:Int) (i:Int))]
theorem nU(k i:Nat):(mmB k i).length=1:=rfl
theorem mmB_one(k i:Nat):∀v∈mmB k i,v.oneCell'=true:=fun v hv=>by
 simp only [mmB,List.mem_cons,List.not_mem_nil,or_false]at hv;rcases hv with rfl<;>rfl
theorem wC:FOk Tryz.prog 103 (kH 1 5):=by
 refine aS mixed fun⟨(C:aa),(Ls:List LsD)⟩ vs A hp=> ?_
 obtain⟨x,rfl,hX,hsub,hlay,hD'⟩:∃x,vs= [x]∧Sl C 1 Ls.length x (Ls.map LsD.v)∧C.Sub A∧(∀j (h:j<Ls.length),∃cs,LsR A 1 5 Ls[j] cs)∧FlD C Ls:=hp;obtain⟨ao,c,rfl,hc, -,ha1,ha2,ha3⟩:=hX
 have hrow:∀k (hk:k<Ls.length),∃g0 o,ao=some ⟨g0,o,none⟩∧C.rd g0 (o+k*1) 1=some [Ls[k].v]:=fun k hk=>by
  obtain⟨g0,o,e,hra⟩:=Sl.at_ hc ha1 ha2 ha3 (by omega);exact⟨g0,o,e,BC hra k hk rfl⟩
 have hfew:=hD'.few
 have hC:aF Tryz.prog (bu [aE 88 jG] noC):=az (aj _) (fun x hx=>by
  simp only [List.mem_cons,List.not_mem_nil,or_false]at hx;subst hx
  exact ai iV)
 have hin:=aH mixed hC (ak _) 60 [(103,2),(103,6),(103,10),(103,14),(103,18)];refine⟨_,da Tryz.prog _ (da Tryz.prog _ noL 60 [(103,2),(103,6),(103,10),(103,14),(103,18)]) 60 [(103,0),(103,4),(103,8),(103,12),(103,16)],60,hC,aH mixed hC hin _ _,fun blk os' out tape D hD=> ?_⟩;conv=>lhs;whnf
 refine(hD _).2 ⟨fl1 C 1 5 mmB Ls,⟨(⟨0,A⟩:FaG),⟨Nat.zero_le _,hsub,FlS.zero hlay⟩,⟨rfl,trivial⟩,trivial,rfl⟩,fun(s:FaG) hG=>⟨⟨trivial,trivial⟩,trivial,?_⟩⟩;clear hlay hsub;obtain⟨k,Ak⟩:=s;obtain⟨hk,hsub,hS⟩:k≤Ls.length∧C.Sub Ak∧FlS Ak 1 5 mmB Ls k 0:=hG;conv=>lhs;whnf
 refine ab (fun hlt=> ?_) (fun hlt=> ?_)
 ·have hlt:(k:Int)<(Ls.length:Int):=hlt
  have hkl:k<Ls.length:=by omega
  obtain⟨g0,o,rfl,hr0⟩:=hrow k hkl;have k0:(0:Int)≤(k:Int)∧(k:Int)<(Ls.length:Int):=by omega
  conv=>lhs;whnf
  refine(hD _).2 ⟨fl2 C 1 5 mmB Ls k Ls[k].n,⟨(⟨0,Ak⟩:FaG),⟨Nat.zero_le _,hsub,hS⟩,⟨rfl,trivial⟩,trivial,rfl⟩,fun(s:FaG) hG=>⟨⟨trivial,trivial⟩,trivial,?_⟩⟩;clear hS hsub;obtain⟨i,Ai⟩:=s;obtain⟨hi,hsub,hS⟩:i≤Ls[k].n∧C.Sub Ai∧FlS Ai 1 5 mmB Ls k i:=hG;obtain⟨base,hbv,hbase⟩:=(hS.at_ hkl).form;have hsm:=hD'.small k hkl
  have r1:Ai.rd g0 (o+k*1) 1=some [.slice (aD base) Ls[k].n Ls[k].c]:=by
   rw [←hbv];exact aJ hsub hr0
  conv=>lhs;whnf
  repeat(first|refine aq k0 ?_|refine af r1 ?_|refine au hD rfl ?_
         conv=>lhs;whnf)
  refine ab (fun hlt=> ?_) (fun hlt=> ?_)
  ·have hlt:(i:Int)<(Ls[k].n:Int):=hlt
   have hil:i<Ls[k].n:=by omega
   have i0:(0:Int)≤(i:Int)∧(i:Int)<(Ls[k].n:Int):=by omega
   obtain⟨g,hgv,hroom,hput⟩:=FlS.put nU hD' hsub hkl hS hil
   have r2:Ai.rd g0 (o+k*1) 1=some [.slice (some ⟨g,0,none⟩) Ls[k].n Ls[k].c]:=by
    rw [←hgv];exact aJ hsub hr0
   clear hbv hbase r1;conv=>lhs;whnf
   repeat(first|refine aq k0 ?_|refine aq i0 ?_|refine af r2 ?_|refine au hD rfl ?_
          conv=>lhs;whnf)
   refine(hD _).2 ⟨((k:Int),(i:Int)),rfl,fun v A9 hq=> ?_⟩;obtain⟨h9,hv⟩:A9=Ai∧v=(.int .u8 (mkB (k:Int) (i:Int))):=hq;subst h9;subst hv
   conv=>lhs;whnf
   repeat(first|refine aq k0 ?_|refine aq i0 ?_|refine af r2 ?_|refine au hD rfl ?_
          conv=>lhs;whnf)
   refine(hD _).2 ⟨hroom,fun A6 hPut=> ?_⟩;obtain⟨hS6,hs6⟩:=hput A6 hPut;conv=>lhs;whnf
   exact(hD _).2 ⟨(⟨i+1,A6⟩:FaG),⟨⟨hil,hs6,hS6⟩,⟨av (k:=i) (by omega),trivial⟩,trivial,rfl⟩,by show Ls[k].n-(i+1)<Ls[k].n-i;omega,⟨an rfl rfl,an rfl rfl,trivial⟩,trivial⟩
  ·have hie:i=Ls[k].n:=by
     have hlt:¬((i:Int)<(Ls[k].n:Int)):=hlt;omega
   subst hie;conv=>lhs;whnf
   exact(hD _).2 ⟨(⟨k+1,Ai⟩:FaG),⟨⟨hkl,hsub,hS.next hkl⟩,⟨av (k:=k) (by omega),trivial⟩,trivial,rfl⟩,by show Ls.length-(k+1)<Ls.length-k;omega,⟨an rfl rfl,trivial⟩,trivial⟩
 have hF:=hS.full (by
  have hlt:¬((k:Int)<(Ls.length:Int)):=hlt
  omega)
 clear hS hk hlt;conv=>lhs;whnf
 refine(hD _).2 ⟨Int.natCast_nonneg _,Int.le_refl _,by show(Ls.length:Int)≤9223372036854775807;omega,by show 24*Ls.length≤281474976710656;omega,rfl,fun gb A1 c1 hc1 hN1=> ?_⟩;have hN1:Ak.New A1 gb c1 26:=hN1
 have hc1:c1.toList=List.replicate Ls.length gX:=by
  rw [hc1];show(List.replicate Ls.length [gX]).flatten=_
  rw [List.flatten_replicate_singleton]
 have hG1:FlG C A1 1 5 mmB Ls gb 64 [] (List.replicate (Ls.length-0) gX):=FlG.start hsub hF hN1 hc1 (by simp);clear hF hsub hN1 hc1;conv=>lhs;whnf
 refine(hD _).2 ⟨fl3 C 1 5 mmB Ls gb,⟨(⟨A1, []⟩:FbG),hG1,⟨rfl,trivial⟩,trivial,rfl⟩,fun(s:FbG) hG=>⟨⟨trivial,trivial⟩,trivial,?_⟩⟩;clear hG1;obtain⟨A2,Ws⟩:=s;have hG:FlG C A2 1 5 mmB Ls gb 64 Ws (List.replicate (Ls.length-Ws.length) gX):=hG
 have hWl:Ws.length≤Ls.length:=by
  have:=hG.rl;omega
 conv=>lhs;whnf
 refine ab (fun hlt=> ?_) (fun hlt=> ?_)
 ·have hlt:(Ws.length:Int)<(Ls.length:Int):=hlt
  have hkl:Ws.length<Ls.length:=by omega
  obtain⟨g0,o,rfl,hr0⟩:=hrow Ws.length hkl;have k0:(0:Int)≤(Ws.length:Int)∧(Ws.length:Int)<(Ls.length:Int):=by omega
  have hFk:=hG.full Ws.length hkl;obtain⟨base,hbv,hbase⟩:=hFk.form;have hsm:=hD'.small Ws.length hkl
  have r1:A2.rd g0 (o+Ws.length*1) 1=some [.slice (aD base) Ls[Ws.length].n Ls[Ws.length].c]:=by
   rw [←hbv];exact aJ hG.sub hr0
  conv=>lhs;whnf
  repeat(first|refine aq k0 ?_|refine af r1 ?_|refine au hD rfl ?_
         conv=>lhs;whnf)
  refine(hD _).2 ⟨fl4 A2 1 5 (mmB Ws.length) Ls[Ws.length],⟨(⟨0,A2,Ls[Ws.length]⟩:FcG),⟨Nat.zero_le _,FlR.start hFk,fun _ h=>h⟩,⟨congrArg (fun x=>some (SV.v x)) hbv.symm,rfl,trivial⟩,trivial,rfl⟩,fun(s:FcG) hG'=>⟨⟨trivial,trivial,trivial⟩,trivial,?_⟩⟩;have hbv':=hbv;clear hbase;obtain⟨i,Ai,⟨wv,wn,wc,wg⟩⟩:=s;obtain⟨hi,hR,hdom⟩:i≤64∧FlR A2 Ai 1 5 (mmB Ws.length) Ls[Ws.length] ⟨wv,wn,wc,wg⟩ i (Ls[Ws.length].n+i)∧∀x,Ai.blk x=none→A2.blk x=none:=hG';have hwn:wn=Ls[Ws.length].n+i:=hR.wn;obtain⟨base2,cs2,hwv,hbase2,hcs2,hG2,hA2⟩:=hR.app;have hwv:wv= .slice (aD base2) wn wc:=hwv;subst hwv;have hsubi:C.Sub Ai:=fun x o hx=>hR.bk x o (hG.sub x o hx) fun h9=>by rw [hD'.c0 _ hkl x h9]at hx;cases hx
  conv=>lhs;whnf
  refine ab (fun hlt=> ?_) (fun hlt=> ?_)
  ·have hlt:(i:Int)<64:=hlt
   have hi64:i<64:=by omega
   have hw:IntKind.i64.wrap ((Ls[Ws.length].n:Int)+(i:Int))=((Ls[Ws.length].n+i:Nat):Int):=by
    rw [Sx.wrap_i64 (by omega) (by omega)];omega
   have hr9:=aJ hsubi hr0;rw [hbv']at hr9;conv=>lhs;whnf
   repeat(first|refine aq k0 ?_|refine af hr9 ?_|refine au hD rfl ?_
          conv=>lhs;whnf)
   refine(hD _).2 ⟨((Ws.length:Int),IntKind.i64.wrap ((Ls[Ws.length].n:Int)+(i:Int))),rfl,fun v A9 hq=> ?_⟩;obtain⟨h9,hv⟩:A9=Ai∧v=(.int .u8 (mkB (Ws.length:Int) (IntKind.i64.wrap ((Ls[Ws.length].n:Int)+(i:Int))))):=hq;rw [hw]at hv;subst h9;subst hv
   conv=>lhs;whnf
   repeat(first|refine aq k0 ?_|refine af hr9 ?_|refine au hD rfl ?_
          conv=>lhs;whnf)
   refine(hD _).2 fun ge A8 hN8=> ?_
   have hN8:A9.New A8 ge (List.toArray (mmB Ws.length (Ls[Ws.length].n+i))) 5:=hN8;have hR8:=hR.more hN8.sub;obtain⟨base3,cs3,hwv3, -,hcs3,hG3,hA3⟩:=hR8.app;have hwv3:Value.slice (aD base2) wn wc= .slice (aD base3) wn wc:=hwv3
   have hb3:base2=base3:=by
    injection hwv3 with h1 _ _
    exact dJ h1
   subst hb3;have hPd:=hG3 1 1 (by omega) (by show wn+1≤1000000000;omega) (by omega);have hone:∀v∈mmB Ws.length (Ls[Ws.length].n+i),v.oneCell'=true:=mmB_one _ _
   have hrow9:A8.rd ge 0 (1*1)=some (mmB Ws.length (Ls[Ws.length].n+i)):=by
    have:=hN8.rd (o:=0) (n:=1*1) (by show 0+1*1≤1;omega);exact this
   have hdn:∀x,A8.blk x=none→A2.blk x=none:=fun x hx=>hdom x (by
    cases h:A9.blk x with
    |none=>rfl
    |some o'=>rw [hN8.sub x o' h]at hx;cases hx)
   rcases hbase2 with rfl|⟨gx,ox,rfl⟩<;>(conv=>lhs;whnf)
   all_goals
    refine(hD _).2 ⟨cs3,mmB Ws.length (Ls[Ws.length].n+i),hPd.rd,hrow9,rfl,hone,?_,hPd.cap,rfl,hPd.none_,fun g' o' he' hle' _=>hPd.room 1 rfl g' o' he' hle',fun v9 A7 hAp=> ?_⟩
    ·show wn+1≤9223372036854775807
     omega
    ·obtain⟨⟨w1,w2,w3,w4⟩,e1,hR7,hmk⟩:=hA3 1 _ v9 A7 rfl (by omega) hdn hAp
     have e1:w1=v9:=e1;subst e1;have hM7:=hmk 1 hwn.symm (by simp [mmB]) (Nat.le_refl _);have hR7':FlR A2 A7 1 5 (mmB Ws.length) Ls[Ws.length] ⟨w1,w2,w3,w4⟩ (i+1) (Ls[Ws.length].n+(i+1)):=⟨hR7.bk,hR7.old,hM7,hR7.wn,hR7.wg,hR7.wc⟩;conv=>lhs;whnf
     exact(hD _).2 ⟨(⟨i+1,A7,⟨w1,w2,w3,w4⟩⟩:FcG),⟨⟨hi64,hR7',fun x hx=>hdn x (oD hAp hx)⟩,⟨rfl,av (k:=i) (by omega),trivial⟩,trivial,rfl⟩,by show 64-(i+1)<64-i;omega,⟨an rfl rfl,an rfl rfl,an rfl rfl,trivial⟩,trivial⟩
  ·have hie:i=64:=by
     have hlt:¬((i:Int)<64):=hlt;omega
   subst hie
   have k1:(0:Int)≤(Ws.length:Int)∧(Ws.length:Int)<(((Ls.length:Int).toNat:Nat):Int):=by
    rw [Int.toNat_natCast];exact k0
   obtain⟨d,hd⟩:∃d,Ls.length-Ws.length=d+1:=⟨Ls.length-Ws.length-1,by omega⟩;rw [hd,List.replicate_succ]at hG;have hgs:aG Ai gb (Ws.map LsD.v++gX::List.replicate d gX):=hG.gs.sub fun o ho=>hR.bk gb o ho (hG.gbL _ hkl)
   have hroom:Ai.Room gb (0+Ws.length*1) 1:=hgs.room (by rw [List.length_append,List.length_map,List.length_cons];omega);conv=>lhs;whnf
   repeat(first|refine aq k1 ?_|refine au hD rfl ?_
          conv=>lhs;whnf)
   refine(hD _).2 ⟨hroom,fun A6 hPut=> ?_⟩;have hG6:=hG.next hD' hkl hR hPut
   have hd2:d=Ls.length-(Ws++ [(⟨.slice (aD base2) wn wc,wn,wc,wg⟩:LsD)]).length:=by
    rw [List.length_append,List.length_singleton];omega
   rw [hd2]at hG6;conv=>lhs;whnf
   exact(hD _).2 ⟨(⟨A6,Ws++ [(⟨.slice (aD base2) wn wc,wn,wc,wg⟩:LsD)]⟩:FbG),⟨hG6,⟨(av (k:=Ws.length) (by omega)).trans (by rw [List.length_append,List.length_singleton]),trivial⟩,trivial,rfl⟩,by show Ls.length-(Ws++ [(⟨.slice (aD base2) wn wc,wn,wc,wg⟩:LsD)]).length<Ls.length-Ws.length;rw [List.length_append,List.length_singleton];omega,⟨an rfl rfl,an rfl rfl,trivial⟩,trivial⟩
 have hWe:Ws.length=Ls.length:=by
  have hlt:¬((Ws.length:Int)<(Ls.length:Int)):=hlt;omega
 rw [hWe,Nat.sub_self,List.replicate_zero]at hG;clear hlt hWl;conv=>lhs;whnf
 refine(hD _).2 ⟨fl5 A2 Ls.length,⟨(0:Nat),Nat.zero_le _,⟨rfl,trivial⟩,trivial,rfl⟩,fun(k:Nat) hk=>⟨⟨trivial,trivial⟩,trivial,?_⟩⟩;have hk:k≤Ls.length:=hk;conv=>lhs;whnf
 refine ab (fun hlt=> ?_) (fun hlt=> ?_)
 ·have hlt:(k:Int)<(Ls.length:Int):=hlt
  have hkl:k<Ls.length:=by omega
  obtain⟨g0,o,rfl,hr0⟩:=hrow k hkl;have k0:(0:Int)≤(k:Int)∧(k:Int)<(Ls.length:Int):=by omega
  have k1:(0:Int)≤(k:Int)∧(k:Int)<(((Ls.length:Int).toNat:Nat):Int):=by
   rw [Int.toNat_natCast];exact k0
  have hsm:=hD'.small k hkl;obtain⟨hw1,hw2⟩:=hG.ws k (by omega) hkl;obtain⟨gw,hwv,hwr⟩:=hw1.reads (nU k) (by omega);obtain⟨base,gl,hbv,hbo,hlr⟩:=(hG.full k hkl).both (nU k)
  have rls:A2.rd g0 (o+k*1) 1=some [.slice (aD base) Ls[k].n Ls[k].c]:=by
   rw [←hbv];exact aJ hG.sub hr0
  have rgs:A2.rd gb (0+k*1) 1=some [.slice (some ⟨gw,0,none⟩) (Ls[k].n+64) (Ws[k]'(by omega)).c]:=by
   rw [←hw2,←hwv];have h9:=hG.gs.rd (o:=0+k*1) (n:=1) (by rw [List.length_append,List.length_map];omega);rw [h9,List.append_nil,Nat.zero_add,Nat.mul_one,←List.map_drop,←List.map_take,List.drop_eq_getElem_cons (by omega)];rfl
  conv=>lhs;whnf
  refine(hD _).2 ⟨fl6 A2 (Ls[k].n+64),⟨(0:Nat),Nat.zero_le _,⟨rfl,trivial⟩,trivial,rfl⟩,fun(i:Nat) hi=>⟨⟨trivial,trivial⟩,trivial,?_⟩⟩;have hi:i≤Ls[k].n+64:=hi;conv=>lhs;whnf
  repeat(first|refine aq k1 ?_|refine af rgs ?_|refine au hD rfl ?_
         conv=>lhs;whnf)
  refine ab (fun hlt=> ?_) (fun hlt=> ?_)
  ·have hlt:(i:Int)<((Ls[k].n+64:Nat):Int):=hlt
   have hil:i<Ls[k].n+64:=by omega
   have i0:(0:Int)≤(i:Int)∧(i:Int)<((Ls[k].n+64:Nat):Int):=by omega
   have rw9:A2.rd gw (0+i*1) 1=some [.int .u8 (mkB (k:Int) (i:Int))]:=hwr i hil;conv=>lhs;whnf
   repeat(first|refine aq k1 ?_|refine aq i0 ?_|refine af rgs ?_|refine af rw9 ?_|refine au hD rfl ?_
          conv=>lhs;whnf)
   refine(hD _).2 ⟨((k:Int),(i:Int)),rfl,fun v A9 hq=> ?_⟩;obtain⟨h9,hv⟩:A9=A2∧v=(.int .u8 (mkB (k:Int) (i:Int))):=hq;subst h9;subst hv
   conv=>lhs;whnf
   repeat(first|refine aq k1 ?_|refine aq i0 ?_|refine af rgs ?_|refine af rw9 ?_|refine au hD rfl ?_
          conv=>lhs;whnf)
   refine cL (fun _=> ?_) (fun h=>absurd rfl h);conv=>lhs;whnf
   repeat(first|refine aq k0 ?_|refine af rls ?_|refine au hD rfl ?_
          conv=>lhs;whnf)
   refine ab (fun hln=> ?_) (fun hln=> ?_)
   ·have hln:(i:Int)<(Ls[k].n:Int):=hln
    have hb:=hbo (by omega);have i2:(0:Int)≤(i:Int)∧(i:Int)<(Ls[k].n:Int):=by omega
    have rl9:A9.rd gl (0+i*1) 1=some [.int .u8 (mkB (k:Int) (i:Int))]:=hlr i (by omega)
    have rls2:A9.rd g0 (o+k*1) 1=some [.slice (some ⟨gl,0,none⟩) Ls[k].n Ls[k].c]:=by
     rw [←hb];exact rls
    conv=>lhs;whnf
    repeat(first|refine aq k0 ?_|refine aq i2 ?_|refine af rls2 ?_|refine af rl9 ?_|refine au hD rfl ?_
           conv=>lhs;whnf)
    refine(hD _).2 ⟨((k:Int),(i:Int)),rfl,fun v A7 hq=> ?_⟩;obtain⟨h9,hv⟩:A7=A9∧v=(.int .u8 (mkB (k:Int) (i:Int))):=hq;subst h9;subst hv
    conv=>lhs;whnf
    repeat(first|refine aq k0 ?_|refine aq i2 ?_|refine af rls2 ?_|refine af rl9 ?_|refine au hD rfl ?_
           conv=>lhs;whnf)
    refine cL (fun _=> ?_) (fun h=>absurd rfl h);conv=>lhs;whnf
    exact(hD _).2 ⟨(i+1:Nat),⟨hil,⟨av (k:=i) (by omega),trivial⟩,trivial,rfl⟩,by show Ls[k].n+64-(i+1)<Ls[k].n+64-i;omega,⟨an rfl rfl,an rfl rfl,an rfl rfl,trivial⟩,trivial⟩
   ·conv=>lhs;whnf
    exact(hD _).2 ⟨(i+1:Nat),⟨hil,⟨av (k:=i) (by omega),trivial⟩,trivial,rfl⟩,by show Ls[k].n+64-(i+1)<Ls[k].n+64-i;omega,⟨an rfl rfl,an rfl rfl,an rfl rfl,trivial⟩,trivial⟩
  ·conv=>lhs;whnf
   exact(hD _).2 ⟨(k+1:Nat),⟨hkl,⟨av (k:=k) (by omega),trivial⟩,trivial,rfl⟩,by show Ls.length-(k+1)<Ls.length-k;omega,⟨an rfl rfl,an rfl rfl,trivial⟩,trivial⟩
 clear hlt hk;have hG4:=hG.again (q':=0)
 have hWn:∀j (h:j<Ws.length),0<Ws[j].n:=fun j h=>by
  have:=(hG.ws j h (by omega)).2;omega
 clear hG;conv=>lhs;whnf
 refine(hD _).2 ⟨fl7 C 1 5 mmB Ls Ws gb,⟨(⟨A2, []⟩:FbG),hG4,⟨rfl,trivial⟩,trivial,rfl⟩,fun(s:FbG) hG=>⟨⟨trivial,trivial⟩,trivial,?_⟩⟩;clear hG4;obtain⟨A3,Vs⟩:=s;have hG:FlG C A3 1 5 mmB Ls gb 0 Vs ((Ws.drop Vs.length).map LsD.v):=hG
 have hVl:Vs.length≤Ls.length:=by
  have:=hG.rl;omega
 conv=>lhs;whnf
 refine ab (fun hlt=> ?_) (fun hlt=> ?_)
 ·have hlt:(Vs.length:Int)<(Ls.length:Int):=hlt
  have hkl:Vs.length<Ls.length:=by omega
  obtain⟨g0,o,rfl,hr0⟩:=hrow Vs.length hkl;have k0:(0:Int)≤(Vs.length:Int)∧(Vs.length:Int)<(Ls.length:Int):=by omega
  have k1:(0:Int)≤(Vs.length:Int)∧(Vs.length:Int)<(((Ls.length:Int).toNat:Nat):Int):=by
   rw [Int.toNat_natCast];exact k0
  have hFk:=hG.full Vs.length hkl;have hsm:=hD'.small Vs.length hkl;conv=>lhs;whnf
  refine(hD _).2 ⟨by omega,Int.le_refl _,by omega,by show 1*64≤281474976710656;omega,rfl,fun mb A4 c4 hc4 hN4=> ?_⟩;have hN4:A3.New A4 mb c4 5:=hN4;have hc4:c4.toList=(List.replicate 64 [Value.int .u8 0]).flatten:=hc4
  have hmb:C.blk mb=none:=by
   cases h:C.blk mb with
   |none=>rfl
   |some o'=>
    have:=hN4.none_;rw [hG.sub mb o' h]at this
    cases this
  have hcm:aG A4 mb (List.replicate 64 [Value.int .u8 0]).flatten:=by
   rw [←hc4];exact aG.new hN4
  conv=>lhs;whnf
  refine(hD _).2 ⟨fl8 A3 1 mb,⟨(⟨0,A4⟩:FaG),⟨Nat.zero_le _,hN4.sub,_,hcm,rfl,fun v hv=>by
   obtain⟨r,hr,hv⟩:=List.mem_flatten.1 hv;rw [List.eq_of_mem_replicate hr]at hv;simp only [List.mem_cons,List.not_mem_nil,or_false]at hv
   rcases hv with rfl<;>rfl⟩,⟨rfl,trivial⟩,trivial,rfl⟩,fun(s:FaG) hG'=>⟨⟨trivial,trivial⟩,trivial,?_⟩⟩
  obtain⟨i,A5⟩:=s;obtain⟨hi,hs5,cm,hcm5,hml,hmo⟩:i≤64∧A3.Sub A5∧∃cs,aG A5 mb cs∧cs.length=64*1∧∀v∈cs,v.oneCell'=true:=hG';have hR5:=(FlR.start hFk).more hs5;obtain⟨base3,cs3,hwv3,hbase3,hcs3,hG3,hA3⟩:=hR5.app;have hsub5:C.Sub A5:=hG.sub.trans hs5
  have rls:A5.rd g0 (o+Vs.length*1) 1=some [.slice (aD base3) Ls[Vs.length].n Ls[Vs.length].c]:=by
   rw [←hwv3];exact aJ hsub5 hr0
  have hPd:=hG3 64 1 (by omega) (by show Ls[Vs.length].n+64≤1000000000;omega) (by omega)
  have hrm:A5.rd mb 0 (64*1)=some cm:=by
   have h9:=hcm5.rd (o:=0) (n:=64*1) (by omega);rw [h9,List.drop_zero,List.take_of_length_le (by omega)]
  have hgs:aG A5 gb (Vs.map LsD.v++(Ws.drop Vs.length).map LsD.v):=hG.gs.sub fun o' ho=>hs5 _ _ ho
  have hdn5:∀x,A5.blk x=none→A3.blk x=none:=fun x hx=>by
   cases h:A3.blk x with
   |none=>rfl
   |some o'=>rw [hs5 x o' h]at hx;cases hx
  conv=>lhs;whnf
  refine ab (fun hlt=> ?_) (fun hlt=> ?_)
  ·have hlt:(i:Int)<64:=hlt
   have hi64:i<64:=by omega
   have i0:(0:Int)≤(i:Int)∧(i:Int)<64:=by omega
   have hroom:A5.Room mb (0+i*1) 1:=hcm5.room (by omega);conv=>lhs;whnf
   repeat(first|refine aq i0 ?_|refine au hD rfl ?_
          conv=>lhs;whnf)
   refine(hD _).2 ⟨(IntKind.i64.wrap ((Vs.length:Int)+(Ls.length:Int)),(i:Int)),rfl,fun v A9 hq=> ?_⟩;obtain⟨h9,hv⟩:A9=A5∧v=(.int .u8 (mkB (IntKind.i64.wrap ((Vs.length:Int)+(Ls.length:Int))) (i:Int))):=hq;subst h9;subst hv
   conv=>lhs;whnf
   repeat(first|refine aq i0 ?_|refine au hD rfl ?_
          conv=>lhs;whnf)
   refine(hD _).2 ⟨hroom,fun A6 hPut=> ?_⟩;have hPut:A9.Put A6 mb (0+i*1) [.int .u8 (mkB (IntKind.i64.wrap ((Vs.length:Int)+(Ls.length:Int))) (i:Int))]:=hPut;have hc6:=hcm5.put hPut (by show 0+i*1+1≤cm.length;omega);conv=>lhs;whnf
   exact(hD _).2 ⟨(⟨i+1,A6⟩:FaG),⟨⟨hi64,fun x o' hx=>by
    rw [hPut.other x fun e=>(by rw [e,hN4.none_]at hx;cases hx)];exact hs5 x o' hx,_,hc6,by
    simp only [List.length_append,List.length_take,List.length_drop,List.length_cons,List.length_nil];omega,fun v hv=>by
    rcases List.mem_append.1 hv with hv|hv
    ·rcases List.mem_append.1 hv with hv|hv
     ·exact hmo v (List.mem_of_mem_take hv)
     ·simp only [List.mem_cons,List.not_mem_nil,or_false]at hv
      rcases hv with rfl<;>rfl
    ·exact hmo v (List.mem_of_mem_drop hv)⟩,⟨av (k:=i) (by omega),trivial⟩,trivial,rfl⟩,by show 64-(i+1)<64-i;omega,⟨an rfl rfl,an rfl rfl,an rfl rfl,an rfl rfl,trivial⟩,trivial⟩
  ·clear hlt
   rcases hbase3 with rfl|⟨gx,ox,rfl⟩<;>(conv=>lhs;whnf)
   all_goals
    repeat(first|refine aq k0 ?_|refine aq k1 ?_|refine af rls ?_|refine au hD rfl ?_
           conv=>lhs;whnf)
    refine(hD _).2 ⟨cs3,cm,hPd.rd,?_,hml,hmo,?_,hPd.cap,rfl,hPd.none_,fun g' o' he' hle' _=>hPd.room cm.length hml g' o' he' hle',fun v9 A7 hAp=> ?_⟩
    ·show(if 64*1=0 then some []else A5.rd mb 0 (64*1))=_
     rw [if_neg (by omega)];exact hrm
    ·show Ls[Vs.length].n+64≤9223372036854775807
     omega
    ·obtain⟨W',e1,hR7, -⟩:=hA3 64 cm v9 A7 hml (by omega) hdn5 hAp
     obtain⟨b9,hb9, -⟩:=hR7.w.form;rw [e1]at hb9;subst hb9;have hR7':FlR A3 A7 1 5 (mmB Vs.length) Ls[Vs.length] W' 64 (Ls[Vs.length].n+0):=hR7;have hdr:Ws.drop Vs.length=Ws[Vs.length]'(by omega)::Ws.drop (Vs.length+1):=List.drop_eq_getElem_cons (by omega);rw [hdr,List.map_cons]at hG;have hg7:aG A7 gb (Vs.map LsD.v++((Ws[Vs.length]'(by omega)).v::(Ws.drop (Vs.length+1)).map LsD.v)):=hG.gs.sub fun o' ho=>hR7.bk gb o' ho (hG.gbL _ hkl)
     have hroom:A7.Room gb (0+Vs.length*1) 1:=hg7.room (by rw [List.length_append,List.length_map,List.length_cons];omega);conv=>lhs;whnf
     repeat(first|refine aq k0 ?_|refine aq k1 ?_|refine au hD rfl ?_
            conv=>lhs;whnf)
     refine(hD _).2 ⟨hroom,fun A6 hPut=> ?_⟩;have hPut:A7.Put A6 gb (0+Vs.length*1) [.slice (aD b9) W'.n W'.c]:=hPut;rw [←e1]at hPut;have hG6:=hG.next hD' hkl hR7' hPut;have hl9:Vs.length+1=(Vs++ [W']).length:=by rw [List.length_append,List.length_singleton]
     rw [hl9]at hG6;conv=>lhs;whnf
     exact(hD _).2 ⟨(⟨A6,Vs++ [W']⟩:FbG),⟨hG6,⟨(av (k:=Vs.length) (by omega)).trans (by rw [hl9]),trivial⟩,trivial,rfl⟩,by show Ls.length-(Vs++ [W']).length<Ls.length-Vs.length;rw [List.length_append,List.length_singleton];omega,⟨an rfl rfl,an rfl rfl,trivial⟩,trivial⟩
 have hVe:Vs.length=Ls.length:=by
  have hlt:¬((Vs.length:Int)<(Ls.length:Int)):=hlt;omega
 have hdr:Ws.drop Vs.length= []:=List.drop_of_length_le (by omega);rw [hdr,List.map_nil]at hG;clear hlt hVl;conv=>lhs;whnf
 refine(hD _).2 ⟨fl9 A3 Ls.length,⟨(0:Nat),Nat.zero_le _,⟨rfl,trivial⟩,trivial,rfl⟩,fun(k:Nat) hk=>⟨⟨trivial,trivial⟩,trivial,?_⟩⟩;have hk:k≤Ls.length:=hk;have hend:(kH 1 5).post (C,Ls) [] A (.bool true) A3:=⟨hG.sub,rfl⟩;conv=>lhs;whnf
 refine ab (fun hlt=> ?_) (fun hlt=> ?_)
 ·have hlt:(k:Int)<(Ls.length:Int):=hlt
  have hkl:k<Ls.length:=by omega
  obtain⟨g0,o,rfl,hr0⟩:=hrow k hkl;have k0:(0:Int)≤(k:Int)∧(k:Int)<(Ls.length:Int):=by omega
  have k1:(0:Int)≤(k:Int)∧(k:Int)<(((Ls.length:Int).toNat:Nat):Int):=by
   rw [Int.toNat_natCast];exact k0
  have hsm:=hD'.small k hkl;obtain⟨hw1,hw2⟩:=hG.ws k (by omega) hkl;obtain⟨bw,gw,hwv,hwb,hwr⟩:=hw1.both (nU k);obtain⟨base,gl,hbv,hbo,hlr⟩:=(hG.full k hkl).both (nU k)
  have rls:A3.rd g0 (o+k*1) 1=some [.slice (aD base) Ls[k].n Ls[k].c]:=by
   rw [←hbv];exact aJ hG.sub hr0
  have rgs:A3.rd gb (0+k*1) 1=some [.slice (aD bw) (Ls[k].n+64) (Vs[k]'(by omega)).c]:=by
   rw [←hw2,←hwv];have h9:=hG.gs.rd (o:=0+k*1) (n:=1) (by rw [List.length_append,List.length_map];omega);rw [h9,List.append_nil,Nat.zero_add,Nat.mul_one,←List.map_drop,←List.map_take,List.drop_eq_getElem_cons (by omega)];rfl
  conv=>lhs;whnf
  refine(hD _).2 ⟨fl10 A3 Ls[k].n,⟨(0:Nat),Nat.zero_le _,⟨rfl,trivial⟩,trivial,rfl⟩,fun(i:Nat) hi=>⟨⟨trivial,trivial⟩,trivial,?_⟩⟩;have hi:i≤Ls[k].n:=hi;conv=>lhs;whnf
  repeat(first|refine aq k0 ?_|refine af rls ?_|refine au hD rfl ?_
         conv=>lhs;whnf)
  refine ab (fun hlt=> ?_) (fun hlt=> ?_)
  ·have hlt:(i:Int)<(Ls[k].n:Int):=hlt
   have hil:i<Ls[k].n:=by omega
   have i0:(0:Int)≤(i:Int)∧(i:Int)<(Ls[k].n:Int):=by omega
   have i1:(0:Int)≤(i:Int)∧(i:Int)<((Ls[k].n+64:Nat):Int):=by omega
   have rw9:A3.rd gw (0+i*1) 1=some [.int .u8 (mkB (k:Int) (i:Int))]:=hwr i hil;have rl9:A3.rd gl (0+i*1) 1=some [.int .u8 (mkB (k:Int) (i:Int))]:=hlr i hil
   have rls2:A3.rd g0 (o+k*1) 1=some [.slice (some ⟨gl,0,none⟩) Ls[k].n Ls[k].c]:=by
    rw [←hbo (by omega)];exact rls
   have rgs2:A3.rd gb (0+k*1) 1=some [.slice (some ⟨gw,0,none⟩) (Ls[k].n+64) (Vs[k]'(by omega)).c]:=by
    rw [←hwb (by omega)];exact rgs
   conv=>lhs;whnf
   repeat(first|refine aq k0 ?_|refine aq i0 ?_|refine af rls2 ?_|refine af rl9 ?_|refine au hD rfl ?_
          conv=>lhs;whnf)
   refine(hD _).2 ⟨((k:Int),(i:Int)),rfl,fun v A9 hq=> ?_⟩;obtain⟨h9,hv⟩:A9=A3∧v=(.int .u8 (mkB (k:Int) (i:Int))):=hq;subst h9;subst hv
   conv=>lhs;whnf
   repeat(first|refine aq k0 ?_|refine aq i0 ?_|refine af rls2 ?_|refine af rl9 ?_|refine au hD rfl ?_
          conv=>lhs;whnf)
   refine cL (fun _=> ?_) (fun h=>absurd rfl h);conv=>lhs;whnf
   repeat(first|refine aq k1 ?_|refine aq i1 ?_|refine af rgs2 ?_|refine af rw9 ?_|refine au hD rfl ?_
          conv=>lhs;whnf)
   refine(hD _).2 ⟨((k:Int),(i:Int)),rfl,fun v A7 hq=> ?_⟩;obtain⟨h9,hv⟩:A7=A9∧v=(.int .u8 (mkB (k:Int) (i:Int))):=hq;subst h9;subst hv
   conv=>lhs;whnf
   repeat(first|refine aq k1 ?_|refine aq i1 ?_|refine af rgs2 ?_|refine af rw9 ?_|refine au hD rfl ?_
          conv=>lhs;whnf)
   refine cL (fun _=> ?_) (fun h=>absurd rfl h);conv=>lhs;whnf
   exact(hD _).2 ⟨(i+1:Nat),⟨hil,⟨av (k:=i) (by omega),trivial⟩,trivial,rfl⟩,by show Ls[k].n-(i+1)<Ls[k].n-i;omega,⟨an rfl rfl,an rfl rfl,an rfl rfl,trivial⟩,trivial⟩
  ·conv=>lhs;whnf
   exact(hD _).2 ⟨(k+1:Nat),⟨hkl,⟨av (k:=k) (by omega),trivial⟩,trivial,rfl⟩,by show Ls.length-(k+1)<Ls.length-k;omega,⟨an rfl rfl,an rfl rfl,trivial⟩,trivial⟩
 conv=>lhs;whnf
 exact(hD _).2 hend
def gP:aL:=⟨Int×Int,fun g vs _=>vs= [.int .i64 g.1,.int .i64 g.2],fun g _ A v A'=>A'=A∧v=mbV [.int .i64 (mkI g.1 g.2),.int .u8 0,.int .i64 0,.int .i64 0]⟩
theorem gJ:FOk Tryz.prog 131 gP:=by
 refine aS mixed fun⟨k,i⟩ vs A hp=> ?_
 obtain rfl:vs= [.int .i64 k,.int .i64 i]:=hp;refine⟨noC,noL,60,aj _,ak _,fun blk os out tape D hD=> ?_⟩;conv=>lhs;whnf
 exact(hD _).2 ⟨rfl,rfl⟩
theorem x6(k:Nat):gZ (k+1)=gZ k++uE 1 k:=by
 unfold gZ;rw [List.range_succ,List.flatMap_append,List.flatMap_singleton]
theorem Fx(l:List bT):∀v∈bD l,v.oneCell'=true:=fun v hv=>by
 unfold bD at hv;obtain⟨r,hr,hv⟩:=List.mem_flatten.1 hv;obtain⟨y,_,rfl⟩:=List.mem_map.1 hr;simp only [bT.cells,List.mem_cons,List.not_mem_nil,or_false]at hv;rcases hv with rfl|rfl|rfl|rfl<;>rfl
theorem FB{xs:List Value}{n:Nat}(hx:xs.length=n*4)(k:Nat)(hk:k<12):((xs++gZ 12).drop ((n+k)*4)).take 4=uE 1 k:=by
 rw [List.drop_append,List.drop_eq_nil_of_le (by rw [hx];omega),List.nil_append,hx];have e:(n+k)*4-n*4=k*4:=by omega
 rw [e];have h12:k=0∨k=1∨k=2∨k=3∨k=4∨k=5∨k=6∨k=7∨k=8∨k=9∨k=10∨k=11:=by omega
 rcases h12 with rfl|rfl|rfl|rfl|rfl|rfl|rfl|rfl|rfl|rfl|rfl|rfl<;>rfl
def sh(A0:aa)(g c:Nat)(l:List bT):dE:=
 { γ:=LbG,G:=fun s=>s.k≤12∧A0.Sub s.A∧bV s.A g 4 97 (l.length+s.k) c (bD l++gZ s.k),
   keepS:= [0],keepB:= [],sl:=fun s=> [(4,.v (.int .i64 s.k)),(3,.v (.slice (some ⟨g,0,none⟩) (l.length+s.k) c))],bl:=fun _=> [],ar:=fun s=>s.A,mu:=fun s=>12-s.k }
def im:aL:=⟨List bT,fun l vs A=>∃x,vs= [x]∧kD A x l,
 fun l _ A v A'=>A.Sub A'∧∃g c,v= .slice (some ⟨g,0,none⟩) l.length c∧A.blk g=none∧bV A' g 4 97 (l.length+12) c (bD l++gZ 12)⟩
theorem r9:FOk Tryz.prog 89 im:=by
 refine aS mixed fun(l:List bT) vs A hp=> ?_
 obtain⟨x,rfl,⟨⟨a7,k7,rfl,hd7,hdl,hz1,hz2,hz3⟩,hdn⟩⟩:∃x,vs= [x]∧kD A x l:=hp
 have hC:aF Tryz.prog (bu [aE 131 gP] noC):=az (aj _) (fun x hx=>by
  simp only [List.mem_singleton]at hx
  subst hx;exact ai gJ)
 refine⟨_,da Tryz.prog _ noL 60 [(89,0)],60,hC,aH mixed hC (ak _) _ _,fun blk os out tape D hD=> ?_⟩;have hw:IntKind.i64.wrap ((l.length:Int)+12)=(l.length:Int)+12:=Sx.wrap_i64 (by omega) (by omega);obtain⟨c0,hc0⟩:∃c0:Nat,c0=(IntKind.i64.wrap ((l.length:Int)+12)).toNat:=⟨_,rfl⟩;have hc0e:c0=l.length+12:=by rw [hc0];exact Ek (by omega)
 have hcs:(a7=none∧l.length=0)∨(∃g7 o7 t7,a7=some ⟨g7,o7,some t7⟩∧l.length=0)∨∃g7 o7,a7=some ⟨g7,o7,none⟩:=by
  cases a7 with
  |none=>exact .inl ⟨rfl,by have:=hz1 rfl;omega⟩
  |some a=>
   obtain⟨g7,o7,sp⟩:=a
   cases sp with
   |none=>exact .inr (.inr ⟨g7,o7,rfl⟩)
   |some t7=>
    refine .inr (.inl ⟨g7,o7,t7,rfl,?_⟩);rcases Nat.eq_zero_or_pos k7 with hh|hh
    ·omega
    ·have:=hz2 _ rfl hh
     cases this
 refine Or.elim hcs (fun e=> ?_) (fun e=>Or.elim e (fun e=> ?_) (fun e=> ?_));obtain⟨e,h0⟩:=e;subst e
 have hsrc:∀A1,A.Sub A1→(if l.length=0 then some []else none)=some (bD l):=fun A1 _=>by
  rw [if_pos h0,List.length_eq_zero_iff.1 h0];rfl
 rotate_left;obtain⟨g7,o7,t7,e,h0⟩:=e;subst e
 have hsrc:∀A1,A.Sub A1→(if l.length=0 then some []else none)=some (bD l):=fun A1 _=>by
  rw [if_pos h0,List.length_eq_zero_iff.1 h0];rfl
 rotate_left;obtain⟨g7,o7,e⟩:=e;subst e
 have hsrc:∀A1,A.Sub A1→(if l.length=0 then some []else A1.rd g7 o7 (l.length*4))=some (bD l):=fun A1 hs=>by
  by_cases h0:l.length=0
  ·rw [if_pos h0,List.length_eq_zero_iff.1 h0];rfl
  ·rw [if_neg h0];exact aJ hs (hz3 (by omega) _ rfl)
 rotate_left
 all_goals
  conv=>lhs;whnf
  refine(hD _).2 ⟨by omega,by rw [hw];omega,by rw [hw];omega,by
   rw [←hc0,hc0e];show 32*(l.length+12)≤_
   omega,rfl,fun g A1 cc hcl hNw=> ?_⟩
  have hNw:A.New A1 g cc 97:=hNw
  have hL0:bV A1 g 4 97 0 c0 []:=by
   refine⟨⟨cc,hNw.at_,?_,by simp⟩,Nat.zero_le _,rfl⟩;rw [←Array.length_toList,hcl,←hc0];simp [List.length_flatten];rfl
  conv=>lhs;whnf
  refine(hD _).2 ⟨[],bD l,hL0.base,hsrc A1 hNw.sub,hdl,Fx l,by show 0+l.length≤_;omega,fun h9=>(by
   have h9:(IntKind.i64.wrap ((l.length:Int)+12)).toNat<0+l.length:=h9
   omega),rfl,fun h=>(by cases h),fun g' o' hb _ _=>(by
   injection hb with hb
   injection hb with e1 e2
   subst e1;subst e2
   refine hL0.room ?_;show 0+0*4+_≤_
   rw [fT]
   omega),fun v A2 hA=> ?_⟩
  obtain⟨hv,hL1,ho1⟩:=hL0.add (m:=l.length) (v:=v) (A2:=A2) (by omega) hdl (by rw [hc0];exact hA);rw [Nat.zero_add]at hv;subst hv;rw [Nat.zero_add,List.nil_append]at hL1
  have hs2:A.Sub A2:=fun k o hk=>by
   rw [ho1 k fun e=>(by subst e;rw [hNw.none_]at hk;cases hk)];exact hNw.sub _ _ hk
  conv=>lhs;whnf
  refine(hD _).2 ⟨sh A g c0 l,⟨(⟨0,A2⟩:LbG),⟨Nat.zero_le _,hs2,by
   show bV A2 g 4 97 (l.length+0) c0 (bD l++ [])
   rw [Nat.add_zero,List.append_nil]
   exact hL1⟩,⟨rfl,rfl,trivial⟩,trivial,rfl⟩,fun(s:LbG) hG=>⟨⟨trivial,trivial,trivial⟩,trivial,?_⟩⟩
  obtain⟨k,As⟩:=s;obtain⟨hk,hsA,hLs⟩:k≤12∧A.Sub As∧bV As g 4 97 (l.length+k) c0 (bD l++gZ k):=hG;conv=>lhs;whnf
  refine ab (fun hlt=> ?_) (fun hlt=> ?_);rotate_left
  ·have hlt:¬(k:Int)<12:=hlt
   have h12:k=12:=by omega
   subst h12;have hle1:(l.length:Int)≤(c0:Int):=by omega
   have hend:im.post l [] A (.slice (some ⟨g,0,none⟩) l.length c0) As:=⟨hsA,g,c0,rfl,hNw.none_,hLs⟩;conv=>lhs;whnf
   refine bP hle1 ?_;conv=>lhs;whnf
   refine(hD _).2 ?_;show im.post l [] A (.slice (some ⟨g,0+(bif c0.beq (Int.toNat 0)then 0 else Int.toNat 0*4),none⟩) (Int.toNat (l.length:Int)-Int.toNat 0) (c0-Int.toNat 0)) As
   rw [win0];exact hend
  have hlt:(k:Int)<12:=hlt;conv=>lhs;whnf
  refine(hD _).2 ⟨((1:Int),(k:Int)),rfl,fun v A9 hq=> ?_⟩;obtain⟨h9,hv⟩:A9=As∧v=mbV [.int .i64 (mkI 1 k),.int .u8 0,.int .i64 0,.int .i64 0]:=hq;subst h9;subst hv
  conv=>lhs;whnf
  refine(hD _).2 fun gb A5 hN5=> ?_
  have hN5:A9.New A5 gb #[.int .i64 (mkI 1 k),.int .u8 0,.int .i64 0,.int .i64 0] 97:=hN5;have hrow5:A5.rd gb 0 (1*4)=some (uE 1 k):=hN5.rd (o:=0) (n:=1*4) (by show 0+1*4≤4;omega);have hL5:=hLs.sub hN5.sub;conv=>lhs;whnf
  refine(hD _).2 ⟨bD l++gZ k,uE 1 k,hL5.base,by
   show(if 1*4=0 then some []else A5.rd gb 0 (1*4))=_
   rw [if_neg (by omega)];exact hrow5,rfl,fun v hv=>(by
   simp only [uE,List.mem_cons,List.not_mem_nil,or_false]at hv
   rcases hv with rfl|rfl|rfl|rfl<;>rfl),by
   show l.length+k+1≤_
   omega,fun h9=>(by
   have h9:c0<l.length+k+1:=h9
   omega),rfl,fun h=>(by cases h),fun g' o' hb _ _=>(by
   injection hb with hb
   injection hb with e1 e2
   subst e1;subst e2
   refine hL5.room ?_;show 0+(l.length+k)*4+4≤_
   omega),fun v A6 hA6=> ?_⟩
  obtain⟨hv,hL6,hs6, -⟩:=l9 hsA hNw.none_ hLs hN5 (by omega) rfl hA6;subst hv;rw [List.append_assoc,←x6]at hL6;conv=>lhs;whnf
  exact(hD _).2 ⟨(⟨k+1,A6⟩:LbG),⟨⟨by show k+1≤12;omega,hs6,hL6⟩,⟨av (by omega),rfl,trivial⟩,trivial,rfl⟩,by show 12-(k+1)<12-k;omega,⟨an rfl rfl,trivial⟩,trivial⟩
def ku:aL:=⟨List bT×Nat×Nat,fun g vs A=>∃x,vs= [.slice (some ⟨g.2.1,0,none⟩) g.1.length g.2.2,x]∧kD A x g.1∧bV A g.2.1 4 97 (g.1.length+12) g.2.2 (bD g.1++gZ 12),
 fun _ _ A v A'=>A'=A∧v= .bool true⟩
theorem sr:FOk Tryz.prog 94 ku:=by
 refine aS mixed fun⟨l,g,c⟩ vs A hp=> ?_
 obtain⟨x,rfl,⟨⟨ao,k7,rfl,hd7,hdl,hz1,hz2,hz3⟩,hdn⟩,hL⟩:∃x,vs= [.slice (some ⟨g,0,none⟩) l.length c,x]∧kD A x l∧bV A g 4 97 (l.length+12) c (bD l++gZ 12):=hp
 have hC:aF Tryz.prog (bu [aE 131 gP] noC):=az (aj _) (fun x hx=>by
  simp only [List.mem_singleton]at hx
  subst hx;exact ai gJ)
 refine⟨_,da Tryz.prog _ noL 60 [(94,0)],60,hC,aH mixed hC (ak _) _ _,fun blk os out tape D hD=> ?_⟩
 have hw:IntKind.i64.wrap ((l.length:Int)+12)=((l.length+12:Nat):Int):=by
  rw [Sx.wrap_i64 (by omega) (by omega)];omega
 have hwn:(IntKind.i64.wrap ((l.length:Int)+12)).toNat=l.length+12:=by rw [hw,Int.toNat_natCast]
 have hrow:=hL.rd;have hend:ku.post (l,g,c) [] A (.bool true) A:=⟨rfl,rfl⟩;conv=>lhs;whnf
 refine cL (fun _=> ?_) (fun h=>absurd rfl h);conv=>lhs;whnf
 refine cK (ma (k:=l.length+12) hw hL.le) ?_;conv=>lhs;whnf
 refine(hD _).2 ⟨cnt A 6 [0,1,5] [] (l.length+12) fun _=>True,⟨(0:Nat),⟨Nat.zero_le _,trivial⟩,⟨rfl,trivial⟩,trivial,rfl⟩,fun(k:Nat) hk=>⟨⟨trivial,trivial⟩,trivial,?_⟩⟩;simp only [cnt]at hk;conv=>lhs;whnf
 refine ab (fun hlt=> ?_) (fun hlt=> ?_);rotate_left
 ·conv=>lhs;whnf
  exact(hD _).2 hend
 have hlt:(k:Int)<(((IntKind.i64.wrap ((l.length:Int)+12)).toNat:Nat):Int):=hlt
 have hk2:k<l.length+12:=by
  have h9:=hlt;rw [hwn]at h9;omega
 have i0:(0:Int)≤(k:Int)∧(k:Int)<(((IntKind.i64.wrap ((l.length:Int)+12)).toNat:Nat):Int):=⟨by omega,hlt⟩;have hmu:(l.length+12)-(k+1)<(l.length+12)-k:=by omega
 by_cases h1:k<l.length
 ·obtain⟨g',o',e,hrb⟩:=Sl.at_ hd7 hz1 hz2 hz3 (by omega)
  subst e;have h1i:(k:Int)<(l.length:Int):=by omega
  have h1n:¬(l.length:Int)≤(k:Int):=by omega
  have i1:(0:Int)≤(k:Int)∧(k:Int)<(l.length:Int):=by omega
  have r1:A.rd g ((0+bif c.beq (Int.toNat 0)then 0 else Int.toNat 0*4)+k*4) 4=some [.int .i64 l[k].id,.int .u8 l[k].role,.int .i64 l[k].weight,.int .i64 l[k].group]:=by
   rw [ph];have h9:=cU hrow (i:=0) (m:=l.length*4) (by omega);rw [List.drop_zero,List.take_left' (fT l)]at h9;exact qO h9 k h1 rfl
  have r2:=qO hrb k h1 rfl;obtain⟨⟨u1,u2,u3,u4⟩,hx⟩:∃x,x=l[k]:=⟨_,rfl⟩;rw [←hx]at r1 r2;have r1:A.rd g ((0+bif c.beq (Int.toNat 0)then 0 else Int.toNat 0*4)+k*4) 4=some [.int .i64 u1,.int .u8 u2,.int .i64 u3,.int .i64 u4]:=r1;have r2:A.rd g' (o'+k*4) 4=some [.int .i64 u1,.int .u8 u2,.int .i64 u3,.int .i64 u4]:=r2;conv=>lhs;whnf
  repeat(first|refine bP h1i ?_|refine aq i0 ?_|refine aq i1 ?_|refine af r1 ?_|refine af r2 ?_
         conv=>lhs;whnf)
  refine au hD (by kernel_rfl) ?_;conv=>lhs;whnf
  refine aQ (fun hb=>absurd hb (by simp)) (fun _=> ?_);conv=>lhs;whnf
  repeat(first|refine aI h1n ?_|refine bP h1n ?_
         conv=>lhs;whnf)
  exact(hD _).2 ⟨(k+1:Nat),⟨⟨hk2,trivial⟩,⟨av (by omega),trivial⟩,trivial,rfl⟩,hmu,⟨an rfl rfl,an rfl rfl,an rfl rfl,trivial⟩,trivial⟩
 ·have h1i:¬(k:Int)<(l.length:Int):=by omega
  have h1n:(l.length:Int)≤(k:Int):=by omega
  have hwk:IntKind.i64.wrap ((k:Int)-(l.length:Int))=((k-l.length:Nat):Int):=by
   rw [Sx.wrap_i64 (by omega) (by omega)];omega
  have r1:A.rd g ((0+bif c.beq (Int.toNat 0)then 0 else Int.toNat 0*4)+k*4) 4=some [.int .i64 (mkI 1 ((k-l.length:Nat):Int)),.int .u8 0,.int .i64 0,.int .i64 0]:=by
   rw [ph];have h9:=cU hrow (i:=k*4) (m:=4) (by omega);have h8:=FB (fT l) (k-l.length) (by omega);rw [show l.length+(k-l.length)=k by omega]at h8;rw [h8]at h9;exact h9
  conv=>lhs;whnf
  repeat(first|refine aI h1i ?_|refine bP h1n ?_|refine aq i0 ?_|refine af r1 ?_
         conv=>lhs;whnf)
  refine(hD _).2 ⟨((1:Int),IntKind.i64.wrap ((k:Int)-(l.length:Int))),rfl,fun v A9 hq=> ?_⟩;obtain⟨h9,hv⟩:A9=A∧v=mbV [.int .i64 (mkI 1 (IntKind.i64.wrap ((k:Int)-(l.length:Int)))),.int .u8 0,.int .i64 0,.int .i64 0]:=hq;subst h9;rw [hwk]at hv;subst hv;conv=>lhs;whnf
  repeat(first|refine aI h1i ?_|refine bP h1n ?_|refine aq i0 ?_|refine af r1 ?_|refine au hD rfl ?_
         conv=>lhs;whnf)
  refine au hD (by kernel_rfl) ?_;conv=>lhs;whnf
  repeat(refine au hD rfl ?_
         conv=>lhs;whnf)
  refine aQ (fun hb=>absurd hb (by simp)) (fun _=> ?_);conv=>lhs;whnf
  exact(hD _).2 ⟨(k+1:Nat),⟨⟨hk2,trivial⟩,⟨av (by omega),trivial⟩,trivial,rfl⟩,hmu,⟨an rfl rfl,an rfl rfl,an rfl rfl,trivial⟩,trivial⟩
end
end Go.Proofs.YtphigpccfbfnoaaGreatDoor
