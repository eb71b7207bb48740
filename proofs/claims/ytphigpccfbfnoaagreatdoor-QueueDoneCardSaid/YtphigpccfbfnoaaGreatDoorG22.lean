/-
  Parts of the proof: FkM
-/
import Derived.Test.YtphigpccfbfnoaaGreatDoorG16
import Derived.Test.YtphigpccfbfnoaaGreatDoorG21
set_option maxRecDepth 100000
set_option maxHeartbeats 0
namespace Go.Proofs.YtphigpccfbfnoaaGreatDoor
open Go.Sx Go.RowKit
noncomputable section
open Classical
def mmM(k i:Nat):List Value:= [.int .i64 (mkI (k:Int) (i:Int)),.int .u8 0,.int .i64 0,.int .i64 0]
theorem nT(k i:Nat):(mmM k i).length=4:=rfl
theorem mmM_one(k i:Nat):∀v∈mmM k i,v.oneCell'=true:=fun v hv=>by
 simp only [mmM,List.mem_cons,List.not_mem_nil,or_false]at hv;rcases hv with rfl|rfl|rfl|rfl<;>rfl
theorem sT:FOk Tryz.prog 105 (kH 4 97):=by
 refine aS mixed fun⟨(C:aa),(Ls:List LsD)⟩ vs A hp=> ?_
 obtain⟨x,rfl,hX,hsub,hlay,hD'⟩:∃x,vs= [x]∧Sl C 1 Ls.length x (Ls.map LsD.v)∧C.Sub A∧(∀j (h:j<Ls.length),∃cs,LsR A 4 97 Ls[j] cs)∧FlD C Ls:=hp;obtain⟨ao,c,rfl,hc, -,ha1,ha2,ha3⟩:=hX
 have hrow:∀k (hk:k<Ls.length),∃g0 o,ao=some ⟨g0,o,none⟩∧C.rd g0 (o+k*1) 1=some [Ls[k].v]:=fun k hk=>by
  obtain⟨g0,o,e,hra⟩:=Sl.at_ hc ha1 ha2 ha3 (by omega);exact⟨g0,o,e,BC hra k hk rfl⟩
 have hfew:=hD'.few
 have hC:aF Tryz.prog (bu [aE 131 gP] noC):=az (aj _) (fun x hx=>by
  simp only [List.mem_cons,List.not_mem_nil,or_false]at hx;subst hx
  exact ai gJ)
 have hin:=aH mixed hC (ak _) 60 [(105,2),(105,6),(105,10),(105,14),(105,18)];refine⟨_,da Tryz.prog _ (da Tryz.prog _ noL 60 [(105,2),(105,6),(105,10),(105,14),(105,18)]) 60 [(105,0),(105,4),(105,8),(105,12),(105,16)],60,hC,aH mixed hC hin _ _,fun blk os' out tape D hD=> ?_⟩;conv=>lhs;whnf
 refine(hD _).2 ⟨fl1 C 4 97 mmM Ls,⟨(⟨0,A⟩:FaG),⟨Nat.zero_le _,hsub,FlS.zero hlay⟩,⟨rfl,trivial⟩,trivial,rfl⟩,fun(s:FaG) hG=>⟨⟨trivial,trivial⟩,trivial,?_⟩⟩;clear hlay hsub;obtain⟨k,Ak⟩:=s;obtain⟨hk,hsub,hS⟩:k≤Ls.length∧C.Sub Ak∧FlS Ak 4 97 mmM Ls k 0:=hG;conv=>lhs;whnf
 refine ab (fun hlt=> ?_) (fun hlt=> ?_)
 ·have hlt:(k:Int)<(Ls.length:Int):=hlt
  have hkl:k<Ls.length:=by omega
  obtain⟨g0,o,rfl,hr0⟩:=hrow k hkl;have k0:(0:Int)≤(k:Int)∧(k:Int)<(Ls.length:Int):=by omega
  conv=>lhs;whnf
  refine(hD _).2 ⟨fl2 C 4 97 mmM Ls k Ls[k].n,⟨(⟨0,Ak⟩:FaG),⟨Nat.zero_le _,hsub,hS⟩,⟨rfl,trivial⟩,trivial,rfl⟩,fun(s:FaG) hG=>⟨⟨trivial,trivial⟩,trivial,?_⟩⟩;clear hS hsub;obtain⟨i,Ai⟩:=s;obtain⟨hi,hsub,hS⟩:i≤Ls[k].n∧C.Sub Ai∧FlS Ai 4 97 mmM Ls k i:=hG;obtain⟨base,hbv,hbase⟩:=(hS.at_ hkl).form;have hsm:=hD'.small k hkl
  have r1:Ai.rd g0 (o+k*1) 1=some [.slice (aD base) Ls[k].n Ls[k].c]:=by
   rw [←hbv];exact aJ hsub hr0
  conv=>lhs;whnf
  repeat(first|refine aq k0 ?_|refine af r1 ?_|refine au hD rfl ?_
         conv=>lhs;whnf)
  refine ab (fun hlt=> ?_) (fun hlt=> ?_)
  ·have hlt:(i:Int)<(Ls[k].n:Int):=hlt
   have hil:i<Ls[k].n:=by omega
   have i0:(0:Int)≤(i:Int)∧(i:Int)<(Ls[k].n:Int):=by omega
   obtain⟨g,hgv,hroom,hput⟩:=FlS.put nT hD' hsub hkl hS hil
   have r2:Ai.rd g0 (o+k*1) 1=some [.slice (some ⟨g,0,none⟩) Ls[k].n Ls[k].c]:=by
    rw [←hgv];exact aJ hsub hr0
   clear hbv hbase r1;conv=>lhs;whnf
   repeat(first|refine aq k0 ?_|refine aq i0 ?_|refine af r2 ?_|refine au hD rfl ?_
          conv=>lhs;whnf)
   refine(hD _).2 ⟨((k:Int),(i:Int)),rfl,fun v A9 hq=> ?_⟩;obtain⟨h9,hv⟩:A9=Ai∧v=(mbV [.int .i64 (mkI (k:Int) (i:Int)),.int .u8 0,.int .i64 0,.int .i64 0]):=hq;subst h9;subst hv
   conv=>lhs;whnf
   repeat(first|refine aq k0 ?_|refine aq i0 ?_|refine af r2 ?_|refine au hD rfl ?_
          conv=>lhs;whnf)
   refine(hD _).2 ⟨hroom,fun A6 hPut=> ?_⟩;obtain⟨hS6,hs6⟩:=hput A6 hPut;conv=>lhs;whnf
   exact(hD _).2 ⟨(⟨i+1,A6⟩:FaG),⟨⟨hil,hs6,hS6⟩,⟨av (k:=i) (by omega),trivial⟩,trivial,rfl⟩,by show Ls[k].n-(i+1)<Ls[k].n-i;omega,⟨an rfl rfl,an rfl rfl,trivial⟩,trivial⟩
  ·have hie:i=Ls[k].n:=by
     have hlt:¬((i:Int)<(Ls[k].n:Int)):=hlt;omega
   subst hie;conv=>lhs;whnf
   exact(hD _).2 ⟨(⟨k+1,Ai⟩:FaG),⟨⟨hkl,hsub,hS.next hkl⟩,⟨av (k:=k) (by omega),trivial⟩,trivial,rfl⟩,by show Ls.length-(k+1)<Ls.length-k;omega,⟨an rfl rfl,trivial⟩,trivial⟩
 have hF:=hS.full (by
  have hlt:¬((k:Int)<(Ls.length:Int)):=hlt
  omega)
 clear hS hk hlt;conv=>lhs;whnf
 refine(hD _).2 ⟨Int.natCast_nonneg _,Int.le_refl _,by show(Ls.length:Int)≤9223372036854775807;omega,by show 24*Ls.length≤281474976710656;omega,rfl,fun gb A1 c1 hc1 hN1=> ?_⟩;have hN1:Ak.New A1 gb c1 28:=hN1
 have hc1:c1.toList=List.replicate Ls.length gX:=by
  rw [hc1];show(List.replicate Ls.length [gX]).flatten=_
  rw [List.flatten_replicate_singleton]
 have hG1:FlG C A1 4 97 mmM Ls gb 64 [] (List.replicate (Ls.length-0) gX):=FlG.start hsub hF hN1 hc1 (by simp);clear hF hsub hN1 hc1;conv=>lhs;whnf
 refine(hD _).2 ⟨fl3 C 4 97 mmM Ls gb,⟨(⟨A1, []⟩:FbG),hG1,⟨rfl,trivial⟩,trivial,rfl⟩,fun(s:FbG) hG=>⟨⟨trivial,trivial⟩,trivial,?_⟩⟩;clear hG1;obtain⟨A2,Ws⟩:=s;have hG:FlG C A2 4 97 mmM Ls gb 64 Ws (List.replicate (Ls.length-Ws.length) gX):=hG
 have hWl:Ws.length≤Ls.length:=by
  have:=hG.rl;omega
 conv=>lhs;whnf
 refine ab (fun hlt=> ?_) (fun hlt=> ?_)
 ·have hlt:(Ws.length:Int)<(Ls.length:Int):=hlt
  have hkl:Ws.length<Ls.length:=by omega
  obtain⟨g0,o,rfl,hr0⟩:=hrow Ws.length hkl;have k0:(0:Int)≤(Ws.length:Int)∧(Ws.length:Int)<(Ls.length:Int):=by omega
  have hFk:=hG.full Ws.length hkl;obtain⟨base,hbv,hbase⟩:=hFk.form;have hsm:=hD'.small Ws.length hkl
  have r1:A2.rd g0 (o+Ws.length*1) 1=some [.slice (aD base) Ls[Ws.length].n Ls[Ws.length].c]:=by
   rw [←hbv];exact aJ hG.sub hr0
  conv=>lhs;whnf
  repeat(first|refine aq k0 ?_|refine af r1 ?_|refine au hD rfl ?_
         conv=>lhs;whnf)
  refine(hD _).2 ⟨fl4 A2 4 97 (mmM Ws.length) Ls[Ws.length],⟨(⟨0,A2,Ls[Ws.length]⟩:FcG),⟨Nat.zero_le _,FlR.start hFk,fun _ h=>h⟩,⟨congrArg (fun x=>some (SV.v x)) hbv.symm,rfl,trivial⟩,trivial,rfl⟩,fun(s:FcG) hG'=>⟨⟨trivial,trivial,trivial⟩,trivial,?_⟩⟩;have hbv':=hbv;clear hbase;obtain⟨i,Ai,⟨wv,wn,wc,wg⟩⟩:=s;obtain⟨hi,hR,hdom⟩:i≤64∧FlR A2 Ai 4 97 (mmM Ws.length) Ls[Ws.length] ⟨wv,wn,wc,wg⟩ i (Ls[Ws.length].n+i)∧∀x,Ai.blk x=none→A2.blk x=none:=hG';have hwn:wn=Ls[Ws.length].n+i:=hR.wn;obtain⟨base2,cs2,hwv,hbase2,hcs2,hG2,hA2⟩:=hR.app;have hwv:wv= .slice (aD base2) wn wc:=hwv;subst hwv;have hsubi:C.Sub Ai:=fun x o hx=>hR.bk x o (hG.sub x o hx) fun h9=>by rw [hD'.c0 _ hkl x h9]at hx;cases hx
  conv=>lhs;whnf
  refine ab (fun hlt=> ?_) (fun hlt=> ?_)
  ·have hlt:(i:Int)<64:=hlt
   have hi64:i<64:=by omega
   have hw:IntKind.i64.wrap ((Ls[Ws.length].n:Int)+(i:Int))=((Ls[Ws.length].n+i:Nat):Int):=by
    rw [Sx.wrap_i64 (by omega) (by omega)];omega
   have hr9:=aJ hsubi hr0;rw [hbv']at hr9;conv=>lhs;whnf
   repeat(first|refine aq k0 ?_|refine af hr9 ?_|refine au hD rfl ?_
          conv=>lhs;whnf)
   refine(hD _).2 ⟨((Ws.length:Int),IntKind.i64.wrap ((Ls[Ws.length].n:Int)+(i:Int))),rfl,fun v A9 hq=> ?_⟩;obtain⟨h9,hv⟩:A9=Ai∧v=(mbV [.int .i64 (mkI (Ws.length:Int) (IntKind.i64.wrap ((Ls[Ws.length].n:Int)+(i:Int)))),.int .u8 0,.int .i64 0,.int .i64 0]):=hq;rw [hw]at hv;subst h9;subst hv
   conv=>lhs;whnf
   repeat(first|refine aq k0 ?_|refine af hr9 ?_|refine au hD rfl ?_
          conv=>lhs;whnf)
   refine(hD _).2 fun ge A8 hN8=> ?_
   have hN8:A9.New A8 ge (List.toArray (mmM Ws.length (Ls[Ws.length].n+i))) 97:=hN8;have hR8:=hR.more hN8.sub;obtain⟨base3,cs3,hwv3, -,hcs3,hG3,hA3⟩:=hR8.app;have hwv3:Value.slice (aD base2) wn wc= .slice (aD base3) wn wc:=hwv3
   have hb3:base2=base3:=by
    injection hwv3 with h1 _ _
    exact dJ h1
   subst hb3;have hPd:=hG3 1 32 (by omega) (by show wn+1≤1000000000;omega) (by omega);have hone:∀v∈mmM Ws.length (Ls[Ws.length].n+i),v.oneCell'=true:=mmM_one _ _
   have hrow9:A8.rd ge 0 (1*4)=some (mmM Ws.length (Ls[Ws.length].n+i)):=by
    have:=hN8.rd (o:=0) (n:=1*4) (by show 0+1*4≤4;omega);exact this
   have hdn:∀x,A8.blk x=none→A2.blk x=none:=fun x hx=>hdom x (by
    cases h:A9.blk x with
    |none=>rfl
    |some o'=>rw [hN8.sub x o' h]at hx;cases hx)
   rcases hbase2 with rfl|⟨gx,ox,rfl⟩<;>(conv=>lhs;whnf)
   all_goals
    refine(hD _).2 ⟨cs3,mmM Ws.length (Ls[Ws.length].n+i),hPd.rd,hrow9,rfl,hone,?_,hPd.cap,rfl,hPd.none_,fun g' o' he' hle' _=>hPd.room 4 rfl g' o' he' hle',fun v9 A7 hAp=> ?_⟩
    ·show wn+1≤9223372036854775807
     omega
    ·obtain⟨⟨w1,w2,w3,w4⟩,e1,hR7,hmk⟩:=hA3 1 _ v9 A7 rfl (by omega) hdn hAp
     have e1:w1=v9:=e1;subst e1;have hM7:=hmk 1 hwn.symm (by simp [mmM]) (Nat.le_refl _);have hR7':FlR A2 A7 4 97 (mmM Ws.length) Ls[Ws.length] ⟨w1,w2,w3,w4⟩ (i+1) (Ls[Ws.length].n+(i+1)):=⟨hR7.bk,hR7.old,hM7,hR7.wn,hR7.wg,hR7.wc⟩;conv=>lhs;whnf
     exact(hD _).2 ⟨(⟨i+1,A7,⟨w1,w2,w3,w4⟩⟩:FcG),⟨⟨hi64,hR7',fun x hx=>hdn x (oD hAp hx)⟩,⟨rfl,av (k:=i) (by omega),trivial⟩,trivial,rfl⟩,by show 64-(i+1)<64-i;omega,⟨an rfl rfl,an rfl rfl,an rfl rfl,trivial⟩,trivial⟩
  ·have hie:i=64:=by
     have hlt:¬((i:Int)<64):=hlt;omega
   subst hie
   have k1:(0:Int)≤(Ws.length:Int)∧(Ws.length:Int)<(((Ls.length:Int).toNat:Nat):Int):=by
    rw [Int.toNat_natCast];exact k0
   obtain⟨d,hd⟩:∃d,Ls.length-Ws.length=d+1:=⟨Ls.length-Ws.length-1,by omega⟩;rw [hd,List.replicate_succ]at hG;have hgs:aG Ai gb (Ws.map LsD.v++gX::List.replicate d gX):=hG.gs.sub fun o ho=>hR.bk gb o ho (hG.gbL _ hkl)
   have hroom:Ai.Room gb (0+Ws.length*1) 1:=hgs.room (by rw [List.length_append,List.length_map,List.length_cons];omega);conv=>lhs;whnf
   repeat(first|refine aq k1 ?_|refine au hD rfl ?_
          conv=>lhs;whnf)
   refine(hD _).2 ⟨hroom,fun A6 hPut=> ?_⟩;have hG6:=hG.next hD' hkl hR hPut
   have hd2:d=Ls.length-(Ws++ [(⟨.slice (aD base2) wn wc,wn,wc,wg⟩:LsD)]).length:=by
    rw [List.length_append,List.length_singleton];omega
   rw [hd2]at hG6;conv=>lhs;whnf
   exact(hD _).2 ⟨(⟨A6,Ws++ [(⟨.slice (aD base2) wn wc,wn,wc,wg⟩:LsD)]⟩:FbG),⟨hG6,⟨(av (k:=Ws.length) (by omega)).trans (by rw [List.length_append,List.length_singleton]),trivial⟩,trivial,rfl⟩,by show Ls.length-(Ws++ [(⟨.slice (aD base2) wn wc,wn,wc,wg⟩:LsD)]).length<Ls.length-Ws.length;rw [List.length_append,List.length_singleton];omega,⟨an rfl rfl,an rfl rfl,trivial⟩,trivial⟩
 have hWe:Ws.length=Ls.length:=by
  have hlt:¬((Ws.length:Int)<(Ls.length:Int)):=hlt;omega
 rw [hWe,Nat.sub_self,List.replicate_zero]at hG;clear hlt hWl;conv=>lhs;whnf
 refine(hD _).2 ⟨fl5 A2 Ls.length,⟨(0:Nat),Nat.zero_le _,⟨rfl,trivial⟩,trivial,rfl⟩,fun(k:Nat) hk=>⟨⟨trivial,trivial⟩,trivial,?_⟩⟩;have hk:k≤Ls.length:=hk;conv=>lhs;whnf
 refine ab (fun hlt=> ?_) (fun hlt=> ?_)
 ·have hlt:(k:Int)<(Ls.length:Int):=hlt
  have hkl:k<Ls.length:=by omega
  obtain⟨g0,o,rfl,hr0⟩:=hrow k hkl;have k0:(0:Int)≤(k:Int)∧(k:Int)<(Ls.length:Int):=by omega
  have k1:(0:Int)≤(k:Int)∧(k:Int)<(((Ls.length:Int).toNat:Nat):Int):=by
   rw [Int.toNat_natCast];exact k0
  have hsm:=hD'.small k hkl;obtain⟨hw1,hw2⟩:=hG.ws k (by omega) hkl;obtain⟨gw,hwv,hwr⟩:=hw1.reads (nT k) (by omega);obtain⟨base,gl,hbv,hbo,hlr⟩:=(hG.full k hkl).both (nT k)
  have rls:A2.rd g0 (o+k*1) 1=some [.slice (aD base) Ls[k].n Ls[k].c]:=by
   rw [←hbv];exact aJ hG.sub hr0
  have rgs:A2.rd gb (0+k*1) 1=some [.slice (some ⟨gw,0,none⟩) (Ls[k].n+64) (Ws[k]'(by omega)).c]:=by
   rw [←hw2,←hwv];have h9:=hG.gs.rd (o:=0+k*1) (n:=1) (by rw [List.length_append,List.length_map];omega);rw [h9,List.append_nil,Nat.zero_add,Nat.mul_one,←List.map_drop,←List.map_take,List.drop_eq_getElem_cons (by omega)];rfl
  conv=>lhs;whnf
  refine(hD _).2 ⟨fl6 A2 (Ls[k].n+64),⟨(0:Nat),Nat.zero_le _,⟨rfl,trivial⟩,trivial,rfl⟩,fun(i:Nat) hi=>⟨⟨trivial,trivial⟩,trivial,?_⟩⟩;have hi:i≤Ls[k].n+64:=hi;conv=>lhs;whnf
  repeat(first|refine aq k1 ?_|refine af rgs ?_|refine au hD rfl ?_
         conv=>lhs;whnf)
  refine ab (fun hlt=> ?_) (fun hlt=> ?_)
  ·have hlt:(i:Int)<((Ls[k].n+64:Nat):Int):=hlt
   have hil:i<Ls[k].n+64:=by omega
   have i0:(0:Int)≤(i:Int)∧(i:Int)<((Ls[k].n+64:Nat):Int):=by omega
   have rw9:A2.rd gw (0+i*4) 4=some [.int .i64 (mkI (k:Int) (i:Int)),.int .u8 0,.int .i64 0,.int .i64 0]:=hwr i hil;conv=>lhs;whnf
   repeat(first|refine aq k1 ?_|refine aq i0 ?_|refine af rgs ?_|refine af rw9 ?_|refine au hD rfl ?_
          conv=>lhs;whnf)
   refine(hD _).2 ⟨((k:Int),(i:Int)),rfl,fun v A9 hq=> ?_⟩;obtain⟨h9,hv⟩:A9=A2∧v=(mbV [.int .i64 (mkI (k:Int) (i:Int)),.int .u8 0,.int .i64 0,.int .i64 0]):=hq;subst h9;subst hv
   conv=>lhs;whnf
   repeat(first|refine aq k1 ?_|refine aq i0 ?_|refine af rgs ?_|refine af rw9 ?_|refine au hD rfl ?_
          conv=>lhs;whnf)
   refine au hD (by kernel_rfl) ?_;conv=>lhs;whnf
   refine aQ (fun hb=>absurd hb (by simp)) (fun _=> ?_);conv=>lhs;whnf
   repeat(first|refine aq k0 ?_|refine af rls ?_|refine au hD rfl ?_
          conv=>lhs;whnf)
   refine ab (fun hln=> ?_) (fun hln=> ?_)
   ·have hln:(i:Int)<(Ls[k].n:Int):=hln
    have hb:=hbo (by omega);have i2:(0:Int)≤(i:Int)∧(i:Int)<(Ls[k].n:Int):=by omega
    have rl9:A9.rd gl (0+i*4) 4=some [.int .i64 (mkI (k:Int) (i:Int)),.int .u8 0,.int .i64 0,.int .i64 0]:=hlr i (by omega)
    have rls2:A9.rd g0 (o+k*1) 1=some [.slice (some ⟨gl,0,none⟩) Ls[k].n Ls[k].c]:=by
     rw [←hb];exact rls
    conv=>lhs;whnf
    repeat(first|refine aq k0 ?_|refine aq i2 ?_|refine af rls2 ?_|refine af rl9 ?_|refine au hD rfl ?_
           conv=>lhs;whnf)
    refine(hD _).2 ⟨((k:Int),(i:Int)),rfl,fun v A7 hq=> ?_⟩;obtain⟨h9,hv⟩:A7=A9∧v=(mbV [.int .i64 (mkI (k:Int) (i:Int)),.int .u8 0,.int .i64 0,.int .i64 0]):=hq;subst h9;subst hv
    conv=>lhs;whnf
    repeat(first|refine aq k0 ?_|refine aq i2 ?_|refine af rls2 ?_|refine af rl9 ?_|refine au hD rfl ?_
           conv=>lhs;whnf)
    refine au hD (by kernel_rfl) ?_;conv=>lhs;whnf
    refine aQ (fun hb=>absurd hb (by simp)) (fun _=> ?_);conv=>lhs;whnf
    exact(hD _).2 ⟨(i+1:Nat),⟨hil,⟨av (k:=i) (by omega),trivial⟩,trivial,rfl⟩,by show Ls[k].n+64-(i+1)<Ls[k].n+64-i;omega,⟨an rfl rfl,an rfl rfl,an rfl rfl,trivial⟩,trivial⟩
   ·conv=>lhs;whnf
    exact(hD _).2 ⟨(i+1:Nat),⟨hil,⟨av (k:=i) (by omega),trivial⟩,trivial,rfl⟩,by show Ls[k].n+64-(i+1)<Ls[k].n+64-i;omega,⟨an rfl rfl,an rfl rfl,an rfl rfl,trivial⟩,trivial⟩
  ·conv=>lhs;whnf
   exact(hD _).2 ⟨(k+1:Nat),⟨hkl,⟨av (k:=k) (by omega),trivial⟩,trivial,rfl⟩,by show Ls.length-(k+1)<Ls.length-k;omega,⟨an rfl rfl,an rfl rfl,trivial⟩,trivial⟩
 clear hlt hk;have hG4:=hG.again (q':=0)
 have hWn:∀j (h:j<Ws.length),0<Ws[j].n:=fun j h=>by
  have:=(hG.ws j h (by omega)).2;omega
 clear hG;conv=>lhs;whnf
 refine(hD _).2 ⟨fl7 C 4 97 mmM Ls Ws gb,⟨(⟨A2, []⟩:FbG),hG4,⟨rfl,trivial⟩,trivial,rfl⟩,fun(s:FbG) hG=>⟨⟨trivial,trivial⟩,trivial,?_⟩⟩;clear hG4;obtain⟨A3,Vs⟩:=s;have hG:FlG C A3 4 97 mmM Ls gb 0 Vs ((Ws.drop Vs.length).map LsD.v):=hG
 have hVl:Vs.length≤Ls.length:=by
  have:=hG.rl;omega
 conv=>lhs;whnf
 refine ab (fun hlt=> ?_) (fun hlt=> ?_)
 ·have hlt:(Vs.length:Int)<(Ls.length:Int):=hlt
  have hkl:Vs.length<Ls.length:=by omega
  obtain⟨g0,o,rfl,hr0⟩:=hrow Vs.length hkl;have k0:(0:Int)≤(Vs.length:Int)∧(Vs.length:Int)<(Ls.length:Int):=by omega
  have k1:(0:Int)≤(Vs.length:Int)∧(Vs.length:Int)<(((Ls.length:Int).toNat:Nat):Int):=by
   rw [Int.toNat_natCast];exact k0
  have hFk:=hG.full Vs.length hkl;have hsm:=hD'.small Vs.length hkl;conv=>lhs;whnf
  refine(hD _).2 ⟨by omega,Int.le_refl _,by omega,by show 32*64≤281474976710656;omega,rfl,fun mb A4 c4 hc4 hN4=> ?_⟩;have hN4:A3.New A4 mb c4 97:=hN4;have hc4:c4.toList=(List.replicate 64 [Value.int .i64 0,.int .u8 0,.int .i64 0,.int .i64 0]).flatten:=hc4
  have hmb:C.blk mb=none:=by
   cases h:C.blk mb with
   |none=>rfl
   |some o'=>
    have:=hN4.none_;rw [hG.sub mb o' h]at this
    cases this
  have hcm:aG A4 mb (List.replicate 64 [Value.int .i64 0,.int .u8 0,.int .i64 0,.int .i64 0]).flatten:=by
   rw [←hc4];exact aG.new hN4
  conv=>lhs;whnf
  refine(hD _).2 ⟨fl8 A3 4 mb,⟨(⟨0,A4⟩:FaG),⟨Nat.zero_le _,hN4.sub,_,hcm,rfl,fun v hv=>by
   obtain⟨r,hr,hv⟩:=List.mem_flatten.1 hv;rw [List.eq_of_mem_replicate hr]at hv;simp only [List.mem_cons,List.not_mem_nil,or_false]at hv
   rcases hv with rfl|rfl|rfl|rfl<;>rfl⟩,⟨rfl,trivial⟩,trivial,rfl⟩,fun(s:FaG) hG'=>⟨⟨trivial,trivial⟩,trivial,?_⟩⟩
  obtain⟨i,A5⟩:=s;obtain⟨hi,hs5,cm,hcm5,hml,hmo⟩:i≤64∧A3.Sub A5∧∃cs,aG A5 mb cs∧cs.length=64*4∧∀v∈cs,v.oneCell'=true:=hG';have hR5:=(FlR.start hFk).more hs5;obtain⟨base3,cs3,hwv3,hbase3,hcs3,hG3,hA3⟩:=hR5.app;have hsub5:C.Sub A5:=hG.sub.trans hs5
  have rls:A5.rd g0 (o+Vs.length*1) 1=some [.slice (aD base3) Ls[Vs.length].n Ls[Vs.length].c]:=by
   rw [←hwv3];exact aJ hsub5 hr0
  have hPd:=hG3 64 32 (by omega) (by show Ls[Vs.length].n+64≤1000000000;omega) (by omega)
  have hrm:A5.rd mb 0 (64*4)=some cm:=by
   have h9:=hcm5.rd (o:=0) (n:=64*4) (by omega);rw [h9,List.drop_zero,List.take_of_length_le (by omega)]
  have hgs:aG A5 gb (Vs.map LsD.v++(Ws.drop Vs.length).map LsD.v):=hG.gs.sub fun o' ho=>hs5 _ _ ho
  have hdn5:∀x,A5.blk x=none→A3.blk x=none:=fun x hx=>by
   cases h:A3.blk x with
   |none=>rfl
   |some o'=>rw [hs5 x o' h]at hx;cases hx
  conv=>lhs;whnf
  refine ab (fun hlt=> ?_) (fun hlt=> ?_)
  ·have hlt:(i:Int)<64:=hlt
   have hi64:i<64:=by omega
   have i0:(0:Int)≤(i:Int)∧(i:Int)<64:=by omega
   have hroom:A5.Room mb (0+i*4) 4:=hcm5.room (by omega);conv=>lhs;whnf
   repeat(first|refine aq i0 ?_|refine au hD rfl ?_
          conv=>lhs;whnf)
   refine(hD _).2 ⟨(IntKind.i64.wrap ((Vs.length:Int)+(Ls.length:Int)),(i:Int)),rfl,fun v A9 hq=> ?_⟩;obtain⟨h9,hv⟩:A9=A5∧v=(mbV [.int .i64 (mkI (IntKind.i64.wrap ((Vs.length:Int)+(Ls.length:Int))) (i:Int)),.int .u8 0,.int .i64 0,.int .i64 0]):=hq;subst h9;subst hv
   conv=>lhs;whnf
   repeat(first|refine aq i0 ?_|refine au hD rfl ?_
          conv=>lhs;whnf)
   refine(hD _).2 ⟨hroom,fun A6 hPut=> ?_⟩;have hPut:A9.Put A6 mb (0+i*4) [.int .i64 (mkI (IntKind.i64.wrap ((Vs.length:Int)+(Ls.length:Int))) (i:Int)),.int .u8 0,.int .i64 0,.int .i64 0]:=hPut;have hc6:=hcm5.put hPut (by show 0+i*4+4≤cm.length;omega);conv=>lhs;whnf
   exact(hD _).2 ⟨(⟨i+1,A6⟩:FaG),⟨⟨hi64,fun x o' hx=>by
    rw [hPut.other x fun e=>(by rw [e,hN4.none_]at hx;cases hx)];exact hs5 x o' hx,_,hc6,by
    simp only [List.length_append,List.length_take,List.length_drop,List.length_cons,List.length_nil];omega,fun v hv=>by
    rcases List.mem_append.1 hv with hv|hv
    ·rcases List.mem_append.1 hv with hv|hv
     ·exact hmo v (List.mem_of_mem_take hv)
     ·simp only [List.mem_cons,List.not_mem_nil,or_false]at hv
      rcases hv with rfl|rfl|rfl|rfl<;>rfl
    ·exact hmo v (List.mem_of_mem_drop hv)⟩,⟨av (k:=i) (by omega),trivial⟩,trivial,rfl⟩,by show 64-(i+1)<64-i;omega,⟨an rfl rfl,an rfl rfl,an rfl rfl,an rfl rfl,trivial⟩,trivial⟩
  ·clear hlt
   rcases hbase3 with rfl|⟨gx,ox,rfl⟩<;>(conv=>lhs;whnf)
   all_goals
    repeat(first|refine aq k0 ?_|refine aq k1 ?_|refine af rls ?_|refine au hD rfl ?_
           conv=>lhs;whnf)
    refine(hD _).2 ⟨cs3,cm,hPd.rd,?_,hml,hmo,?_,hPd.cap,rfl,hPd.none_,fun g' o' he' hle' _=>hPd.room cm.length hml g' o' he' hle',fun v9 A7 hAp=> ?_⟩
    ·show(if 64*4=0 then some []else A5.rd mb 0 (64*4))=_
     rw [if_neg (by omega)];exact hrm
    ·show Ls[Vs.length].n+64≤9223372036854775807
     omega
    ·obtain⟨W',e1,hR7, -⟩:=hA3 64 cm v9 A7 hml (by omega) hdn5 hAp
     obtain⟨b9,hb9, -⟩:=hR7.w.form;rw [e1]at hb9;subst hb9;have hR7':FlR A3 A7 4 97 (mmM Vs.length) Ls[Vs.length] W' 64 (Ls[Vs.length].n+0):=hR7;have hdr:Ws.drop Vs.length=Ws[Vs.length]'(by omega)::Ws.drop (Vs.length+1):=List.drop_eq_getElem_cons (by omega);rw [hdr,List.map_cons]at hG;have hg7:aG A7 gb (Vs.map LsD.v++((Ws[Vs.length]'(by omega)).v::(Ws.drop (Vs.length+1)).map LsD.v)):=hG.gs.sub fun o' ho=>hR7.bk gb o' ho (hG.gbL _ hkl)
     have hroom:A7.Room gb (0+Vs.length*1) 1:=hg7.room (by rw [List.length_append,List.length_map,List.length_cons];omega);conv=>lhs;whnf
     repeat(first|refine aq k0 ?_|refine aq k1 ?_|refine au hD rfl ?_
            conv=>lhs;whnf)
     refine(hD _).2 ⟨hroom,fun A6 hPut=> ?_⟩;have hPut:A7.Put A6 gb (0+Vs.length*1) [.slice (aD b9) W'.n W'.c]:=hPut;rw [←e1]at hPut;have hG6:=hG.next hD' hkl hR7' hPut;have hl9:Vs.length+1=(Vs++ [W']).length:=by rw [List.length_append,List.length_singleton]
     rw [hl9]at hG6;conv=>lhs;whnf
     exact(hD _).2 ⟨(⟨A6,Vs++ [W']⟩:FbG),⟨hG6,⟨(av (k:=Vs.length) (by omega)).trans (by rw [hl9]),trivial⟩,trivial,rfl⟩,by show Ls.length-(Vs++ [W']).length<Ls.length-Vs.length;rw [List.length_append,List.length_singleton];omega,⟨an rfl rfl,an rfl rfl,trivial⟩,trivial⟩
 have hVe:Vs.length=Ls.length:=by
  have hlt:¬((Vs.length:Int)<(Ls.length:Int)):=hlt;omega
 have hdr:Ws.drop Vs.length= []:=List.drop_of_length_le (by omega);rw [hdr,List.map_nil]at hG;clear hlt hVl;conv=>lhs;whnf
 refine(hD _).2 ⟨fl9 A3 Ls.length,⟨(0:Nat),Nat.zero_le _,⟨rfl,trivial⟩,trivial,rfl⟩,fun(k:Nat) hk=>⟨⟨trivial,trivial⟩,trivial,?_⟩⟩;have hk:k≤Ls.length:=hk;have hend:(kH 4 97).post (C,Ls) [] A (.bool true) A3:=⟨hG.sub,rfl⟩;conv=>lhs;whnf
 refine ab (fun hlt=> ?_) (fun hlt=> ?_)
 ·have hlt:(k:Int)<(Ls.length:Int):=hlt
  have hkl:k<Ls.length:=by omega
  obtain⟨g0,o,rfl,hr0⟩:=hrow k hkl;have k0:(0:Int)≤(k:Int)∧(k:Int)<(Ls.length:Int):=by omega
  have k1:(0:Int)≤(k:Int)∧(k:Int)<(((Ls.length:Int).toNat:Nat):Int):=by
   rw [Int.toNat_natCast];exact k0
  have hsm:=hD'.small k hkl;obtain⟨hw1,hw2⟩:=hG.ws k (by omega) hkl;obtain⟨bw,gw,hwv,hwb,hwr⟩:=hw1.both (nT k);obtain⟨base,gl,hbv,hbo,hlr⟩:=(hG.full k hkl).both (nT k)
  have rls:A3.rd g0 (o+k*1) 1=some [.slice (aD base) Ls[k].n Ls[k].c]:=by
   rw [←hbv];exact aJ hG.sub hr0
  have rgs:A3.rd gb (0+k*1) 1=some [.slice (aD bw) (Ls[k].n+64) (Vs[k]'(by omega)).c]:=by
   rw [←hw2,←hwv];have h9:=hG.gs.rd (o:=0+k*1) (n:=1) (by rw [List.length_append,List.length_map];omega);rw [h9,List.append_nil,Nat.zero_add,Nat.mul_one,←List.map_drop,←List.map_take,List.drop_eq_getElem_cons (by omega)];rfl
  conv=>lhs;whnf
  refine(hD _).2 ⟨fl10 A3 Ls[k].n,⟨(0:Nat),Nat.zero_le _,⟨rfl,trivial⟩,trivial,rfl⟩,fun(i:Nat) hi=>⟨⟨trivial,trivial⟩,trivial,?_⟩⟩;have hi:i≤Ls[k].n:=hi;conv=>lhs;whnf
  repeat(first|refine aq k0 ?_|refine af rls ?_|refine au hD rfl ?_
         conv=>lhs;whnf)
  refine ab (fun hlt=> ?_) (fun hlt=> ?_)
  ·have hlt:(i:Int)<(Ls[k].n:Int):=hlt
   have hil:i<Ls[k].n:=by omega
   have i0:(0:Int)≤(i:Int)∧(i:Int)<(Ls[k].n:Int):=by omega
   have i1:(0:Int)≤(i:Int)∧(i:Int)<((Ls[k].n+64:Nat):Int):=by omega
   have rw9:A3.rd gw (0+i*4) 4=some [.int .i64 (mkI (k:Int) (i:Int)),.int .u8 0,.int .i64 0,.int .i64 0]:=hwr i hil;have rl9:A3.rd gl (0+i*4) 4=some [.int .i64 (mkI (k:Int) (i:Int)),.int .u8 0,.int .i64 0,.int .i64 0]:=hlr i hil
   have rls2:A3.rd g0 (o+k*1) 1=some [.slice (some ⟨gl,0,none⟩) Ls[k].n Ls[k].c]:=by
    rw [←hbo (by omega)];exact rls
   have rgs2:A3.rd gb (0+k*1) 1=some [.slice (some ⟨gw,0,none⟩) (Ls[k].n+64) (Vs[k]'(by omega)).c]:=by
    rw [←hwb (by omega)];exact rgs
   conv=>lhs;whnf
   repeat(first|refine aq k0 ?_|refine aq i0 ?_|refine af rls2 ?_|refine af rl9 ?_|refine au hD rfl ?_
          conv=>lhs;whnf)
   refine(hD _).2 ⟨((k:Int),(i:Int)),rfl,fun v A9 hq=> ?_⟩;obtain⟨h9,hv⟩:A9=A3∧v=(mbV [.int .i64 (mkI (k:Int) (i:Int)),.int .u8 0,.int .i64 0,.int .i64 0]):=hq;subst h9;subst hv
   conv=>lhs;whnf
   repeat(first|refine aq k0 ?_|refine aq i0 ?_|refine af rls2 ?_|refine af rl9 ?_|refine au hD rfl ?_
          conv=>lhs;whnf)
   refine au hD (by kernel_rfl) ?_;conv=>lhs;whnf
   refine aQ (fun hb=>absurd hb (by simp)) (fun _=> ?_);conv=>lhs;whnf
   repeat(first|refine aq k1 ?_|refine aq i1 ?_|refine af rgs2 ?_|refine af rw9 ?_|refine au hD rfl ?_
          conv=>lhs;whnf)
   refine(hD _).2 ⟨((k:Int),(i:Int)),rfl,fun v A7 hq=> ?_⟩;obtain⟨h9,hv⟩:A7=A9∧v=(mbV [.int .i64 (mkI (k:Int) (i:Int)),.int .u8 0,.int .i64 0,.int .i64 0]):=hq;subst h9;subst hv
   conv=>lhs;whnf
   repeat(first|refine aq k1 ?_|refine aq i1 ?_|refine af rgs2 ?_|refine af rw9 ?_|refine au hD rfl ?_
          conv=>lhs;whnf)
   refine au hD (by kernel_rfl) ?_;conv=>lhs;whnf
   refine aQ (fun hb=>absurd hb (by simp)) (fun _=> ?_);conv=>lhs;whnf
   exact(hD _).2 ⟨(i+1:Nat),⟨hil,⟨av (k:=i) (by omega),trivial⟩,trivial,rfl⟩,by show Ls[k].n-(i+1)<Ls[k].n-i;omega,⟨an rfl rfl,an rfl rfl,an rfl rfl,trivial⟩,trivial⟩
  ·conv=>lhs;whnf
   exact(hD _).2 ⟨(k+1:Nat),⟨hkl,⟨av (k:=k) (by omega),trivial⟩,trivial,rfl⟩,by show Ls.length-(k+1)<Ls.length-k;omega,⟨an rfl rfl,an rfl rfl,trivial⟩,trivial⟩
 conv=>lhs;whnf
 exact(hD _).2 hend
end
end Go.Proofs.YtphigpccfbfnoaaGreatDoor
