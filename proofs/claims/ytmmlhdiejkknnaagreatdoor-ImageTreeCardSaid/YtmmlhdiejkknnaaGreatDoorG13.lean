/-
  Parts of the proof: IbB IbC IbD IsP IrS IuP IhP IxC IxD IxE IxF ItP IhS IrB IrA IrC IrFa
-/
import Derived.Test.YtmmlhdiejkknnaaGreatDoorG12
import Derived.Test.YtmmlhdiejkknnaaGreatDoorG06
import Derived.Test.YtmmlhdiejkknnaaGreatDoorG11
set_option maxRecDepth 100000
set_option maxHeartbeats 0
namespace Go.Proofs.YtmmlhdiejkknnaaGreatDoor
open Go.Sx Go.RowKit
noncomputable section
open Classical
theorem ee.refill{A A':aa}{g:Nat}{e:TypeId}{m c n:Nat}{cs zs ys:List Value}(h:ee A g 1 e (m+n) c (cs++zs))(hc:cs.length=m)(hz:zs.length=n)(hy:ys.length=n)(hP:A.Put A' g m ys):ee A' g 1 e (m+n) c (cs++ys):=by
 obtain⟨⟨cc,h1,h2,h3⟩,h4,h5⟩:=h;obtain⟨c0,t0,fz0,c',k1,k2,k3⟩:=hP.at_;rw [h1]at k1;injection k1 with k1
 injection k1 with k1 k1' k1''
 subst k1;subst k1';subst k1''
 have hcl:cc.toList.length=c:=by rw [Array.length_toList];omega
 have hm:cc.toList.take m=cs:=by
  have h9:=congrArg (List.take m) h3;rw [List.take_take,Nat.min_eq_left (by omega),List.take_append_of_le_length (by omega),List.take_of_length_le (l:=cs) (by omega)]at h9;exact h9
 refine⟨⟨c',k2,?_,?_⟩,h4,by rw [List.length_append];omega⟩
 ·rw [←Array.length_toList,k3]
  simp only [List.length_append,List.length_take,List.length_drop,hcl,hy];omega
 ·rw [k3,hm,Nat.mul_one,List.take_append_of_le_length (by rw [List.length_append];omega),List.take_of_length_le (by rw [List.length_append];omega)]
theorem gE{A A1 A2:aa}{w n k c:Nat}{L:LsD}{l ys:List UInt8}{zs:List Value}{lr:Int}(ht:aE A1 w [.slice (some ⟨k,0,none⟩) (l.length+n) c,.int .i64 0,.int .i8 lr])(hr:ee A1 k 1 5 (l.length+n) c (l.map bv++zs))(hz:zs.length=n)(hc0:0<c)(hcm:c≤9223372036854775807)(hkw:k≠w)
  (hg:L.g=some k∨A.blk k=none) (hk:∀k' o,A.blk k'=some o→k'≠w→L.g≠some k'→A1.blk k'=some o) (hP:A1.Put A2 k l.length (ys.map bv)) (hy:ys.length=n):fk A w L (l++ys) A2:=by
 have hrow:=hr.refill (by rw [List.length_map]) hz (by rw [List.length_map];exact hy) hP;refine⟨⟨.slice (some ⟨k,0,none⟩) (l.length+n) c,l.length+n,c,some k⟩,⟨⟨lr,ht.sub fun o ho=>by rw [hP.other w hkw.symm];exact ho⟩,.inr ⟨k,rfl,rfl,hc0,?_⟩,fun e=>hkw (Option.some.inj e),fun e=>(by cases e),hcm⟩,fun k' o hk' hw hL=> ?_,fun g hg'=> ?_⟩
 ·rw [List.map_append]
  exact hrow
 ·rw [hP.other k' fun e=> ?_]
  ·exact hk k' o hk' hw hL
  ·subst e
   rcases hg with h|h
   ·exact hL h
   ·rw [h]at hk';cases hk'
 ·have hg':some k=some g:=hg'
  injection hg' with hg'
  subst hg';exact hg
theorem BfR.put2{A A1:aa}{w:Nat}{L:LsD}{l:List UInt8}{x:Int}(h:BfR A w L l)(hP:A.Put A1 w 2 [.int .i8 x]):BfR A1 w L l:=by
 obtain⟨lr,ht⟩:=h.top;refine⟨⟨x,ht.put hP (by show 2+1≤3;omega)⟩,h.row.ck fun g o hg ho=> ?_,h.ne,h.nil,h.cap⟩;rw [hP.other g fun e=>h.ne (by rw [←e];exact hg)];exact ho
theorem fk.ahead{A A1 A2:aa}{w:Nat}{L:LsD}{l:List UInt8}{o:Nat}{vs:List Value}(hP:A.Put A1 w o vs)(h:fk A1 w L l A2):fk A w L l A2:=by
 obtain⟨L',h1,h2,h3⟩:=h;refine⟨L',h1,fun k ob hk hw hL=>h2 k ob (by rw [hP.other k hw];exact hk) hw hL,fun g hg=> ?_⟩;rcases h3 g hg with h|h
 ·exact .inl h
 ·by_cases e:g=w
  ·exact absurd (e▸hg) h1.ne
  ·rw [hP.other g e]at h
   exact .inr h
structure BbG where
 w:Nat
 L:LsD
 l:List UInt8
 b:UInt8
def lp:aY:=⟨BbG,fun g vs A=>vs= [.pointer (some ⟨g.w,0,none⟩),.int .u8 g.b.toNat]∧BfR A g.w g.L g.l∧g.l.length≤890000000,fun g _ A v A'=>v= .nilIface∧fk A g.w g.L (g.l++ [g.b]) A'⟩
theorem sR:FOk Tryz.prog 125 lp:=by
 refine bG mixed fun⟨w,L,l,b⟩ vs A hp=> ?_
 obtain⟨rfl,hW,hlen⟩:vs= [.pointer (some ⟨w,0,none⟩),.int .u8 b.toNat]∧BfR A w L l∧l.length≤890000000:=hp
 have hC:aI Tryz.prog (bQ [aM 201 jE] noC):=aD (aA _) (fun x hx=>by
  simp only [List.mem_singleton]at hx;subst hx
  exact au oa)
 refine⟨_,noL,60,hC,az _,fun blk os out tape D hD=> ?_⟩;have hL:=hW.len;have hcp:=hW.cap;obtain⟨lr,htop⟩:=hW.top;have hroom:A.Room w 2 1:=htop.room (by show 2+1≤3;omega);conv=>lhs;whnf
 repeat(first|refine aj hD rfl ?_
        conv=>lhs;whnf)
 refine(hD _).2 ⟨hroom,fun A1 hP1=> ?_⟩;have hP1:A.Put A1 w 2 [.int .i8 0]:=hP1;have hW1:=hW.put2 hP1;have ht1:aE A1 w [L.v,.int .i64 0,.int .i8 0]:=htop.put hP1 (by show 2+1≤3;omega);have hrow:=hW.row;rcases hrow with⟨k1,k2,k3,k4, -⟩|⟨g,k1,k2,k3,k5⟩
 ·rw [hW.nil k1]at ht1
  have r1:A1.rd w 0 1=some [.slice none 0 0]:=ht1.rd (o:=0) (n:=1) (by show 0+1≤3;omega);conv=>lhs;whnf
  repeat(first|refine ai r1 ?_|refine aj hD rfl ?_
         conv=>lhs;whnf)
  refine(hD _).2 ⟨(⟨w,L,l,1⟩:BfG),⟨rfl,hW1,Nat.le_refl _,by show l.length+1≤900000000;omega,by show L.c<l.length+1;omega⟩,fun v A2 hq=> ?_⟩;obtain⟨hv,kb,c,zs,⟨lr2,ht2⟩,hr2,hz,hc0,hcm,hkw,hg,hk2⟩:v= .int .i64 l.length∧mb A1 w L l 1 A2:=hq;subst hv;have r2:A2.rd w 0 1=some [.slice (some ⟨kb,0,none⟩) (l.length+1) c]:=ht2.rd (o:=0) (n:=1) (by show 0+1≤3;omega);have i0:(0:Int)≤(l.length:Int)∧(l.length:Int)<((l.length+1:Nat):Int):=by omega
  conv=>lhs;whnf
  repeat(first|refine cO i0 ?_|refine ai r2 ?_|refine aj hD rfl ?_
         conv=>lhs;whnf)
  refine(hD _).2 ⟨hr2.room (by show 0+l.length*1+1≤c*1;have:=hr2.le;omega),fun A3 hP3=> ?_⟩;have hP3:A2.Put A3 kb (0+l.length*1) [.int .u8 b.toNat]:=hP3;rw [Nat.mul_one,Nat.zero_add]at hP3;have hfin:=(gE (ys:= [b]) ht2 hr2 hz hc0 hcm hkw hg hk2 hP3 rfl).ahead hP1;have hend:lp.post ⟨w,L,l,b⟩ [] A .nilIface A3:=⟨rfl,hfin⟩;conv=>lhs;whnf
  repeat(first|refine aj hD rfl ?_
         conv=>lhs;whnf)
  exact(hD _).2 hend
 ·rw [k2]at ht1
  have r1:A1.rd w 0 1=some [.slice (some ⟨g,0,none⟩) L.n L.c]:=ht1.rd (o:=0) (n:=1) (by show 0+1≤3;omega);conv=>lhs;whnf
  repeat(first|refine ai r1 ?_|refine aj hD rfl ?_
         conv=>lhs;whnf)
  have e1:IntKind.i64.wrap ((L.c:Int)-(L.n:Int))=(L.c:Int)-(L.n:Int):=i64_in (by omega) (by omega);refine af (fun h1=> ?_) (fun h1=> ?_)
  ·rw [e1]at h1
   conv=>lhs;whnf
   repeat(first|refine ai r1 ?_|refine aj hD rfl ?_
          conv=>lhs;whnf)
   have hle:L.n+1≤L.c:=by omega
   have e6:IntKind.i64.wrap ((L.n:Int)+1)=((L.n+1:Nat):Int):=by
    rw [i64_in (by omega) (by omega)];omega
   refine gB (gX e6 hle) ?_;conv=>lhs;whnf
   repeat(first|refine ai r1 ?_|refine aj hD rfl ?_
          conv=>lhs;whnf)
   refine(hD _).2 ⟨ht1.room (by show 0+1≤3;omega),fun A2 hP2=> ?_⟩;have hP2:A1.Put A2 w 0 [.slice (some ⟨g,0+(bif L.c.beq (Int.toNat 0)then 0 else Int.toNat 0*1),none⟩) ((IntKind.i64.wrap ((L.n:Int)+1)).toNat-Int.toNat 0) (L.c-Int.toNat 0)]:=hP2;have e8:(bif L.c.beq (Int.toNat 0)then 0 else Int.toNat 0*1)=0:=by cases L.c.beq (Int.toNat 0)<;>rfl
   rw [e6,e8]at hP2;have hP2:A1.Put A2 w 0 [.slice (some ⟨g,0,none⟩) (L.n+1) L.c]:=hP2;have ht2:aE A2 w [.slice (some ⟨g,0,none⟩) (L.n+1) L.c,.int .i64 0,.int .i8 0]:=ht1.put hP2 (by show 0+1≤3;omega);have hgw:g≠w:=fun e=>hW.ne (by rw [k1,e])
   have hr1:ee A2 g 1 5 L.n L.c (l.map bv):=k5.ck (by rw [hP2.other g hgw,hP1.other g hgw]);have hwide:=hr1.wide hle;obtain⟨zs,hz,hr2⟩:=hwide;have r2:A2.rd w 0 1=some [.slice (some ⟨g,0,none⟩) (L.n+1) L.c]:=ht2.rd (o:=0) (n:=1) (by show 0+1≤3;omega);have i0:(0:Int)≤(L.n:Int)∧(L.n:Int)<((L.n+1:Nat):Int):=by omega
   conv=>lhs;whnf
   repeat(first|refine cO i0 ?_|refine ai r2 ?_|refine aj hD rfl ?_
          conv=>lhs;whnf)
   refine(hD _).2 ⟨hr2.room (by show 0+L.n*1+1≤L.c*1;omega),fun A3 hP3=> ?_⟩;have hP3:A2.Put A3 g (0+L.n*1) [.int .u8 b.toNat]:=hP3;rw [Nat.mul_one,Nat.zero_add,hL]at hP3;rw [hL]at ht2 hr2
   have hk2:∀k' o,A1.blk k'=some o→k'≠w→L.g≠some k'→A2.blk k'=some o:=fun k' o hk hw _=>by
    rw [hP2.other k' hw];exact hk
   have hfin:=(gE (ys:= [b]) ht2 hr2 hz k3 hcp hgw (.inl k1) hk2 hP3 rfl).ahead hP1;have hend:lp.post ⟨w,L,l,b⟩ [] A .nilIface A3:=⟨rfl,hfin⟩;conv=>lhs;whnf
   repeat(first|refine aj hD rfl ?_
          conv=>lhs;whnf)
   exact(hD _).2 hend
  ·rw [e1]at h1
   conv=>lhs;whnf
   repeat(first|refine ai r1 ?_|refine aj hD rfl ?_
          conv=>lhs;whnf)
   refine(hD _).2 ⟨(⟨w,L,l,1⟩:BfG),⟨rfl,hW1,Nat.le_refl _,by show l.length+1≤900000000;omega,by show L.c<l.length+1;omega⟩,fun v A2 hq=> ?_⟩;obtain⟨hv,kb,c,zs,⟨lr2,ht2⟩,hr2,hz,hc0,hcm,hkw,hg,hk2⟩:v= .int .i64 l.length∧mb A1 w L l 1 A2:=hq;subst hv;have r2:A2.rd w 0 1=some [.slice (some ⟨kb,0,none⟩) (l.length+1) c]:=ht2.rd (o:=0) (n:=1) (by show 0+1≤3;omega);have i0:(0:Int)≤(l.length:Int)∧(l.length:Int)<((l.length+1:Nat):Int):=by omega
   conv=>lhs;whnf
   repeat(first|refine cO i0 ?_|refine ai r2 ?_|refine aj hD rfl ?_
          conv=>lhs;whnf)
   refine(hD _).2 ⟨hr2.room (by show 0+l.length*1+1≤c*1;have:=hr2.le;omega),fun A3 hP3=> ?_⟩;have hP3:A2.Put A3 kb (0+l.length*1) [.int .u8 b.toNat]:=hP3;rw [Nat.mul_one,Nat.zero_add]at hP3;have hfin:=(gE (ys:= [b]) ht2 hr2 hz hc0 hcm hkw hg hk2 hP3 rfl).ahead hP1;have hend:lp.post ⟨w,L,l,b⟩ [] A .nilIface A3:=⟨rfl,hfin⟩;conv=>lhs;whnf
   repeat(first|refine aj hD rfl ?_
          conv=>lhs;whnf)
   exact(hD _).2 hend
theorem fX{x:Int}{c k:Nat}{t:Bool}(hx:x=k)(hk:k≤c):((decide ((0:Int)≤x)&&decide (x≤(c:Int)))&&(true||t))=true:=by
 subst hx;exact Bool.and_eq_true_iff.2 ⟨Bool.and_eq_true_iff.2 ⟨decide_eq_true (by omega),decide_eq_true (by omega)⟩,rfl⟩
theorem od{a b:Nat}(h:a≠b):a.beq b=false:=by
 cases e:a.beq b with
 |false=>rfl
 |true=>exact absurd (Nat.eq_of_beq_eq_true e) h
theorem pd{h:HS}{s:List UInt8}{n:Nat}(hn:n=s.length):xi h 1 n (.v (.string ⟨s.toArray⟩))=some (s.map bv):=by
 show(if 1=1∧n=s.length then some (s.map fun b=>Value.int .u8 b.toNat)else none)=some (s.map bv)
 rw [if_pos ⟨rfl,hn⟩];rfl
theorem tz{A A':aa}{g o:Nat}(h:A.Put A' g o [])(k:Nat):A'.blk k=A.blk k:=by
 by_cases e:k=g
 ·subst e
  obtain⟨c,t,fz,c',k1,k2,k3⟩:=h.at_;have:c'=c:=Array.toList_inj.1 (by rw [k3];simp);rw [k2,k1,this]
 ·exact h.other k e
structure BsG where
 w:Nat
 L:LsD
 l:List UInt8
 s:List UInt8
def lZ:aY:=⟨BsG,fun g vs A=>vs= [.pointer (some ⟨g.w,0,none⟩),.string ⟨g.s.toArray⟩]∧BfR A g.w g.L g.l∧g.l.length+g.s.length≤890000000,fun g _ A v A'=>v= .tuple #[.int .i64 g.s.length,.nilIface]∧fk A g.w g.L (g.l++g.s) A'⟩
theorem EN:FOk Tryz.prog 126 lZ:=by
 refine bG mixed fun⟨w,L,l,s⟩ vs A hp=> ?_
 obtain⟨rfl,hW,hlen⟩:vs= [.pointer (some ⟨w,0,none⟩),.string ⟨s.toArray⟩]∧BfR A w L l∧l.length+s.length≤890000000:=hp
 have hC:aI Tryz.prog (bQ [aM 201 jE] noC):=aD (aA _) (fun x hx=>by
  simp only [List.mem_singleton]at hx;subst hx
  exact au oa)
 refine⟨_,noL,60,hC,az _,fun blk os out tape D hD=> ?_⟩;have hL:=hW.len;have hcp:=hW.cap;obtain⟨lr,htop⟩:=hW.top;have hroom:A.Room w 2 1:=htop.room (by show 2+1≤3;omega);conv=>lhs;whnf
 repeat(first|refine aj hD rfl ?_
        conv=>lhs;whnf)
 refine(hD _).2 ⟨hroom,fun A1 hP1=> ?_⟩;have hP1:A.Put A1 w 2 [.int .i8 0]:=hP1;have hW1:=hW.put2 hP1;have ht1:aE A1 w [L.v,.int .i64 0,.int .i8 0]:=htop.put hP1 (by show 2+1≤3;omega);have hrow:=hW.row
 by_cases hs0:s= []
 ·subst hs0
  rcases hrow with⟨k1,k2,k3,k4, -⟩|⟨g,k1,k2,k3,k5⟩
  ·have hnil:=hW.nil k1
   rw [hnil]at ht1;have r1:A1.rd w 0 1=some [.slice none 0 0]:=ht1.rd (o:=0) (n:=1) (by show 0+1≤3;omega);conv=>lhs;whnf
   repeat(first|refine ai r1 ?_|refine aj hD rfl ?_
          conv=>lhs;whnf)
   refine(hD _).2 ⟨ht1.room (by show 0+1≤3;omega),fun A2 hP2=> ?_⟩;have hP2:A1.Put A2 w 0 [.slice none 0 0]:=hP2;have ht2:aE A2 w [.slice none 0 0,.int .i64 0,.int .i8 0]:=ht1.put hP2 (by show 0+1≤3;omega);have r2:A2.rd w 0 1=some [.slice none 0 0]:=ht2.rd (o:=0) (n:=1) (by show 0+1≤3;omega)
   have hW2:BfR A2 w L (l++ []):=by
    rw [List.append_nil];exact⟨⟨0,by rw [hnil];exact ht2⟩,hW.row.ck fun g o hg _=>(by rw [k1]at hg;cases hg),hW.ne,hW.nil,hW.cap⟩
   have hfin:fk A w L (l++ []) A2:=⟨L,hW2,fun k o hk hw _=>by rw [hP2.other k hw,hP1.other k hw];exact hk,fun g hg=> .inl hg⟩;have hend:lZ.post ⟨w,L,l, []⟩ [] A (.tuple #[.int .i64 0,.nilIface]) A2:=⟨rfl,hfin⟩;conv=>lhs;whnf
   repeat(first|refine ai r2 ?_|refine aj hD rfl ?_
          conv=>lhs;whnf)
   exact(hD _).2 hend
  ·rw [k2]at ht1
   have r1:A1.rd w 0 1=some [.slice (some ⟨g,0,none⟩) L.n L.c]:=ht1.rd (o:=0) (n:=1) (by show 0+1≤3;omega);conv=>lhs;whnf
   repeat(first|refine ai r1 ?_|refine aj hD rfl ?_
          conv=>lhs;whnf)
   have e1:IntKind.i64.wrap ((L.c:Int)-(L.n:Int))=(L.c:Int)-(L.n:Int):=i64_in (by omega) (by omega);have hle:L.n≤L.c:=k5.le;refine af (fun h1=> ?_) (fun h1=>absurd h1 (by intro h9;exact h9 (by rw [e1];show(0:Int)≤_;omega)));conv=>lhs;whnf
   repeat(first|refine ai r1 ?_|refine aj hD rfl ?_
          conv=>lhs;whnf)
   have e6:IntKind.i64.wrap ((L.n:Int)+((0:Nat):Int))=(L.n:Int):=by
    rw [i64_in (by omega) (by omega)];omega
   refine gB (gX e6 hle) ?_;conv=>lhs;whnf
   repeat(first|refine ai r1 ?_|refine aj hD rfl ?_
          conv=>lhs;whnf)
   refine(hD _).2 ⟨ht1.room (by show 0+1≤3;omega),fun A2 hP2=> ?_⟩;have hP2:A1.Put A2 w 0 [.slice (some ⟨g,0+(bif L.c.beq (Int.toNat 0)then 0 else Int.toNat 0*1),none⟩) ((IntKind.i64.wrap ((L.n:Int)+((0:Nat):Int))).toNat-Int.toNat 0) (L.c-Int.toNat 0)]:=hP2;have e8:(bif L.c.beq (Int.toNat 0)then 0 else Int.toNat 0*1)=0:=by cases L.c.beq (Int.toNat 0)<;>rfl
   rw [e6,e8]at hP2;have hP2:A1.Put A2 w 0 [.slice (some ⟨g,0,none⟩) L.n L.c]:=hP2;have ht2:aE A2 w [.slice (some ⟨g,0,none⟩) L.n L.c,.int .i64 0,.int .i8 0]:=ht1.put hP2 (by show 0+1≤3;omega);have hgw:g≠w:=fun e=>hW.ne (by rw [k1,e])
   have hr2:ee A2 g 1 5 L.n L.c (l.map bv):=k5.ck (by rw [hP2.other g hgw,hP1.other g hgw]);have r2:A2.rd w 0 1=some [.slice (some ⟨g,0,none⟩) L.n L.c]:=ht2.rd (o:=0) (n:=1) (by show 0+1≤3;omega);conv=>lhs;whnf
   repeat(first|refine ai r2 ?_|refine aj hD rfl ?_
          conv=>lhs;whnf)
   refine gB (fX (k:=L.n) (c:=L.n) rfl (Nat.le_refl _)) ?_;conv=>lhs;whnf
   repeat(first|refine ai r2 ?_|refine ai r1 ?_|refine aj hD rfl ?_
          conv=>lhs;whnf)
   have e9:(bif L.c.beq ((L.n:Int).toNat)then 0 else(L.n:Int).toNat*1)≤L.c:=by
    cases L.c.beq ((L.n:Int).toNat)
    ·show(L.n:Int).toNat*1≤L.c
     omega
    ·exact Nat.zero_le _
   have e10:Nat.min 0 ((L.n:Int).toNat-(L.n:Int).toNat)=0:=Nat.zero_min _;refine(hD _).2 ⟨[],pd e10,fun v hv=>(by cases hv),hr2.room (by show 0+(bif L.c.beq ((L.n:Int).toNat)then 0 else(L.n:Int).toNat*1)+0≤L.c*1;omega),fun A3 hP3=> ?_⟩;have hn3:=tz hP3
   have hW3:BfR A3 w L (l++ []):=by
    rw [List.append_nil];exact⟨⟨0,by rw [k2];exact ht2.sub fun o ho=>(hn3 w).trans ho⟩,.inr ⟨g,k1,k2,k3,hr2.ck (hn3 g)⟩,hW.ne,hW.nil,hW.cap⟩
   have hfin:fk A w L (l++ []) A3:=⟨L,hW3,fun k o hk hw _=>by rw [hn3 k];show A2.blk k=some o;rw [hP2.other k hw,hP1.other k hw];exact hk,fun g hg=> .inl hg⟩;have hend:lZ.post ⟨w,L,l, []⟩ [] A (.tuple #[.int .i64 (Nat.min 0 ((L.n:Int).toNat-(L.n:Int).toNat):Nat),.nilIface]) A3:=⟨by rw [e10];rfl,hfin⟩;conv=>lhs;whnf
   repeat(first|refine aj hD rfl ?_
          conv=>lhs;whnf)
   exact(hD _).2 hend
 have hpos:0<s.length:=by
  cases s with
  |nil=>exact absurd rfl hs0
  |cons x xs=>simp
 rcases hrow with⟨k1,k2,k3,k4, -⟩|⟨g,k1,k2,k3,k5⟩
 ·rw [hW.nil k1]at ht1
  have r1:A1.rd w 0 1=some [.slice none 0 0]:=ht1.rd (o:=0) (n:=1) (by show 0+1≤3;omega);conv=>lhs;whnf
  repeat(first|refine ai r1 ?_|refine aj hD rfl ?_
         conv=>lhs;whnf)
  refine af (fun h=>absurd h (by show ¬((s.length:Int)≤0);omega)) (fun _=> ?_);conv=>lhs;whnf
  repeat(first|refine ai r1 ?_|refine aj hD rfl ?_
         conv=>lhs;whnf)
  refine(hD _).2 ⟨(⟨w,L,l,s.length⟩:BfG),⟨rfl,hW1,hpos,by show l.length+s.length≤900000000;omega,by show L.c<l.length+s.length;omega⟩,fun v A2 hq=> ?_⟩;obtain⟨hv,kb,c,zs,⟨lr2,ht2⟩,hr2,hz,hc0,hcm,hkw,hg,hk2⟩:v= .int .i64 l.length∧mb A1 w L l s.length A2:=hq;subst hv;have r2:A2.rd w 0 1=some [.slice (some ⟨kb,0,none⟩) (l.length+s.length) c]:=ht2.rd (o:=0) (n:=1) (by show 0+1≤3;omega);have hcl:=hr2.le;conv=>lhs;whnf
  repeat(first|refine ai r2 ?_|refine aj hD rfl ?_
         conv=>lhs;whnf)
  refine gB (fX (k:=l.length) (c:=l.length+s.length) rfl (by omega)) ?_;conv=>lhs;whnf
  repeat(first|refine ai r2 ?_|refine ai r1 ?_|refine aj hD rfl ?_
         conv=>lhs;whnf)
  have e9:(bif (c).beq ((l.length:Int).toNat)then 0 else(l.length:Int).toNat*1)=l.length:=by
   rw [show(c).beq ((l.length:Int).toNat)=false from od (by omega)];exact Nat.mul_one _
  have e10:Nat.min s.length ((((l.length+s.length:Nat):Int)).toNat-(l.length:Int).toNat)=s.length:=Nat.min_eq_left (by omega);refine(hD _).2 ⟨s.map bv,(pd e10),iK s,hr2.room (by show 0+(bif (c).beq ((l.length:Int).toNat)then 0 else(l.length:Int).toNat*1)+(s.map bv).length≤c*1;rw [e9,List.length_map];omega),fun A3 hP3=> ?_⟩;have hP3:A2.Put A3 kb (0+(bif (c).beq ((l.length:Int).toNat)then 0 else(l.length:Int).toNat*1)) (s.map bv):=hP3;rw [e9,Nat.zero_add]at hP3;have hfin:=(gE (ys:=s) ht2 hr2 hz hc0 hcm hkw hg hk2 hP3 rfl).ahead hP1;have hend:lZ.post ⟨w,L,l,s⟩ [] A (.tuple #[.int .i64 (Nat.min s.length (((l.length+s.length:Nat):Int).toNat-(l.length:Int).toNat):Nat),.nilIface]) A3:=⟨by rw [e10],hfin⟩;conv=>lhs;whnf
  repeat(first|refine aj hD rfl ?_
         conv=>lhs;whnf)
  exact(hD _).2 hend
 ·rw [k2]at ht1
  have r1:A1.rd w 0 1=some [.slice (some ⟨g,0,none⟩) L.n L.c]:=ht1.rd (o:=0) (n:=1) (by show 0+1≤3;omega);conv=>lhs;whnf
  repeat(first|refine ai r1 ?_|refine aj hD rfl ?_
         conv=>lhs;whnf)
  have e1:IntKind.i64.wrap ((L.c:Int)-(L.n:Int))=(L.c:Int)-(L.n:Int):=i64_in (by omega) (by omega);refine af (fun h1=> ?_) (fun h1=> ?_)
  ·rw [e1]at h1
   have h1:(s.length:Int)≤(L.c:Int)-(L.n:Int):=h1;conv=>lhs;whnf
   repeat(first|refine ai r1 ?_|refine aj hD rfl ?_
          conv=>lhs;whnf)
   have hle:L.n+s.length≤L.c:=by omega
   have e6:IntKind.i64.wrap ((L.n:Int)+(s.length:Int))=((L.n+s.length:Nat):Int):=by
    rw [i64_in (by omega) (by omega)];omega
   refine gB (gX e6 hle) ?_;conv=>lhs;whnf
   repeat(first|refine ai r1 ?_|refine aj hD rfl ?_
          conv=>lhs;whnf)
   refine(hD _).2 ⟨ht1.room (by show 0+1≤3;omega),fun A2 hP2=> ?_⟩;have hP2:A1.Put A2 w 0 [.slice (some ⟨g,0+(bif L.c.beq (Int.toNat 0)then 0 else Int.toNat 0*1),none⟩) ((IntKind.i64.wrap ((L.n:Int)+(s.length:Int))).toNat-Int.toNat 0) (L.c-Int.toNat 0)]:=hP2;have e8:(bif L.c.beq (Int.toNat 0)then 0 else Int.toNat 0*1)=0:=by cases L.c.beq (Int.toNat 0)<;>rfl
   rw [e6,e8]at hP2;have hP2:A1.Put A2 w 0 [.slice (some ⟨g,0,none⟩) (L.n+s.length) L.c]:=hP2;have ht2:aE A2 w [.slice (some ⟨g,0,none⟩) (L.n+s.length) L.c,.int .i64 0,.int .i8 0]:=ht1.put hP2 (by show 0+1≤3;omega);have hgw:g≠w:=fun e=>hW.ne (by rw [k1,e])
   have hr1:ee A2 g 1 5 L.n L.c (l.map bv):=k5.ck (by rw [hP2.other g hgw,hP1.other g hgw]);have hwide:=hr1.wide hle;obtain⟨zs,hz,hr2⟩:=hwide
   have hk2:∀k' o,A1.blk k'=some o→k'≠w→L.g≠some k'→A2.blk k'=some o:=fun k' o hk hw _=>by
    rw [hP2.other k' hw];exact hk
   have r2:A2.rd w 0 1=some [.slice (some ⟨g,0,none⟩) (L.n+s.length) L.c]:=ht2.rd (o:=0) (n:=1) (by show 0+1≤3;omega);conv=>lhs;whnf
   repeat(first|refine ai r2 ?_|refine aj hD rfl ?_
          conv=>lhs;whnf)
   refine gB (fX (k:=L.n) (c:=L.n+s.length) rfl (by omega)) ?_;conv=>lhs;whnf
   repeat(first|refine ai r2 ?_|refine ai r1 ?_|refine aj hD rfl ?_
          conv=>lhs;whnf)
   have e9:(bif (L.c).beq ((L.n:Int).toNat)then 0 else(L.n:Int).toNat*1)=L.n:=by
    rw [show(L.c).beq ((L.n:Int).toNat)=false from od (by omega)];exact Nat.mul_one _
   have e10:Nat.min s.length ((((L.n+s.length:Nat):Int)).toNat-(L.n:Int).toNat)=s.length:=Nat.min_eq_left (by omega);refine(hD _).2 ⟨s.map bv,(pd e10),iK s,hr2.room (by show 0+(bif (L.c).beq ((L.n:Int).toNat)then 0 else(L.n:Int).toNat*1)+(s.map bv).length≤L.c*1;rw [e9,List.length_map];omega),fun A3 hP3=> ?_⟩;have hP3:A2.Put A3 g (0+(bif (L.c).beq ((L.n:Int).toNat)then 0 else(L.n:Int).toNat*1)) (s.map bv):=hP3;rw [e9,Nat.zero_add]at hP3;rw [hL]at hP3;rw [hL]at ht2 hr2;have hfin:=(gE (ys:=s) ht2 hr2 hz k3 hcp hgw (.inl k1) hk2 hP3 rfl).ahead hP1;have hend:lZ.post ⟨w,L,l,s⟩ [] A (.tuple #[.int .i64 (Nat.min s.length (((L.n+s.length:Nat):Int).toNat-(L.n:Int).toNat):Nat),.nilIface]) A3:=⟨by rw [e10],hfin⟩;conv=>lhs;whnf
   repeat(first|refine aj hD rfl ?_
          conv=>lhs;whnf)
   exact(hD _).2 hend
  ·rw [e1]at h1
   have h1:¬(s.length:Int)≤(L.c:Int)-(L.n:Int):=h1;conv=>lhs;whnf
   repeat(first|refine ai r1 ?_|refine aj hD rfl ?_
          conv=>lhs;whnf)
   refine(hD _).2 ⟨(⟨w,L,l,s.length⟩:BfG),⟨rfl,hW1,hpos,by show l.length+s.length≤900000000;omega,by show L.c<l.length+s.length;omega⟩,fun v A2 hq=> ?_⟩;obtain⟨hv,kb,c,zs,⟨lr2,ht2⟩,hr2,hz,hc0,hcm,hkw,hg,hk2⟩:v= .int .i64 l.length∧mb A1 w L l s.length A2:=hq;subst hv;have r2:A2.rd w 0 1=some [.slice (some ⟨kb,0,none⟩) (l.length+s.length) c]:=ht2.rd (o:=0) (n:=1) (by show 0+1≤3;omega);have hcl:=hr2.le;conv=>lhs;whnf
   repeat(first|refine ai r2 ?_|refine aj hD rfl ?_
          conv=>lhs;whnf)
   refine gB (fX (k:=l.length) (c:=l.length+s.length) rfl (by omega)) ?_;conv=>lhs;whnf
   repeat(first|refine ai r2 ?_|refine ai r1 ?_|refine aj hD rfl ?_
          conv=>lhs;whnf)
   have e9:(bif (c).beq ((l.length:Int).toNat)then 0 else(l.length:Int).toNat*1)=l.length:=by
    rw [show(c).beq ((l.length:Int).toNat)=false from od (by omega)];exact Nat.mul_one _
   have e10:Nat.min s.length ((((l.length+s.length:Nat):Int)).toNat-(l.length:Int).toNat)=s.length:=Nat.min_eq_left (by omega);refine(hD _).2 ⟨s.map bv,(pd e10),iK s,hr2.room (by show 0+(bif (c).beq ((l.length:Int).toNat)then 0 else(l.length:Int).toNat*1)+(s.map bv).length≤c*1;rw [e9,List.length_map];omega),fun A3 hP3=> ?_⟩;have hP3:A2.Put A3 kb (0+(bif (c).beq ((l.length:Int).toNat)then 0 else(l.length:Int).toNat*1)) (s.map bv):=hP3;rw [e9,Nat.zero_add]at hP3;have hfin:=(gE (ys:=s) ht2 hr2 hz hc0 hcm hkw hg hk2 hP3 rfl).ahead hP1;have hend:lZ.post ⟨w,L,l,s⟩ [] A (.tuple #[.int .i64 (Nat.min s.length (((l.length+s.length:Nat):Int).toNat-(l.length:Int).toNat):Nat),.nilIface]) A3:=⟨by rw [e10],hfin⟩;conv=>lhs;whnf
   repeat(first|refine aj hD rfl ?_
          conv=>lhs;whnf)
   exact(hD _).2 hend
theorem uN{h:HS}{ao:Option Addr}{n m c:Nat}(hn:n=0):xi h 1 n (.v (.slice ao m c))=some []:=by
 rcases ao with _|⟨g,o,_|sp⟩<;>exact if_pos hn
theorem mo{h:HS}{g o n m c:Nat}{ys:List Value}(hn:n≠0)(hr:h.M.A.rd g o (n*1)=some ys):xi h 1 n (.v (.slice (some ⟨g,o,none⟩) m c))=some ys:=
 (if_neg hn).trans hr
structure BwG where
 w:Nat
 L:LsD
 l:List UInt8
 s:List UInt8
 C:aa
def rj:aY:=⟨BwG,fun g vs A=>∃x,vs= [.pointer (some ⟨g.w,0,none⟩),x]∧BfR A g.w g.L g.l∧g.l.length+g.s.length≤890000000∧Sl g.C 1 g.s.length x (g.s.map bv)∧∀k o,g.C.blk k=some o→A.blk k=some o∧k≠g.w∧g.L.g≠some k,fun g _ A v A'=>v= .tuple #[.int .i64 g.s.length,.nilIface]∧fk A g.w g.L (g.l++g.s) A'⟩
theorem bfWr_ok:FOk Tryz.prog 127 rj:=by
 refine bG mixed fun⟨w,L,l,s,C⟩ vs A hp=> ?_
 obtain⟨x,rfl,hW,hlen,hX,hCA⟩:∃x,vs= [.pointer (some ⟨w,0,none⟩),x]∧BfR A w L l∧l.length+s.length≤890000000∧Sl C 1 s.length x (s.map bv)∧∀k o,C.blk k=some o→A.blk k=some o∧k≠w∧L.g≠some k:=hp;obtain⟨ao,cx,rfl,hcx,hlx,ha1,ha2,ha3⟩:=hX
 have hC:aI Tryz.prog (bQ [aM 201 jE] noC):=aD (aA _) (fun x hx=>by
  simp only [List.mem_singleton]at hx;subst hx
  exact au oa)
 have hform:s= []∨∃gs o9,ao=some ⟨gs,o9,none⟩∧C.rd gs o9 (s.length*1)=some (s.map bv):=by
  by_cases h:s= []
  ·exact .inl h
  ·refine .inr (Sl.at_ hcx ha1 ha2 ha3 ?_)
   cases s with
   |nil=>exact absurd rfl h
   |cons y ys=>simp
 refine⟨_,noL,60,hC,az _,fun blk os out tape D hD=> ?_⟩;have hL:=hW.len;have hcp:=hW.cap;obtain⟨lr,htop⟩:=hW.top;have hroom:A.Room w 2 1:=htop.room (by show 2+1≤3;omega);conv=>lhs;whnf
 repeat(first|refine aj hD rfl ?_
        conv=>lhs;whnf)
 refine(hD _).2 ⟨hroom,fun A1 hP1=> ?_⟩;have hP1:A.Put A1 w 2 [.int .i8 0]:=hP1;have hW1:=hW.put2 hP1;have ht1:aE A1 w [L.v,.int .i64 0,.int .i8 0]:=htop.put hP1 (by show 2+1≤3;omega);have hrow:=hW.row
 by_cases hs0:s= []
 ·subst hs0
  rcases hrow with⟨k1,k2,k3,k4, -⟩|⟨g,k1,k2,k3,k5⟩
  ·have hnil:=hW.nil k1
   rw [hnil]at ht1;have r1:A1.rd w 0 1=some [.slice none 0 0]:=ht1.rd (o:=0) (n:=1) (by show 0+1≤3;omega);conv=>lhs;whnf
   repeat(first|refine ai r1 ?_|refine aj hD rfl ?_
          conv=>lhs;whnf)
   refine(hD _).2 ⟨ht1.room (by show 0+1≤3;omega),fun A2 hP2=> ?_⟩;have hP2:A1.Put A2 w 0 [.slice none 0 0]:=hP2;have ht2:aE A2 w [.slice none 0 0,.int .i64 0,.int .i8 0]:=ht1.put hP2 (by show 0+1≤3;omega);have r2:A2.rd w 0 1=some [.slice none 0 0]:=ht2.rd (o:=0) (n:=1) (by show 0+1≤3;omega)
   have hW2:BfR A2 w L (l++ []):=by
    rw [List.append_nil];exact⟨⟨0,by rw [hnil];exact ht2⟩,hW.row.ck fun g o hg _=>(by rw [k1]at hg;cases hg),hW.ne,hW.nil,hW.cap⟩
   have hfin:fk A w L (l++ []) A2:=⟨L,hW2,fun k o hk hw _=>by rw [hP2.other k hw,hP1.other k hw];exact hk,fun g hg=> .inl hg⟩;have hend:rj.post ⟨w,L,l, [],C⟩ [] A (.tuple #[.int .i64 0,.nilIface]) A2:=⟨rfl,hfin⟩;conv=>lhs;whnf
   repeat(first|refine ai r2 ?_|refine aj hD rfl ?_
          conv=>lhs;whnf)
   exact(hD _).2 hend
  ·rw [k2]at ht1
   have r1:A1.rd w 0 1=some [.slice (some ⟨g,0,none⟩) L.n L.c]:=ht1.rd (o:=0) (n:=1) (by show 0+1≤3;omega);conv=>lhs;whnf
   repeat(first|refine ai r1 ?_|refine aj hD rfl ?_
          conv=>lhs;whnf)
   have e1:IntKind.i64.wrap ((L.c:Int)-(L.n:Int))=(L.c:Int)-(L.n:Int):=i64_in (by omega) (by omega);have hle:L.n≤L.c:=k5.le;refine af (fun h1=> ?_) (fun h1=>absurd h1 (by intro h9;exact h9 (by rw [e1];show(0:Int)≤_;omega)));conv=>lhs;whnf
   repeat(first|refine ai r1 ?_|refine aj hD rfl ?_
          conv=>lhs;whnf)
   have e6:IntKind.i64.wrap ((L.n:Int)+((0:Nat):Int))=(L.n:Int):=by
    rw [i64_in (by omega) (by omega)];omega
   refine gB (gX e6 hle) ?_;conv=>lhs;whnf
   repeat(first|refine ai r1 ?_|refine aj hD rfl ?_
          conv=>lhs;whnf)
   refine(hD _).2 ⟨ht1.room (by show 0+1≤3;omega),fun A2 hP2=> ?_⟩;have hP2:A1.Put A2 w 0 [.slice (some ⟨g,0+(bif L.c.beq (Int.toNat 0)then 0 else Int.toNat 0*1),none⟩) ((IntKind.i64.wrap ((L.n:Int)+((0:Nat):Int))).toNat-Int.toNat 0) (L.c-Int.toNat 0)]:=hP2;have e8:(bif L.c.beq (Int.toNat 0)then 0 else Int.toNat 0*1)=0:=by cases L.c.beq (Int.toNat 0)<;>rfl
   rw [e6,e8]at hP2;have hP2:A1.Put A2 w 0 [.slice (some ⟨g,0,none⟩) L.n L.c]:=hP2;have ht2:aE A2 w [.slice (some ⟨g,0,none⟩) L.n L.c,.int .i64 0,.int .i8 0]:=ht1.put hP2 (by show 0+1≤3;omega);have hgw:g≠w:=fun e=>hW.ne (by rw [k1,e])
   have hr2:ee A2 g 1 5 L.n L.c (l.map bv):=k5.ck (by rw [hP2.other g hgw,hP1.other g hgw]);have r2:A2.rd w 0 1=some [.slice (some ⟨g,0,none⟩) L.n L.c]:=ht2.rd (o:=0) (n:=1) (by show 0+1≤3;omega);conv=>lhs;whnf
   repeat(first|refine ai r2 ?_|refine aj hD rfl ?_
          conv=>lhs;whnf)
   refine gB (fX (k:=L.n) (c:=L.n) rfl (Nat.le_refl _)) ?_;conv=>lhs;whnf
   repeat(first|refine ai r2 ?_|refine ai r1 ?_|refine aj hD rfl ?_
          conv=>lhs;whnf)
   have e9:(bif L.c.beq ((L.n:Int).toNat)then 0 else(L.n:Int).toNat*1)≤L.c:=by
    cases L.c.beq ((L.n:Int).toNat)
    ·show(L.n:Int).toNat*1≤L.c
     omega
    ·exact Nat.zero_le _
   have e10:Nat.min 0 ((L.n:Int).toNat-(L.n:Int).toNat)=0:=Nat.zero_min _;refine(hD _).2 ⟨[],uN e10,fun v hv=>(by cases hv),hr2.room (by show 0+(bif L.c.beq ((L.n:Int).toNat)then 0 else(L.n:Int).toNat*1)+0≤L.c*1;omega),fun A3 hP3=> ?_⟩;have hn3:=tz hP3
   have hW3:BfR A3 w L (l++ []):=by
    rw [List.append_nil];exact⟨⟨0,by rw [k2];exact ht2.sub fun o ho=>(hn3 w).trans ho⟩,.inr ⟨g,k1,k2,k3,hr2.ck (hn3 g)⟩,hW.ne,hW.nil,hW.cap⟩
   have hfin:fk A w L (l++ []) A3:=⟨L,hW3,fun k o hk hw _=>by rw [hn3 k];show A2.blk k=some o;rw [hP2.other k hw,hP1.other k hw];exact hk,fun g hg=> .inl hg⟩;have hend:rj.post ⟨w,L,l, [],C⟩ [] A (.tuple #[.int .i64 (Nat.min 0 ((L.n:Int).toNat-(L.n:Int).toNat):Nat),.nilIface]) A3:=⟨by rw [e10];rfl,hfin⟩;conv=>lhs;whnf
   repeat(first|refine aj hD rfl ?_
          conv=>lhs;whnf)
   exact(hD _).2 hend
 have hpos:0<s.length:=by
  cases s with
  |nil=>exact absurd rfl hs0
  |cons x xs=>simp
 have hform:=hform.resolve_left hs0;obtain⟨gs,o9,rfl,hrd⟩:=hform;rcases hrow with⟨k1,k2,k3,k4, -⟩|⟨g,k1,k2,k3,k5⟩
 ·rw [hW.nil k1]at ht1
  have r1:A1.rd w 0 1=some [.slice none 0 0]:=ht1.rd (o:=0) (n:=1) (by show 0+1≤3;omega);conv=>lhs;whnf
  repeat(first|refine ai r1 ?_|refine aj hD rfl ?_
         conv=>lhs;whnf)
  refine af (fun h=>absurd h (by show ¬((s.length:Int)≤0);omega)) (fun _=> ?_);conv=>lhs;whnf
  repeat(first|refine ai r1 ?_|refine aj hD rfl ?_
         conv=>lhs;whnf)
  refine(hD _).2 ⟨(⟨w,L,l,s.length⟩:BfG),⟨rfl,hW1,hpos,by show l.length+s.length≤900000000;omega,by show L.c<l.length+s.length;omega⟩,fun v A2 hq=> ?_⟩;obtain⟨hv,kb,c,zs,⟨lr2,ht2⟩,hr2,hz,hc0,hcm,hkw,hg,hk2⟩:v= .int .i64 l.length∧mb A1 w L l s.length A2:=hq;subst hv;have r2:A2.rd w 0 1=some [.slice (some ⟨kb,0,none⟩) (l.length+s.length) c]:=ht2.rd (o:=0) (n:=1) (by show 0+1≤3;omega);have hcl:=hr2.le;conv=>lhs;whnf
  repeat(first|refine ai r2 ?_|refine aj hD rfl ?_
         conv=>lhs;whnf)
  have hC2:C.Sub A2:=fun k o hk=>hk2 k o (by rw [hP1.other k (hCA k o hk).2.1];exact(hCA k o hk).1) (hCA k o hk).2.1 (hCA k o hk).2.2
  have hrd2:=bI hC2 hrd;refine gB (fX (k:=l.length) (c:=l.length+s.length) rfl (by omega)) ?_;conv=>lhs;whnf
  repeat(first|refine ai r2 ?_|refine ai r1 ?_|refine aj hD rfl ?_
         conv=>lhs;whnf)
  have e9:(bif (c).beq ((l.length:Int).toNat)then 0 else(l.length:Int).toNat*1)=l.length:=by
   rw [show(c).beq ((l.length:Int).toNat)=false from od (by omega)];exact Nat.mul_one _
  have e10:Nat.min s.length ((((l.length+s.length:Nat):Int)).toNat-(l.length:Int).toNat)=s.length:=Nat.min_eq_left (by omega);refine(hD _).2 ⟨s.map bv,mo (by rw [e10];omega) (by rw [e10];exact hrd2),iK s,hr2.room (by show 0+(bif (c).beq ((l.length:Int).toNat)then 0 else(l.length:Int).toNat*1)+(s.map bv).length≤c*1;rw [e9,List.length_map];omega),fun A3 hP3=> ?_⟩;have hP3:A2.Put A3 kb (0+(bif (c).beq ((l.length:Int).toNat)then 0 else(l.length:Int).toNat*1)) (s.map bv):=hP3;rw [e9,Nat.zero_add]at hP3;have hfin:=(gE (ys:=s) ht2 hr2 hz hc0 hcm hkw hg hk2 hP3 rfl).ahead hP1;have hend:rj.post ⟨w,L,l,s,C⟩ [] A (.tuple #[.int .i64 (Nat.min s.length (((l.length+s.length:Nat):Int).toNat-(l.length:Int).toNat):Nat),.nilIface]) A3:=⟨by rw [e10],hfin⟩;conv=>lhs;whnf
  repeat(first|refine aj hD rfl ?_
         conv=>lhs;whnf)
  exact(hD _).2 hend
 ·rw [k2]at ht1
  have r1:A1.rd w 0 1=some [.slice (some ⟨g,0,none⟩) L.n L.c]:=ht1.rd (o:=0) (n:=1) (by show 0+1≤3;omega);conv=>lhs;whnf
  repeat(first|refine ai r1 ?_|refine aj hD rfl ?_
         conv=>lhs;whnf)
  have e1:IntKind.i64.wrap ((L.c:Int)-(L.n:Int))=(L.c:Int)-(L.n:Int):=i64_in (by omega) (by omega);refine af (fun h1=> ?_) (fun h1=> ?_)
  ·rw [e1]at h1
   have h1:(s.length:Int)≤(L.c:Int)-(L.n:Int):=h1;conv=>lhs;whnf
   repeat(first|refine ai r1 ?_|refine aj hD rfl ?_
          conv=>lhs;whnf)
   have hle:L.n+s.length≤L.c:=by omega
   have e6:IntKind.i64.wrap ((L.n:Int)+(s.length:Int))=((L.n+s.length:Nat):Int):=by
    rw [i64_in (by omega) (by omega)];omega
   refine gB (gX e6 hle) ?_;conv=>lhs;whnf
   repeat(first|refine ai r1 ?_|refine aj hD rfl ?_
          conv=>lhs;whnf)
   refine(hD _).2 ⟨ht1.room (by show 0+1≤3;omega),fun A2 hP2=> ?_⟩;have hP2:A1.Put A2 w 0 [.slice (some ⟨g,0+(bif L.c.beq (Int.toNat 0)then 0 else Int.toNat 0*1),none⟩) ((IntKind.i64.wrap ((L.n:Int)+(s.length:Int))).toNat-Int.toNat 0) (L.c-Int.toNat 0)]:=hP2;have e8:(bif L.c.beq (Int.toNat 0)then 0 else Int.toNat 0*1)=0:=by cases L.c.beq (Int.toNat 0)<;>rfl
   rw [e6,e8]at hP2;have hP2:A1.Put A2 w 0 [.slice (some ⟨g,0,none⟩) (L.n+s.length) L.c]:=hP2;have ht2:aE A2 w [.slice (some ⟨g,0,none⟩) (L.n+s.length) L.c,.int .i64 0,.int .i8 0]:=ht1.put hP2 (by show 0+1≤3;omega);have hgw:g≠w:=fun e=>hW.ne (by rw [k1,e])
   have hr1:ee A2 g 1 5 L.n L.c (l.map bv):=k5.ck (by rw [hP2.other g hgw,hP1.other g hgw]);have hwide:=hr1.wide hle;obtain⟨zs,hz,hr2⟩:=hwide
   have hk2:∀k' o,A1.blk k'=some o→k'≠w→L.g≠some k'→A2.blk k'=some o:=fun k' o hk hw _=>by
    rw [hP2.other k' hw];exact hk
   have r2:A2.rd w 0 1=some [.slice (some ⟨g,0,none⟩) (L.n+s.length) L.c]:=ht2.rd (o:=0) (n:=1) (by show 0+1≤3;omega);conv=>lhs;whnf
   repeat(first|refine ai r2 ?_|refine aj hD rfl ?_
          conv=>lhs;whnf)
   have hC2:C.Sub A2:=fun k o hk=>hk2 k o (by rw [hP1.other k (hCA k o hk).2.1];exact(hCA k o hk).1) (hCA k o hk).2.1 (hCA k o hk).2.2
   have hrd2:=bI hC2 hrd;refine gB (fX (k:=L.n) (c:=L.n+s.length) rfl (by omega)) ?_;conv=>lhs;whnf
   repeat(first|refine ai r2 ?_|refine ai r1 ?_|refine aj hD rfl ?_
          conv=>lhs;whnf)
   have e9:(bif (L.c).beq ((L.n:Int).toNat)then 0 else(L.n:Int).toNat*1)=L.n:=by
    rw [show(L.c).beq ((L.n:Int).toNat)=false from od (by omega)];exact Nat.mul_one _
   have e10:Nat.min s.length ((((L.n+s.length:Nat):Int)).toNat-(L.n:Int).toNat)=s.length:=Nat.min_eq_left (by omega);refine(hD _).2 ⟨s.map bv,mo (by rw [e10];omega) (by rw [e10];exact hrd2),iK s,hr2.room (by show 0+(bif (L.c).beq ((L.n:Int).toNat)then 0 else(L.n:Int).toNat*1)+(s.map bv).length≤L.c*1;rw [e9,List.length_map];omega),fun A3 hP3=> ?_⟩;have hP3:A2.Put A3 g (0+(bif (L.c).beq ((L.n:Int).toNat)then 0 else(L.n:Int).toNat*1)) (s.map bv):=hP3;rw [e9,Nat.zero_add]at hP3;rw [hL]at hP3;rw [hL]at ht2 hr2;have hfin:=(gE (ys:=s) ht2 hr2 hz k3 hcp hgw (.inl k1) hk2 hP3 rfl).ahead hP1;have hend:rj.post ⟨w,L,l,s,C⟩ [] A (.tuple #[.int .i64 (Nat.min s.length (((L.n+s.length:Nat):Int).toNat-(L.n:Int).toNat):Nat),.nilIface]) A3:=⟨by rw [e10],hfin⟩;conv=>lhs;whnf
   repeat(first|refine aj hD rfl ?_
          conv=>lhs;whnf)
   exact(hD _).2 hend
  ·rw [e1]at h1
   have h1:¬(s.length:Int)≤(L.c:Int)-(L.n:Int):=h1;conv=>lhs;whnf
   repeat(first|refine ai r1 ?_|refine aj hD rfl ?_
          conv=>lhs;whnf)
   refine(hD _).2 ⟨(⟨w,L,l,s.length⟩:BfG),⟨rfl,hW1,hpos,by show l.length+s.length≤900000000;omega,by show L.c<l.length+s.length;omega⟩,fun v A2 hq=> ?_⟩;obtain⟨hv,kb,c,zs,⟨lr2,ht2⟩,hr2,hz,hc0,hcm,hkw,hg,hk2⟩:v= .int .i64 l.length∧mb A1 w L l s.length A2:=hq;subst hv;have r2:A2.rd w 0 1=some [.slice (some ⟨kb,0,none⟩) (l.length+s.length) c]:=ht2.rd (o:=0) (n:=1) (by show 0+1≤3;omega);have hcl:=hr2.le;conv=>lhs;whnf
   repeat(first|refine ai r2 ?_|refine aj hD rfl ?_
          conv=>lhs;whnf)
   have hC2:C.Sub A2:=fun k o hk=>hk2 k o (by rw [hP1.other k (hCA k o hk).2.1];exact(hCA k o hk).1) (hCA k o hk).2.1 (hCA k o hk).2.2
   have hrd2:=bI hC2 hrd;refine gB (fX (k:=l.length) (c:=l.length+s.length) rfl (by omega)) ?_;conv=>lhs;whnf
   repeat(first|refine ai r2 ?_|refine ai r1 ?_|refine aj hD rfl ?_
          conv=>lhs;whnf)
   have e9:(bif (c).beq ((l.length:Int).toNat)then 0 else(l.length:Int).toNat*1)=l.length:=by
    rw [show(c).beq ((l.length:Int).toNat)=false from od (by omega)];exact Nat.mul_one _
   have e10:Nat.min s.length ((((l.length+s.length:Nat):Int)).toNat-(l.length:Int).toNat)=s.length:=Nat.min_eq_left (by omega);refine(hD _).2 ⟨s.map bv,mo (by rw [e10];omega) (by rw [e10];exact hrd2),iK s,hr2.room (by show 0+(bif (c).beq ((l.length:Int).toNat)then 0 else(l.length:Int).toNat*1)+(s.map bv).length≤c*1;rw [e9,List.length_map];omega),fun A3 hP3=> ?_⟩;have hP3:A2.Put A3 kb (0+(bif (c).beq ((l.length:Int).toNat)then 0 else(l.length:Int).toNat*1)) (s.map bv):=hP3;rw [e9,Nat.zero_add]at hP3;have hfin:=(gE (ys:=s) ht2 hr2 hz hc0 hcm hkw hg hk2 hP3 rfl).ahead hP1;have hend:rj.post ⟨w,L,l,s,C⟩ [] A (.tuple #[.int .i64 (Nat.min s.length (((l.length+s.length:Nat):Int).toNat-(l.length:Int).toNat):Nat),.nilIface]) A3:=⟨by rw [e10],hfin⟩;conv=>lhs;whnf
   repeat(first|refine aj hD rfl ?_
          conv=>lhs;whnf)
   exact(hD _).2 hend
theorem D9(n:Nat):Value.int .u8 (IntKind.u8.wrap (n:Int))=bv (UInt8.ofNat (n%256)):=by
 rw [wE (Nat.mod_lt _ (by decide)),pb]
def de(l:List UInt8):List UInt8:=iy l.length++iy (fM l).toNat++l
def LsN(A A':aa)(L:LsD)(cs:List Value):Prop:=LsR A' 1 5 L cs∧∀g,L.g=some g→A.blk g=none
theorem gA{A B:aa}(h:A.Sub B){g:Nat}(hg:B.blk g=none):A.blk g=none:=by
 cases hA:A.blk g with
 |none=>rfl
 |some o=>rw [h g o hA]at hg;cases hg
theorem LsN.more{A A3 A4:aa}{L L4:LsD}{cs ys:List Value}(hs:A.Sub A3)(hg:∀g,L.g=some g→A.blk g=none)(q3:LsR A4 1 5 L4 (cs++ys))(q4:∀g,L4.g=some g→L.g=some g∨A3.blk g=none)(q5:∀k o,A3.blk k=some o→L.g≠some k→A4.blk k=some o):
  A.Sub A4∧LsN A A4 L4 (cs++ys):=
 ⟨fun k o hk=>q5 k o (hs k o hk) fun e=>(by rw [hg k e]at hk;cases hk),q3,fun g h=>(q4 g h).elim (hg g) fun h=>gA hs h⟩
theorem g4_of{A:aa}{es:Nat}{e:TypeId}{L:LsD}{cs:List Value}{g:Nat}(h:LsR A es e L cs)(hv:L.v= .slice (some ⟨g,0,none⟩) L.n L.c)(hn:0<L.n):L.g=some g:=by
 rcases h with⟨_,h0,_⟩|⟨g',h1,h2,_⟩
 ·omega
 ·rw [hv]at h2
  injection h2 with h2
  injection h2 with h2
  injection h2 with h2
  rw [h1,h2]
theorem zr{A A':aa}{L:LsD}{l:List UInt8}(h:LsN A A' L (l.map bv))(hl:l.length≤140737488351232):SlB A' L.v l:=by
 refine⟨?_,hl⟩;have hn:=h.1.len;rw [List.length_map,Nat.mul_one]at hn;rcases h.1 with⟨h1,h2,h3,h4,base,h5⟩|⟨g,h1,h2,h3,h4⟩
 ·have:l= []:=List.length_eq_zero_iff.1 (by omega)
  subst this;rw [h5];exact Sl.zero _ _ (fun _=>rfl) (fun a ha h0=>absurd h0 (Nat.lt_irrefl _))
 ·rw [h2,hn]
  have h9:Sl A' 1 L.n (.slice (some ⟨g,0,none⟩) L.n L.c) (l.map bv):=Sl.row h4.le h4.rd;exact h9
theorem tL{a b:Nat}(h:a≠b):a.beq b=false:=by
 cases e:a.beq b with
 |false=>rfl
 |true=>exact absurd (Nat.eq_of_beq_eq_true e) h
def stL:bt→List UInt8
 |some l=>l
 |none=> []
def RdG(f:bt→Bool)(D A:aa)(r:Nat)(st:bt):Prop:=
 ∃v:Value,aE A r [v,.bool (f st)]∧D.Sub A∧D.blk r=none∧Sl D 1 (stL st).length v ((stL st).map bv)∧(st=none→v= .slice none 0 0)
def aB(A A':aa)(r:Nat):Prop:=∀k o,A.blk k=some o→k≠r→A'.blk k=some o
theorem aB.refl(A:aa)(r:Nat):aB A A r:=fun _ _ h _=>h
theorem aB.trans{A B C:aa}{r:Nat}(h:aB A B r)(k:aB B C r):aB A C r:=fun i o ho hi=>k i o (h i o ho hi) hi
theorem aB.qv{A B:aa}(h:A.Sub B)(r:Nat):aB A B r:=fun k o hk _=>h k o hk
theorem aB.sub{A B C:aa}{r:Nat}(h:aB A B r)(hs:C.Sub A)(hr:C.blk r=none):C.Sub B:=fun k o hk=>h k o (hs k o hk) fun e=>by rw [e,hr]at hk;cases hk
theorem aB.put{A B:aa}{r o:Nat}{vs:List Value}(h:A.Put B r o vs):aB A B r:=fun k ob hk hr=>by rw [h.other k hr];exact hk
theorem RdG.ck{f:bt→Bool}{D A B:aa}{r:Nat}{st:bt}(h:RdG f D A r st)(hs:A.Sub B):RdG f D B r st:=by
 obtain⟨v,h1,h2,h3,h4⟩:=h;exact⟨v,h1.sub fun o ho=>hs r o ho,h2.trans hs,h3,h4⟩
theorem RdG.jT{f:bt→Bool}{D A:aa}{r:Nat}{st:bt}(h:RdG f D A r st):D.Sub A:=by
 obtain⟨v,_,h2,_⟩:=h;exact h2
theorem RdG.other{f:bt→Bool}{D A B:aa}{r:Nat}{st:bt}(h:RdG f D A r st)(hs:D.Sub B)(hr:B.blk r=A.blk r):RdG f D B r st:=by
 obtain⟨v,h1,h2,h3,h4⟩:=h;exact⟨v,h1.sub fun o ho=>hr.trans ho,hs,h3,h4⟩
theorem RdG.jM{f:bt→Bool}{D A:aa}{r:Nat}{st:bt}(h:RdG f D A r st):∃o,A.blk r=some o:=by
 obtain⟨v,h1,_⟩:=h;exact h1.dom
theorem xZ{A A1 A2:aa}{r:Nat}(h:aB A A1 r)(hr:∃o,A1.blk r=some o):(A2.minus A1).Sub (A2.minus A):=fun k o hk=>by
 obtain⟨h1,h2⟩:=cj hk;refine ku ?_ h2
 cases hA:A.blk k with
 |none=>rfl
 |some ob=>
  by_cases e:k=r
  ·obtain⟨o',ho⟩:=hr
   rw [e,ho]at h1;cases h1
  ·rw [h k ob hA e]at h1;cases h1
theorem Sl.tail{D:aa}{l:List UInt8}{n:Nat}{ao:Option Addr}{m c:Nat}(h:Sl D 1 l.length (.slice ao m c) (l.map bv))(hn:n≤l.length):
  m=l.length∧l.length≤c∧Sl D 1 n (.slice ao n n) ((l.take n).map bv)∧(0<c→∃g o,ao=some ⟨g,o,none⟩∧∀ao',(n<c→ao'=some ⟨g,o+n,none⟩)→(n=c→∃g' o',ao'=some ⟨g',o',none⟩)→Sl D 1 (l.length-n) (.slice ao' (l.length-n) (c-n)) ((l.drop n).map bv))∧(c=0→l= []):=by
 obtain⟨ao0,c0,e,h0,h1,h2,h3,h4⟩:=h;injection e with e1 e2 e3
 subst e1;subst e2;subst e3
 refine⟨rfl,h0,⟨ao,n,rfl,Nat.le_refl _,by rw [List.length_map,List.length_take];omega,?_,?_,?_⟩,fun hc=> ?_,fun hc=>List.length_eq_zero_iff.1 (by omega)⟩
 ·intro e
  have:=h2 e;omega
 ·intro a ha hn0
  exact h3 a ha (by omega)
 ·intro hn0 a ha
  have h5:=h4 (by omega) a ha;have h6:=ir h5 (i:=0) (m:=n*1) (by omega);rw [Nat.add_zero,List.drop_zero,←List.map_take,Nat.mul_one]at h6;rw [Nat.mul_one];exact h6
 ·obtain⟨⟨g,o,sp⟩,rfl⟩:∃a,ao=some a:=by
    cases ao with
    |none=>have:=h2 rfl;omega
    |some a=>exact⟨a,rfl⟩
  have hsp:=h3 _ rfl hc;simp only at hsp;subst hsp;refine⟨g,o,rfl,fun ao' k1 k2=> ?_⟩;refine⟨ao',c-n,rfl,by omega,by rw [List.length_map,List.length_drop];omega,fun e=> ?_,fun a ha hc'=> ?_,fun hpos a ha=> ?_⟩
  ·by_cases hlt:n<c
   ·rw [k1 hlt]at e;cases e
   ·obtain⟨g',o',e'⟩:=k2 (by omega)
    rw [e']at e;cases e
  ·rw [k1 (by omega)]at ha
   injection ha with ha
   subst ha;rfl
  ·rw [k1 (by omega)]at ha
   injection ha with ha
   subst ha;have h5:=h4 (by omega) _ rfl;have h6:=ir h5 (i:=n) (m:=(l.length-n)*1) (by omega);rw [←List.map_drop,List.take_of_length_le (by rw [List.length_map,List.length_drop];omega)]at h6;exact h6
def jS(l:List UInt8):Nat:=(l.getD 0 0).toNat+(l.getD 1 0).toNat*256+(l.getD 2 0).toNat*65536+(l.getD 3 0).toNat*16777216
theorem numL_lt(l:List UInt8):jS l<4294967296:=by
 unfold jS;have h0:=(l.getD 0 0).toNat_lt;have h1:=(l.getD 1 0).toNat_lt;have h2:=(l.getD 2 0).toNat_lt;have h3:=(l.getD 3 0).toNat_lt;omega
def il(l:List UInt8):Option (List UInt8×Nat):=
 if l.length<8∨1048576<jS l∨l.length<8+jS l∨(fM ((l.drop 8).take (jS l))).toNat≠jS (l.drop 4)then none else some ((l.drop 8).take (jS l),8+jS l)
theorem Sl.part{A:aa}{l:List UInt8}{g o c lo hi:Nat}(h:Sl A 1 l.length (.slice (some ⟨g,o,none⟩) l.length c) (l.map bv))(h1:lo≤hi)(h2:hi≤l.length):
  Sl A 1 (hi-lo) (.slice (some ⟨g,o+(bif c.beq lo then 0 else lo*1),none⟩) (hi-lo) (c-lo)) (((l.drop lo).take (hi-lo)).map bv):=by
 obtain⟨ao0,c0,e,k0,k1,k2,k3,k4⟩:=h;injection e with e1 e2 e3
 subst e1;subst e3
 refine⟨_,_,rfl,by omega,by rw [List.length_map,List.length_take,List.length_drop];omega,fun e=>(by cases e),fun a ha _=>(by injection ha with ha;subst ha;rfl),fun hpos a ha=> ?_⟩;injection ha with ha
 subst ha;have h5:=k4 (by omega) _ rfl;have h6:=ir h5 (i:=lo) (m:=(hi-lo)*1) (by omega);rw [tL (show c≠lo by omega)];show A.rd g (o+lo*1) ((hi-lo)*1)=_
 rw [Nat.mul_one lo,h6,←List.map_drop,←List.map_take,Nat.mul_one]
theorem tG{a b k:Nat}(ha:a<2^k)(h:a+b*2^k<4294967296):bitsOf .or .u32 (a:Int) ((b*2^k:Nat):Int)=((a+b*2^k:Nat):Int):=by
 show IntKind.u32.wrap (((BitVec.ofInt 32 ((a:Nat):Int)|||BitVec.ofInt 32 ((b*2^k:Nat):Int)).toNat:Nat):Int)=_
 rw [BitVec.ofInt_natCast,BitVec.ofInt_natCast,BitVec.toNat_or,BitVec.toNat_ofNat,BitVec.toNat_ofNat,Nat.mod_eq_of_lt (by omega),Nat.mod_eq_of_lt (by omega)]
 have hor:a|||b*2^k=a+b*2^k:=by
  rw [Nat.or_comm,←Nat.shiftLeft_eq,←Nat.shiftLeft_add_eq_or_of_lt ha,Nat.add_comm]
 rw [hor,fS h]
theorem tk{x k:Nat}(hx:x<256)(hk:k≤24):IntKind.u32.wrap (IntKind.u32.wrap (x:Int)*2^(min (k:Int).toNat IntKind.u32.bits))=((x*2^k:Nat):Int):=by
 have e:min (k:Int).toNat IntKind.u32.bits=k:=by
  show min k 32=k
  omega
 have h2:2^k≤2^24:=Nat.pow_le_pow_right (by decide) hk;have h3:x*2^k≤255*2^24:=Nat.mul_le_mul (by omega) h2;have h4:255*2^24<4294967296:=by decide
 have hz:((x:Int)*2^k)=((x*2^k:Nat):Int):=by push_cast;rfl
 rw [e,fS (by omega),hz,fS (by omega)]
theorem num_or{a b c d:Nat}(ha:a<256)(hb:b<256)(hc:c<256)(hd:d<256):
  bitsOf .or .u32 (bitsOf .or .u32 (bitsOf .or .u32 (IntKind.u32.wrap (a:Int)) (IntKind.u32.wrap (IntKind.u32.wrap (b:Int)*2^(min (8:Int).toNat IntKind.u32.bits)))) (IntKind.u32.wrap (IntKind.u32.wrap (c:Int)*2^(min (16:Int).toNat IntKind.u32.bits)))) (IntKind.u32.wrap (IntKind.u32.wrap (d:Int)*2^(min (24:Int).toNat IntKind.u32.bits)))=
   ((a+b*256+c*65536+d*16777216:Nat):Int):=by
 have e1:=tk (k:=8) hb (by decide);have e2:=tk (k:=16) hc (by decide);have e3:=tk (k:=24) hd (by decide);rw [show(8:Int)=((8:Nat):Int)from rfl,show(16:Int)=((16:Nat):Int)from rfl,show(24:Int)=((24:Nat):Int)from rfl,e1,e2,e3,fS (by omega),tG (k:=8) ha (by omega),tG (k:=16) (by omega) (by omega),tG (k:=24) (by omega) (by omega)]
theorem uF{a:BitVec 32}{n:Nat} :dn a=((n:Nat):Int)↔a.toNat=n:=by
 unfold dn;omega
def pIs:Nat→bt→bt
 |0,s=>s
 |k+1,s=>(bA (pIs k s)).2
def pI(k:Nat)(s:bt):Int:=(bA (pIs k s)).1
def xU(p d:List UInt8)(s:bt):aO:=⟨⟨p.toArray⟩,d,⟨pI 0 s,pI 1 s,pI 2 s,pI 3 s,pI 4 s,pI 5 s,pI 6 s,pI 7 s,d.length,0⟩⟩
def gO(s:bt):aO×bt:=(xU (aZ 200 s).1 (aZ 1000 (aZ 200 s).2).1 (aZ 1000 (aZ 200 s).2).2,pIs 8 (aZ 1000 (aZ 200 s).2).2)
def bh:Nat→bt→List aO×bt
 |0,s=>([],s)
 |k+1,s=>((bh k s).1++ [(gO (bh k s).2).1],(gO (bh k s).2).2)
def tF(s:bt):bn×bt:=(⟨pI 0 s,pI 1 s,pI 2 s⟩,pIs 3 s)
def bO:Nat→bt→List bn×bt
 |0,s=>([],s)
 |k+1,s=>((bO k s).1++ [(tF (bO k s).2).1],(tF (bO k s).2).2)
def mh(ns:List aO)(ss:List bn)(s:bt):Option (List aO×List bn×Int×List bC×Int×Int):=match nS (aZ 1048576 s).1 with
 |none=>none
 |some (ver,ms)=>if pIs 2 (aZ 1048576 s).2=some []∧fP ns ss ver ms (pI 0 (aZ 1048576 s).2) (pI 1 (aZ 1048576 s).2)then some (ns,ss,ver,ms,pI 0 (aZ 1048576 s).2,pI 1 (aZ 1048576 s).2)else none
def jZ(ns:List aO)(s:bt):=mh ns (bO (ah 200 s).1.toNat (ah 200 s).2).1 (bO (ah 200 s).1.toNat (ah 200 s).2).2
def eX(s:bt):=jZ (bh (ah 500 s).1.toNat (ah 500 s).2).1 (bh (ah 500 s).1.toNat (ah 500 s).2).2
def ja(l:List UInt8):Option (List aO×List bn×Int×List bC×Int×Int):=match il l with
 |none=>none
 |some (p,n)=>if n=l.length∧(dL (some p)).1=1 then eX (dL (some p)).2 else none
theorem mG:∀k,pIs k none=none
 |0=>rfl
 |k+1=>by
  show(bA (pIs k none)).2=none
  rw [mG k];rfl
theorem kp{most:Int}(h:0≤most):aZ most none=([],none):=by
 unfold aZ;rw [eN h]
theorem xN:(gO none).2=none:=by
 show pIs 8 (aZ 1000 (aZ 200 none).2).2=none
 rw [kp (by decide:(0:Int)≤200)];show pIs 8 (aZ 1000 none).2=none
 rw [kp (by decide:(0:Int)≤1000)];exact mG 8
theorem oH:∀k,(bh k none).2=none
 |0=>rfl
 |k+1=>by
  show(gO (bh k none).2).2=none
  rw [oH k,xN]
theorem qt(s:bt)(j:Nat):∀k,(bh (j+k) s).2=(bh k (bh j s).2).2
 |0=>rfl
 |k+1=>by
  show(gO (bh (j+k) s).2).2=(gO (bh k (bh j s).2).2).2
  rw [qt s j k]
theorem xM{s:bt}{j n:Nat}(h:(bh j s).2=none)(hj:j≤n):(bh n s).2=none:=by
 rw [show n=j+(n-j)by omega,qt,h,oH]
theorem qp:∀k,(bO k none).2=none
 |0=>rfl
 |k+1=>by
  show pIs 3 (bO k none).2=none
  rw [qp k,mG]
theorem sn(s:bt)(j:Nat):∀k,(bO (j+k) s).2=(bO k (bO j s).2).2
 |0=>rfl
 |k+1=>by
  show pIs 3 (bO (j+k) s).2=pIs 3 (bO k (bO j s).2).2
  rw [sn s j k]
theorem AP{s:bt}{j n:Nat}(h:(bO j s).2=none)(hj:j≤n):(bO n s).2=none:=by
 rw [show n=j+(n-j)by omega,sn,h,qp]
theorem pP(ns:List aO)(ss:List bn):mh ns ss none=none:=by
 unfold mh;rw [kp (by decide:(0:Int)≤1048576),mG]
 split
 ·rfl
 ·rw [if_neg (by rintro⟨h,_⟩;cases h)]
theorem xq(ns:List aO):jZ ns none=none:=by
 unfold jZ;rw [eN (by decide:(0:Int)≤200)];exact pP _ _
theorem Ao(ns:List aO){s:bt}{j:Nat}(h:(bO j (ah 200 s).2).2=none)(hj:j≤(ah 200 s).1.toNat):jZ ns s=none:=by
 unfold jZ;rw [AP h hj];exact pP _ _
theorem xT{s:bt}{j:Nat}(h:(bh j (ah 500 s).2).2=none)(hj:j≤(ah 500 s).1.toNat):eX s=none:=by
 unfold eX;rw [xM h hj];exact xq _
theorem qs(s:bt):∀k,(bh k s).1.length=k
 |0=>rfl
 |k+1=>by
  show((bh k s).1++ [_]).length=k+1
  rw [List.length_append,qs s k];rfl
theorem sj(s:bt):∀k,(bO k s).1.length=k
 |0=>rfl
 |k+1=>by
  show((bO k s).1++ [_]).length=k+1
  rw [List.length_append,sj s k];rfl
theorem bX(s:bt):∀k,bd (pIs k s)≤bd s
 |0=>Nat.le_refl _
 |k+1=>Nat.le_trans (qu _) (bX s k)
theorem vn(s:bt):bd (gO s).2≤bd s:=by
 have h1:=(gG 200 s).1;have h2:=(gG 1000 (aZ 200 s).2).1;have h3:=bX (aZ 1000 (aZ 200 s).2).2 8;show bd (pIs 8 (aZ 1000 (aZ 200 s).2).2)≤_
 omega
theorem mD(s:bt):∀k,bd (bh k s).2≤bd s
 |0=>Nat.le_refl _
 |k+1=>Nat.le_trans (vn _) (mD s k)
theorem oG(s:bt):∀k,bd (bO k s).2≤bd s
 |0=>Nat.le_refl _
 |k+1=>Nat.le_trans (bX _ 3) (oG s k)
theorem kn{most:Int}(hm:0≤most)(s:bt):((aZ most s).1.length:Int)≤most:=by
 have h:=ej (s:=s) hm;unfold aZ
 split
 ·exact hm
 ·split
  ·show(((List.take _ _).length:Nat):Int)≤most
   rw [List.length_take];omega
  ·exact hm
theorem mE(s:bt):∀k,∀x∈(bh k s).1,x.path.data.toList.length≤200
 |0,x,hx=>by cases hx
 |k+1,x,hx=>by
  rcases List.mem_append.1 hx with hx|hx
  ·exact mE s k x hx
  ·rw [List.mem_singleton]at hx
   subst hx;have:=kn (most:=200) (by decide) (bh k s).2;show(aZ 200 (bh k s).2).1.length≤200
   omega
theorem mod8(n:Nat):n%256<UInt8.size:=Nat.mod_lt _ (by decide)
theorem sr{n:Nat}(h:n<4294967296)(r:List UInt8):jS (iy n++r)=n:=by
 show(UInt8.ofNat (n%256)).toNat+(UInt8.ofNat (n/256%256)).toNat*256+(UInt8.ofNat (n/65536%256)).toNat*65536+(UInt8.ofNat (n/16777216%256)).toNat*16777216=n
 rw [UInt8.toNat_ofNat_of_lt' (mod8 _),UInt8.toNat_ofNat_of_lt' (mod8 _),UInt8.toNat_ofNat_of_lt' (mod8 _),UInt8.toNat_ofNat_of_lt' (mod8 _)];omega
theorem sI(n:Nat):(iy n).length=4:=rfl
theorem jA(p:List UInt8):(de p).length=8+p.length:=by
 unfold de;rw [List.length_append,List.length_append,sI,sI]
theorem wW{p:List UInt8}(hp:p.length≤1048576):il (de p)=some (p,8+p.length):=by
 have e1:jS (de p)=p.length:=by
  unfold de;rw [List.append_assoc,sr (by omega)]
 have e2:(de p).drop 4=iy (fM p).toNat++p:=rfl;have e3:(de p).drop 8=p:=rfl;unfold il;rw [e1,e2,e3,List.take_of_length_le (Nat.le_refl _),jA,sr (fM p).isLt,if_neg]
 rintro(h|h|h|h)
 ·omega
 ·omega
 ·omega
 ·exact h rfl
theorem gP{most:Int}{n:Nat}(h:(n:Int)≤most)(hm:most≤9223372036854775807)(r:List UInt8):ah most (some (ab n++r))=((n:Int),some r):=by
 unfold ah;rw [mH (by omega) (by omega)];exact if_neg (by show ¬((n:Int)<0∨most<(n:Int));omega)
theorem nB{most:Int}{l:List UInt8}(h:(l.length:Int)≤most)(hm:most≤9223372036854775807)(r:List UInt8):aZ most (some (ab l.length++l++r))=(l,some r):=by
 unfold aZ;rw [List.append_assoc,gP h hm];show(if (l.length:Int).toNat≤(l++r).length then _ else _)=_
 rw [Int.toNat_natCast,if_pos (by rw [List.length_append];omega),List.take_left,List.drop_left]
theorem mF:∀(zs:List Int) (_:∀a∈zs,I64 a) (r:List UInt8) (k:Nat),k≤zs.length→pIs k (some (zs.flatMap ab++r))=some ((zs.drop k).flatMap ab++r)
 |_,_,_,0,_=>rfl
 |zs,ha,r,k+1,hk=>by
  show(bA (pIs k (some (zs.flatMap ab++r)))).2=_
  rw [mF zs ha r k (by omega),List.drop_eq_getElem_cons (by omega:k<zs.length),List.flatMap_cons,List.append_assoc];have h:=ha zs[k] (List.getElem_mem _);rw [mH h.1 h.2]
theorem fE{zs:List Int}(ha:∀a∈zs,I64 a)(r:List UInt8){k:Nat}(hk:k<zs.length):pI k (some (zs.flatMap ab++r))=zs[k]:=by
 show(bA (pIs k (some (zs.flatMap ab++r)))).1=_
 rw [mF zs ha r k (by omega),List.drop_eq_getElem_cons hk,List.flatMap_cons,List.append_assoc];have h:=ha zs[k] (List.getElem_mem _);rw [mH h.1 h.2]
def dx(x:aO):aO:=⟨x.path,x.data,⟨x.stat.czxid,x.stat.mzxid,x.stat.pzxid,x.stat.ctime,x.stat.mtime,x.stat.ver,x.stat.cver,x.stat.owner,x.data.length,0⟩⟩
def rR(s:ec):List Int:= [s.czxid,s.mzxid,s.pzxid,s.ctime,s.mtime,s.ver,s.cver,s.owner]
theorem Cz(s:ec):zb s=(rR s).flatMap ab:=by
 simp [zb,rR,List.flatMap_cons]
theorem AQ{x:aO}(hf:bM x)(hi:fh x.stat)(r:List UInt8):gO (some (fp x++r))=(dx x,some r):=by
 have h1:=gN hf.1;have h2:=hf.2.1
 have hs:∀a∈rR x.stat,I64 a:=by
  obtain⟨a1,a2,a3,a4,a5,a6,a7,a8⟩:=hi;intro a ha;simp only [rR,List.mem_cons,List.not_mem_nil,or_false]at ha;rcases ha with rfl|rfl|rfl|rfl|rfl|rfl|rfl|rfl<;>assumption
 have e:fp x++r=ab (x.path.data.toList.length:Nat)++x.path.data.toList++(ab (x.data.length:Nat)++x.data++((rR x.stat).flatMap ab++r)):=by
  unfold fp;rw [Cz];simp only [List.append_assoc]
 have t1:aZ 200 (some (fp x++r))=(x.path.data.toList,some (ab (x.data.length:Nat)++x.data++((rR x.stat).flatMap ab++r))):=by
  rw [e];exact nB (by omega) (by decide) _
 unfold gO;rw [t1];dsimp only;rw [nB (by omega) (by decide)];dsimp only;rw [mF _ hs r 8 (Nat.le_refl _)];unfold xU;rw [fE hs r (k:=0) (by show 0<8;omega),fE hs r (k:=1) (by show 1<8;omega),fE hs r (k:=2) (by show 2<8;omega),fE hs r (k:=3) (by show 3<8;omega),fE hs r (k:=4) (by show 4<8;omega),fE hs r (k:=5) (by show 5<8;omega),fE hs r (k:=6) (by show 6<8;omega),fE hs r (k:=7) (by show 7<8;omega)];rfl
theorem qq{l:List aO}(hf:∀x∈l,bM x∧fh x.stat)(r:List UInt8):∀k,k≤l.length→bh k (some (l.flatMap fp++r))=((l.take k).map dx,some ((l.drop k).flatMap fp++r))
 |0,_=>rfl
 |k+1,hk=>by
  have ih:=qq hf r k (by omega);show((bh k _).1++ [(gO (bh k _).2).1],(gO (bh k _).2).2)=_
  have h:=hf l[k] (List.getElem_mem _);rw [ih];dsimp only;rw [List.drop_eq_getElem_cons (by omega:k<l.length),List.flatMap_cons,List.append_assoc,AQ h.1 h.2,List.take_succ_eq_append_getElem (by omega),List.map_append];rfl
theorem Dm{s:bn}(h:na s)(r:List UInt8):tF (some (j0 s++r))=(s,some r):=by
 have hs:∀a∈ [s.ses,s.tmo,s.turn],I64 a:=by
  obtain⟨a1,a2,a3⟩:=h;intro a ha;simp only [List.mem_cons,List.not_mem_nil,or_false]at ha;rcases ha with rfl|rfl|rfl<;>assumption
 have e:j0 s++r= [s.ses,s.tmo,s.turn].flatMap ab++r:=by
  simp [j0,List.flatMap_cons]
 unfold tF;rw [e,fE hs r (k:=0) (by show 0<3;omega),fE hs r (k:=1) (by show 1<3;omega),fE hs r (k:=2) (by show 2<3;omega),mF _ hs r 3 (Nat.le_refl _)];rfl
theorem si{l:List bn}(hf:∀x∈l,na x)(r:List UInt8):∀k,k≤l.length→bO k (some (l.flatMap j0++r))=(l.take k,some ((l.drop k).flatMap j0++r))
 |0,_=>rfl
 |k+1,hk=>by
  have ih:=si hf r k (by omega);show((bO k _).1++ [(tF (bO k _).2).1],(tF (bO k _).2).2)=_
  have h:=hf l[k] (List.getElem_mem _);rw [ih];dsimp only;rw [List.drop_eq_getElem_cons (by omega:k<l.length),List.flatMap_cons,List.append_assoc,Dm h,List.take_succ_eq_append_getElem (by omega)]
theorem iv{most n:Int}(h0:0≤n)(h:n≤most)(hm:most≤9223372036854775807)(r:List UInt8):ah most (some (ab n++r))=(n,some r):=by
 obtain⟨k,rfl⟩:∃k:Nat,n=k:=⟨n.toNat,by omega⟩;exact gP h hm r
theorem Dn{m:bC}(h:wR m)(r:List UInt8):nC (some (ky m++r))=(m,some r):=by
 obtain⟨h1,h2,h3,h4,h5,h6,h7,h8⟩:=h
 have e:ky m++r=ab m.id++(ab m.role++(ab m.weight++(ab m.group++r))):=by
  unfold ky;simp only [List.append_assoc]
 unfold nC;rw [e,iv h1 h2 (by decide)];dsimp only;rw [iv h3 h4 (by decide)];dsimp only;rw [iv h5 h6 (by decide)];dsimp only;rw [iv h7 h8 (by decide)]
theorem so{l:List bC}(hf:∀x∈l,wR x)(r:List UInt8):∀k,k≤l.length→bP k (some (l.flatMap ky++r))=(l.take k,some ((l.drop k).flatMap ky++r))
 |0,_=>rfl
 |k+1,hk=>by
  have ih:=so hf r k (by omega);show((bP k _).1++ [(nC (bP k _).2).1],(nC (bP k _).2).2)=_
  have h:=hf l[k] (List.getElem_mem _);rw [ih];dsimp only;rw [List.drop_eq_getElem_cons (by omega:k<l.length),List.flatMap_cons,List.append_assoc,Dn h,List.take_succ_eq_append_getElem (by omega)]
theorem D7{ver:Int}{ms:List bC}(h:fL ver ms=0):nS (dJ ver ms)=some (ver,ms):=by
 obtain⟨h1,h2,h3,h4⟩:=yx h
 have e:dJ ver ms=ab ver++(ab (ms.length:Nat)++(ms.flatMap ky++ [])):=by
  unfold dJ;simp only [List.append_assoc,List.append_nil]
 have a1:bA (some (dJ ver ms))=(ver,some (ab (ms.length:Nat)++(ms.flatMap ky++ []))):=by
  rw [e];exact mH (by omega) (by omega) _
 have a2:=gP (most:=7) (n:=ms.length) (by omega) (by decide) (ms.flatMap ky++ []);have a3:=so h4 [] ms.length (Nat.le_refl _);rw [List.take_length,List.drop_length]at a3;unfold nS;rw [a1];dsimp only;rw [a2];dsimp only;rw [Int.toNat_natCast,a3];exact if_pos ⟨rfl,h⟩
theorem xR{x:aO}(h:bM x):bM (dx x):=by
 obtain⟨h1,h2,a1,a2,a3,a4,a5,a6,a7,a8, -, -⟩:=h;exact⟨h1,h2,a1,a2,a3,a4,a5,a6,a7,a8,Int.natCast_nonneg _,Int.le_refl 0⟩
theorem lK{l:List aO}{ss:List bn}{ver:Int}{ms:List bC}{f t:Int}(h:fP l ss ver ms f t):fP (l.map dx) ss ver ms f t:=by
 obtain⟨⟨h1,x,hx,hr⟩,h2⟩:=h;refine⟨⟨fun i hi=> ?_,dx x,?_,hr⟩,by rw [List.length_map];exact h2⟩
 ·rw [List.length_map]at hi
  obtain⟨k1,k2⟩:=h1 i hi;refine⟨?_,fun h0=> ?_⟩
  ·rw [List.getElem_map]
   exact xR k1
  ·rw [List.getElem_map,List.getElem_map]
   exact k2 h0
 ·rw [List.head?_map,hx]
  rfl
theorem getI_of{l p r:List UInt8}{n:Nat}(h:il l=some (p,n))(hn:n=l.length)(hb:dL (some p)=(1,some r)):ja l=eX (some r):=by
 unfold ja;rw [h];show(if n=l.length∧(dL (some p)).1=1 then eX (dL (some p)).2 else none)=_
 rw [hb];exact if_pos ⟨hn,rfl⟩
theorem D6{R:List UInt8}(h:(1::R).length≤1048576):ja (de (1::R))=eX (some R):=getI_of (wW h) (jA _).symm rfl
theorem DR(l:List aO)(ss:List bn)(ver:Int)(ms:List bC)(f t:Int):ew l ss ver ms f t=1::(ab (l.length:Nat)++(l.flatMap fp++(ab (ss.length:Nat)++(ss.flatMap j0++(ab ((dJ ver ms).length:Nat)++dJ ver ms++([f,t].flatMap ab++ [])))))):=by
 unfold ew;simp only [List.flatMap_cons,List.flatMap_nil,List.append_nil,List.append_assoc,List.cons_append,List.nil_append]
theorem Ah{ns:List aO}{ss:List bn}{ver:Int}{ms:List bC}{f t:Int}(h:fP ns ss ver ms f t)(hf:I64 f)(ht:I64 t)(hel:(dJ ver ms).length≤1048576):
  mh ns ss (some (ab ((dJ ver ms).length:Nat)++dJ ver ms++([f,t].flatMap ab++ [])))=some (ns,ss,ver,ms,f,t):=by
 have h2:∀a∈ [f,t],I64 a:=by
  intro a ha;simp only [List.mem_cons,List.not_mem_nil,or_false]at ha;rcases ha with rfl|rfl<;>assumption
 have hE:=h.2.2.2.1;unfold mh;rw [nB (by omega) (by decide)];dsimp only;rw [D7 hE];dsimp only;rw [fE h2 [] (k:=0) (by show 0<2;omega),fE h2 [] (k:=1) (by show 1<2;omega),mF _ h2 [] 2 (Nat.le_refl _)];exact if_pos ⟨rfl,h⟩
theorem An{ns:List aO}{ss:List bn}(hs:∀s∈ss,na s)(h:ss.length≤200)(r:List UInt8):jZ ns (some (ab (ss.length:Nat)++(ss.flatMap j0++r)))=mh ns ss (some r):=by
 unfold jZ;rw [gP (by omega) (by decide)];dsimp only;rw [Int.toNat_natCast,si hs _ ss.length (Nat.le_refl _),List.take_length,List.drop_length];rfl
theorem xS{l:List aO}(hl:∀x∈l,bM x∧fh x.stat)(h:l.length≤500)(r:List UInt8):eX (some (ab (l.length:Nat)++(l.flatMap fp++r)))=jZ (l.map dx) (some r):=by
 unfold eX;rw [gP (by omega) (by decide)];dsimp only;rw [Int.toNat_natCast,qq hl _ l.length (Nat.le_refl _),List.take_length,List.drop_length];rfl
theorem vU{l:List aO}{ss:List bn}{ver:Int}{ms:List bC}{f t:Int}(h:fP l ss ver ms f t)(hl:∀x∈l,fh x.stat)(hs:∀s∈ss,na s)(hf:I64 f)(ht:I64 t)(hlen:(ew l ss ver ms f t).length≤1048576):
  ja (de (ew l ss ver ms f t))=some (l.map dx,ss,ver,ms,f,t):=by
 have hfit:=p6 h;have hn:=lK h;have e:=DR l ss ver ms f t
 have hel:(dJ ver ms).length≤1048576:=by
  rw [e]at hlen;simp only [List.length_cons,List.length_append]at hlen;omega
 rw [e]at hlen ⊢;rw [D6 hlen,xS (fun x hx=>⟨hfit x hx,hl x hx⟩) h.2.1,An hs h.2.2.1,Ah hn hf ht hel]
theorem rS:∀ {l:List bn} {last:Int},(∀x∈l,last<x.ses∧0≤x.tmo∧0≤x.turn)→(l.Pairwise fun a b=>a.ses<b.ses)→dT last l=true
 | [],_,_,_=>rfl
 |s::l,last,h,hp=>by
  have h1:=h s (by simp);rw [List.pairwise_cons]at hp;unfold dT;rw [if_pos h1];exact rS (fun x hx=>⟨hp.1 x hx,(h x (List.mem_cons_of_mem _ hx)).2⟩) hp.2
theorem sits_ok{T:aF}(h:jh T)(hi:gY T):dT 0 (ak T)=true:=by
 refine rS (fun x hx=> ?_) (Am h.ok.nd);have h1:=pX h.ok.nd h.ok.iq hi x hx;have h2:=(h.ok.ses x.ses x (uP h.ok.nd h.ok.iq hx)).2;exact⟨by omega,h1.2.1,h1.2.2⟩
def bY:List bC:= [⟨1,1,1,0⟩]
theorem one_ens:fL 0 bY=0:=by decide+kernel
theorem pM{T:aF}(h:jh T)(hi:gY T)(hn:(aJ T).length≤500)(hs:(ak T).length≤200){f t:Int}(hf:0≤f)(ht:f≤t):fP (aJ T) (ak T) 0 bY f t:=
 ⟨DO (tS h),hn,hs,one_ens,hf,ht,sits_ok h hi⟩
theorem vq(q:ByteArray):∀l:List aO,(aG q ((l.map dx).map fun x=>(x.path,(⟨x.data,x.stat⟩:aX)))).map erN=(aG q (l.map fun x=>(x.path,(⟨x.data,x.stat⟩:aX)))).map erN
 | []=>rfl
 |x::l=>by
  have ih:=vq q l;rw [List.map_cons,List.map_cons,List.map_cons];unfold aG;show(bif q==x.path then some _ else _:Option aX).map erN=(bif q==x.path then some _ else _:Option aX).map erN
  cases q==x.path
  ·exact ih
  ·rfl
theorem xQ(l:List aO):(l.map dx).map (·.path)=l.map (·.path):=by
 rw [List.map_map];rfl
theorem yf{l:List aO}(hn:(l.map (·.path)).Nodup)(q:ByteArray):(aG q (cw (l.map dx))).map erN=(aG q (cw l)).map erN:=by
 rw [nG (by rw [xQ];exact hn),nG hn,vq]
theorem vo{T:aF}(h:jh T):Cf T ⟨cw ((aJ T).map dx),bz (ak T)⟩:=
 ⟨fun q=>((yf (og h.ok.nd) q).trans (vC h.ok.nd q)).symm,(yb h).2⟩
def rE(A1 A:aa)(g:Option Nat):aa:=aa.of fun j=>if A1.blk j=none∧g≠some j then A.blk j else none
theorem mI{A1 A:aa}{g:Option Nat}{j:Nat}{o:Obj}(h:(rE A1 A g).blk j=some o):A1.blk j=none∧g≠some j∧A.blk j=some o:=by
 have h:(if A1.blk j=none∧g≠some j then A.blk j else none)=some o:=h
 split at h
 ·rename_i h1
  exact⟨h1.1,h1.2,h⟩
 ·cases h
theorem pk{A1 A:aa}{g:Option Nat}{j:Nat}{o:Obj}(h1:A1.blk j=none)(h2:g≠some j)(h3:A.blk j=some o):(rE A1 A g).blk j=some o:=by
 show(if A1.blk j=none∧g≠some j then A.blk j else none)=some o
 rw [if_pos ⟨h1,h2⟩];exact h3
structure dO(A1 A:aa)(L:LsD)(xs:List (aO×Value)):Prop where
 row:LsR A 12 94 L (xs.flatMap cV)
 new:∀g,L.g=some g→A1.blk g=none
 dat:∀x∈xs,SlB (rE A1 A L.g) x.2 x.1.data
theorem dO.nil(A1 A:aa):dO A1 A ⟨.slice none 0 0,0,0,none⟩ []:=⟨.inl ⟨rfl,rfl,rfl,rfl,none,rfl⟩,fun _ h=>(by cases h),fun _ h=>(by cases h)⟩
theorem dO.ck{A1 A A':aa}{L:LsD}{xs:List (aO×Value)}{r:Nat}(h:dO A1 A L xs)(hk:aB A A' r)(hr:A1.blk r≠none):dO A1 A' L xs:=
 ⟨h.row.ck fun g o hg ho=>hk g o ho fun e=>hr (by rw [←e];exact h.new g hg),h.new,fun x hx=>(h.dat x hx).sub fun j o hj=>by
   obtain⟨h1,h2,h3⟩:=mI hj
   exact pk h1 h2 (hk j o h3 fun e=>hr (by rw [←e];exact h1))⟩
theorem dat_new{A1 A A':aa}{g:Option Nat}{v:Value}{d:List UInt8}(h:SlB (A'.minus A) v d)(h1:∀j,A.blk j=none→A1.blk j=none)(h2:∀j,g=some j→∃o,A.blk j=some o):SlB (rE A1 A' g) v d:=
 h.sub fun j o hj=>by
  obtain⟨k1,k2⟩:=cj hj;refine pk (h1 j k1) (fun e=> ?_) k2;obtain⟨o',ho⟩:=h2 j e;rw [k1]at ho;cases ho
theorem wo{A1 A A':aa}{g:Option Nat}{v:Value}{d:List UInt8}{r:Nat}(h:SlB (rE A1 A g) v d)(hk:aB A A' r)(hr:A1.blk r≠none):SlB (rE A1 A' g) v d:=
 h.sub fun j o hj=>by
  obtain⟨k1,k2,k3⟩:=mI hj;exact pk k1 k2 (hk j o k3 fun e=>hr (by rw [←e];exact k1))
theorem dO.more{A1 A A':aa}{L L':LsD}{xs:List (aO×Value)}{x:aO×Value}(h:dO A1 A L xs)(hx:SlB (rE A1 A L.g) x.2 x.1.data)(h1:∀j,A.blk j=none→A1.blk j=none)
  (q3:LsR A' 12 94 L' (xs.flatMap cV++cV x)) (q4:∀g,L'.g=some g→L.g=some g∨A.blk g=none) (q5:∀k o,A.blk k=some o→L.g≠some k→A'.blk k=some o):dO A1 A' L' (xs++ [x]):=by
 have hup:∀j o,(rE A1 A L.g).blk j=some o→(rE A1 A' L'.g).blk j=some o:=fun j o hj=>by
  obtain⟨k1,k2,k3⟩:=mI hj;refine pk k1 (fun e=> ?_) (q5 j o k3 k2);rcases q4 j e with h|h
  ·exact k2 h
  ·rw [k3]at h;cases h
 refine⟨?_,fun g hg=>(q4 g hg).elim (h.new g) (h1 g),fun y hy=> ?_⟩
 ·rw [List.flatMap_append]
  simpa using q3
 ·rcases List.mem_append.1 hy with hy|hy
  ·exact(h.dat y hy).sub hup
  ·rw [List.mem_singleton]at hy
   subst hy;exact hx.sub hup
theorem dO.nodes{A0 A1 A:aa}{L:LsD}{xs:List (aO×Value)}(h:dO A1 A L xs)(h0:∀j,A1.blk j=none→A0.blk j=none):eL (A.minus A0) L.v xs:=by
 refine⟨?_,fun x hx=>(h.dat x hx).sub fun j o hj=> ?_⟩
 ·have hn:=h.row.len
  rcases h.row with⟨h1,h2,h3,h4,base,h5⟩|⟨g,h1,h2,h3,h4⟩
  ·have hx0:xs= []:=by
     cases xs with
     |nil=>rfl
     |cons x xs=>rw [List.flatMap_cons]at h4;cases h4
   subst hx0;rw [h5];exact Sl.zero _ _ (fun _=>rfl) fun _ _ h=>absurd h (Nat.lt_irrefl _)
  ·have hl:L.n=xs.length:=by
     have:=Ec cV 12 (fun _=>rfl) xs;omega
   rw [h2];have h9:Sl (A.minus A0) 12 L.n (.slice (some ⟨g,0,none⟩) L.n L.c) (xs.flatMap cV):=Sl.row h4.le (iU h4.rd (h0 g (h.new g h1)));rw [hl]at h9 ⊢;exact h9
 ·obtain⟨k1,k2,k3⟩:=mI hj
  exact ku (h0 j k1) k3
def aH:bt→Bool:=fun st=>st.isSome
structure RxG where
 r:Nat
 st:bt
 B:aa
def bJ(n:Int):bt→List UInt8×bt
 |none=>([],none)
 |some l=>if 0≤n∧n≤l.length then(l.take n.toNat,some (l.drop n.toNat))else([],none)
def pF:aY:=⟨RxG,fun g vs A=>vs= [.pointer (some ⟨g.r,0,none⟩)]∧RdG aH g.B A g.r g.st,fun g _ A v A'=>v= .tuple #[]∧aB A A' g.r∧RdG aH g.B A' g.r none⟩
theorem pE:FOk Tryz.prog 268 pF:=by
 refine bG mixed fun⟨r,st,Dr⟩ vs A hp=> ?_
 obtain⟨rfl,hR⟩:vs= [.pointer (some ⟨r,0,none⟩)]∧RdG aH Dr A r st:=hp;refine⟨noC,noL,60,aA _,az _,fun blk os out tape D hD=> ?_⟩;obtain⟨v,htop,hDs,hDr,hSl,hnil⟩:=hR;conv=>lhs;whnf
 refine(hD _).2 ⟨htop.room (by show 1+1≤2;omega),fun A1 hP1=> ?_⟩;have hP1:A.Put A1 r 1 [.bool false]:=hP1;have t1:aE A1 r [v,.bool false]:=htop.put hP1 (by show 1+1≤2;omega);conv=>lhs;whnf
 refine(hD _).2 ⟨t1.room (by show 0+1≤2;omega),fun A2 hP2=> ?_⟩;have hP2:A1.Put A2 r 0 [.slice none 0 0]:=hP2;have t2:aE A2 r [.slice none 0 0,.bool false]:=t1.put hP2 (by show 0+1≤2;omega);have hend:pF.post ⟨r,st,Dr⟩ [] A (.tuple #[]) A2:=⟨rfl,(aB.put hP1).trans (aB.put hP2),_,t2,hP2.sub (hP1.sub hDs hDr) hDr,hDr,Sl.nil _ _,fun _=>rfl⟩;conv=>lhs;whnf
 repeat(first|refine aj hD rfl ?_
        conv=>lhs;whnf)
 exact(hD _).2 hend
def nh:aY:=⟨RxG×Int,fun g vs A=>vs= [.pointer (some ⟨g.1.r,0,none⟩),.int .i64 g.2]∧RdG aH g.1.B A g.1.r g.1.st∧bd g.1.st≤900000000,
 fun g _ A v A'=>Sl g.1.B 1 (bJ g.2 g.1.st).1.length v ((bJ g.2 g.1.st).1.map bv)∧aB A A' g.1.r∧RdG aH g.1.B A' g.1.r (bJ g.2 g.1.st).2⟩
theorem uB:FOk Tryz.prog 267 nh:=by
 refine bG mixed fun⟨⟨r,st,Dr⟩,n⟩ vs A hp=> ?_
 obtain⟨rfl,hR,hlen⟩:vs= [.pointer (some ⟨r,0,none⟩),.int .i64 n]∧RdG aH Dr A r st∧bd st≤900000000:=hp
 have hC:aI Tryz.prog (bQ [aM 268 pF] noC):=aD (aA _) (fun x hx=>by
  simp only [List.mem_singleton]at hx;subst hx
  exact au pE)
 refine⟨_,noL,60,hC,az _,fun blk os out tape D hD=> ?_⟩;have hR0:=hR;obtain⟨v,htop,hDs,hDr,hSl,hnil⟩:=hR0
 cases st with
 |none=>
  have r1:A.rd r 1 1=some [.bool false]:=htop.rd (o:=1) (n:=1) (by show 1+1≤2;omega);have hend:nh.post (⟨r,none,Dr⟩,n) [] A (.slice none 0 0) A:=⟨Sl.nil _ _,aB.refl _ _,hR⟩;conv=>lhs;whnf
  repeat(first|refine ai r1 ?_|refine aj hD rfl ?_
         conv=>lhs;whnf)
  exact(hD _).2 hend
 |some l=>
  have hlen:l.length≤900000000:=hlen;have hSl:Sl Dr 1 l.length v (l.map bv):=hSl;have hSl0:=hSl;obtain⟨ao,c,rfl,hc, -,ha1,ha2,ha3⟩:=hSl;have htop:aE A r [.slice ao l.length c,.bool true]:=htop;have r0:A.rd r 0 1=some [.slice ao l.length c]:=htop.rd (o:=0) (n:=1) (by show 0+1≤2;omega);have r1:A.rd r 1 1=some [.bool true]:=htop.rd (o:=1) (n:=1) (by show 1+1≤2;omega)
  have hbad:¬(0≤n∧n≤l.length)→∀A1,aB A A1 r→RdG aH Dr A1 r none→nh.post (⟨r,some l,Dr⟩,n) [] A (.slice none 0 0) A1:=fun h A1 h1 h2=>by
   have e:bJ n (some l)=([],none):=by
    show(if 0≤n∧n≤(l.length:Int)then(l.take n.toNat,some (l.drop n.toNat))else([],none))=_
    rw [if_neg h]
   show Sl Dr 1 (bJ n (some l)).1.length _ ((bJ n (some l)).1.map bv)∧aB A A1 r∧RdG aH Dr A1 r (bJ n (some l)).2
   rw [e];exact⟨Sl.nil _ _,h1,h2⟩
  conv=>lhs;whnf
  repeat(first|refine ai r1 ?_|refine aj hD rfl ?_
         conv=>lhs;whnf)
  refine af (fun h0=> ?_) (fun h0=> ?_)
  ·conv=>lhs;whnf
   refine(hD _).2 ⟨(⟨r,some l,Dr⟩:RxG),⟨rfl,hR⟩,fun v A1 hq=> ?_⟩;obtain⟨hv,k1,k2⟩:v= .tuple #[]∧aB A A1 r∧RdG aH Dr A1 r none:=hq;subst hv;have hend:=hbad (fun h=>by omega) A1 k1 k2;conv=>lhs;whnf
   repeat(first|refine aj hD rfl ?_
          conv=>lhs;whnf)
   exact(hD _).2 hend
  conv=>lhs;whnf
  repeat(first|refine ai r0 ?_|refine aj hD rfl ?_
         conv=>lhs;whnf)
  refine af (fun h1=> ?_) (fun h1=> ?_)
  ·conv=>lhs;whnf
   refine(hD _).2 ⟨(⟨r,some l,Dr⟩:RxG),⟨rfl,hR⟩,fun v A1 hq=> ?_⟩;obtain⟨hv,k1,k2⟩:v= .tuple #[]∧aB A A1 r∧RdG aH Dr A1 r none:=hq;subst hv;have hend:=hbad (fun h=>by omega) A1 k1 k2;conv=>lhs;whnf
   repeat(first|refine aj hD rfl ?_
          conv=>lhs;whnf)
   exact(hD _).2 hend
  obtain⟨k,rfl⟩:∃k:Nat,n=k:=⟨n.toNat,by omega⟩
  have hk:k≤l.length:=by
   have h1:¬(l.length:Int)<(k:Int):=h1;omega
  have e:bJ (k:Int) (some l)=(l.take k,some (l.drop k)):=by
   show(if 0≤(k:Int)∧(k:Int)≤(l.length:Int)then(l.take k,some (l.drop k))else([],none))=_
   rw [if_pos (by omega)]
  have ht:=Sl.tail hSl0 hk;obtain⟨-, -,hT,hpos,hzero⟩:=ht
  have hfin:∀(ao1 ao2:Option Addr) (A1:aa),A.Put A1 r 0 [.slice ao2 (l.length-k) (c-k)]→Sl Dr 1 k (.slice ao1 k k) ((l.take k).map bv)→Sl Dr 1 (l.length-k) (.slice ao2 (l.length-k) (c-k)) ((l.drop k).map bv)→nh.post (⟨r,some l,Dr⟩,(k:Int)) [] A (.slice ao1 k k) A1:=fun ao1 ao2 A1 hP h1 h2=>by
   have t1:aE A1 r [.slice ao2 (l.length-k) (c-k),.bool true]:=htop.put hP (by show 0+1≤2;omega);show Sl Dr 1 (bJ (k:Int) (some l)).1.length _ ((bJ (k:Int) (some l)).1.map bv)∧aB A A1 r∧RdG aH Dr A1 r (bJ (k:Int) (some l)).2
   rw [e];refine⟨?_,aB.put hP,_,t1,hP.sub hDs hDr,hDr,?_,fun h=>(by cases h)⟩
   ·show Sl Dr 1 (l.take k).length _ _
    rw [List.length_take,Nat.min_eq_left hk];exact h1
   ·show Sl Dr 1 (l.drop k).length _ _
    rw [List.length_drop];exact h2
  by_cases hc0:c=0
  ·have hl0:=hzero hc0
   subst hl0
   have hk0:k=0:=by
    have:([]:List UInt8).length=0:=rfl;omega
   subst hk0;subst hc0;have hnil0:∀ao',(ao'=none→(0:Nat)=0)→Sl Dr 1 0 (.slice ao' 0 0) ([]:List Value):=fun ao' h=>Sl.zero _ _ h fun _ _ h=>absurd h (Nat.lt_irrefl _)
   rcases ao with _|⟨g,o,_|sp⟩
   all_goals
    conv=>lhs;whnf
    repeat(first|refine ai r0 ?_|refine aj hD rfl ?_
           conv=>lhs;whnf)
    refine(hD _).2 ⟨htop.room (by show 0+1≤2;omega),fun A1 hP=> ?_⟩;have hend:=fun(ao1 ao2:Option Addr) (hP:A.Put A1 r 0 [.slice ao2 (([]:List UInt8).length-0) (0-0)])=>hfin ao1 ao2 A1 hP (hnil0 ao1 fun _=>rfl) (hnil0 ao2 fun _=>rfl)
    conv=>lhs;whnf
    repeat(first|refine aj hD rfl ?_
           conv=>lhs;whnf)
    exact(hD _).2 (hend _ _ hP)
  ·obtain⟨g,o,rfl,hD2⟩:=hpos (by omega)
   have hb1:((decide ((0:Int)≤0)&&decide ((0:Int)≤(k:Int)))&&decide ((k:Int)≤(k:Int))&&decide ((k:Int)≤(c:Int)))=true:=by
    simp only [Bool.and_eq_true,decide_eq_true_iff];omega
   have hb2:((decide ((0:Int)≤(k:Int))&&decide ((k:Int)≤(l.length:Int)))&&(true||decide ((l.length:Int)≤(c:Int))))=true:=by
    simp only [Bool.and_eq_true,Bool.or_eq_true,decide_eq_true_iff];omega
   conv=>lhs;whnf
   repeat(first|refine ai r0 ?_|refine aj hD rfl ?_
          conv=>lhs;whnf)
   refine gB hb1 ?_;conv=>lhs;whnf
   repeat(first|refine ai r0 ?_|refine aj hD rfl ?_
          conv=>lhs;whnf)
   refine gB hb2 ?_;conv=>lhs;whnf
   repeat(first|refine ai r0 ?_|refine aj hD rfl ?_
          conv=>lhs;whnf)
   refine(hD _).2 ⟨htop.room (by show 0+1≤2;omega),fun A1 hP=> ?_⟩;have hP:A.Put A1 r 0 [.slice (some ⟨g,o+(bif c.beq k then 0 else k*1),none⟩) (l.length-k) (c-k)]:=hP;have e8:(bif k.beq (Int.toNat 0)then 0 else Int.toNat 0*1)=0:=by cases k.beq (Int.toNat 0)<;>rfl
   have h2:=hD2 (some ⟨g,o+(bif c.beq k then 0 else k*1),none⟩) (fun h=>by rw [tL (show c≠k by omega)];show some (⟨g,o+k*1,none⟩:Addr)=_;rw [Nat.mul_one]) (fun _=>⟨_,_,rfl⟩);have hend:=hfin (some ⟨g,o+(bif k.beq (Int.toNat 0)then 0 else Int.toNat 0*1),none⟩) _ A1 hP (by rw [e8];exact hT) h2;conv=>lhs;whnf
   repeat(first|refine aj hD rfl ?_
          conv=>lhs;whnf)
   exact(hD _).2 hend
def xIntInv(A:aa)(l:List UInt8)(r:Nat):fj:=
 { γ:=Nat×Nat,G:=fun s=>GI l s.1 s.2,keepS:= [],keepB:= [],sl:=fun s=> [(0,.v (.pointer (some ⟨r,0,none⟩))),(3,.v (.int .u64 s.2)),(4,.v (.int .i64 s.1))],bl:=fun _=> [],ar:=fun _=>A,mu:=fun s=>l.length-s.1 }
def jJ:aY:=⟨RxG,fun g vs A=>vs= [.pointer (some ⟨g.r,0,none⟩)]∧RdG aH g.B A g.r g.st∧bd g.st≤900000000,fun g _ A v A'=>v= .int .i64 (bA g.st).1∧aB A A' g.r∧RdG aH g.B A' g.r (bA g.st).2⟩
theorem gH{l r:List UInt8}{n:Int}(h:jP l=some (n,r)):bA (some l)=(n,some r):=by
 show(match jP l with
  |some (n,r)=>(n,some r)
  |none=>(0,none))=_
 rw [h]
theorem pInt_no{l:List UInt8}(h:jP l=none):bA (some l)=(0,none):=by
 show(match jP l with
  |some (n,r)=>(n,some r)
  |none=>(0,none))=_
 rw [h]
theorem fD{l:List UInt8}{k:Nat}(h:k≤l.length):bJ (k:Int) (some l)=(l.take k,some (l.drop k)):=by
 show(if 0≤(k:Int)∧(k:Int)≤(l.length:Int)then(l.take k,some (l.drop k))else([],none))=_
 rw [if_pos (by omega)]
theorem sY:FOk Tryz.prog 209 jJ:=by
 refine bG mixed fun⟨r,st,Dr⟩ vs A hp=> ?_
 obtain⟨rfl,hR,hlen⟩:vs= [.pointer (some ⟨r,0,none⟩)]∧RdG aH Dr A r st∧bd st≤900000000:=hp
 have hC:aI Tryz.prog (bQ [aM 268 pF,aM 267 nh] noC):=aD (aA _) (fun x hx=>by
  simp only [List.mem_cons,List.not_mem_nil,or_false]at hx;rcases hx with rfl|rfl
  ·exact au pE
  ·exact au uB)
 refine⟨_,ic Tryz.prog _ noL 60 [(209,0)],60,hC,bg mixed hC (az _) _ _,fun blk os out tape D hD=> ?_⟩;have hR0:=hR;obtain⟨v,htop,hDs,hDr,hSl,hnil⟩:=hR0
 cases st with
 |none=>
  have r1:A.rd r 1 1=some [.bool false]:=htop.rd (o:=1) (n:=1) (by show 1+1≤2;omega);have hend:jJ.post ⟨r,none,Dr⟩ [] A (.int .i64 0) A:=⟨rfl,aB.refl _ _,hR⟩;conv=>lhs;whnf
  repeat(first|refine ai r1 ?_|refine aj hD rfl ?_
         conv=>lhs;whnf)
  exact(hD _).2 hend
 |some l=>
  have hlen:l.length≤900000000:=hlen;have hSl:Sl Dr 1 l.length v (l.map bv):=hSl;have hSl0:=hSl;obtain⟨ao,c,rfl,hc, -,ha1,ha2,ha3⟩:=hSl;have htop:aE A r [.slice ao l.length c,.bool true]:=htop;have r0:A.rd r 0 1=some [.slice ao l.length c]:=htop.rd (o:=0) (n:=1) (by show 0+1≤2;omega);have r1:A.rd r 1 1=some [.bool true]:=htop.rd (o:=1) (n:=1) (by show 1+1≤2;omega)
  have hbad:jP l=none→∀A1,aB A A1 r→RdG aH Dr A1 r none→jJ.post ⟨r,some l,Dr⟩ [] A (.int .i64 0) A1:=fun hv A1 h1 h2=>by
   show Value.int .i64 0= .int .i64 (bA (some l)).1∧aB A A1 r∧RdG aH Dr A1 r (bA (some l)).2
   rw [pInt_no hv];exact⟨rfl,h1,h2⟩
  conv=>lhs;whnf
  repeat(first|refine ai r1 ?_|refine aj hD rfl ?_
         conv=>lhs;whnf)
  refine(hD _).2 ⟨xIntInv A l r,⟨((0,0):Nat×Nat),GI.zero l,⟨rfl,rfl,rfl,trivial⟩,trivial,rfl⟩,fun(s:Nat×Nat) hG=>⟨⟨trivial,trivial,trivial,trivial⟩,trivial,?_⟩⟩;obtain⟨k,u⟩:=s;have hG:GI l k u:=hG;have hk:k≤l.length:=hG.1;have hk9:k≤9:=hG.2.1;conv=>lhs;whnf
  repeat(first|refine ai r0 ?_|refine aj hD rfl ?_
         conv=>lhs;whnf)
  refine af (fun hlt=> ?_) (fun hlt=> ?_);rotate_left
  ·have e:k=l.length:=by
     have hlt:¬(k:Int)<(l.length:Int):=hlt;omega
   subst e;conv=>lhs;whnf
   refine(hD _).2 ⟨(⟨r,some l,Dr⟩:RxG),⟨rfl,hR⟩,fun v A1 hq=> ?_⟩;obtain⟨hv,k1,k2⟩:v= .tuple #[]∧aB A A1 r∧RdG aH Dr A1 r none:=hq;subst hv;have hend:=hbad hG.Dq A1 k1 k2;conv=>lhs;whnf
   repeat(first|refine aj hD rfl ?_
          conv=>lhs;whnf)
   exact(hD _).2 hend
  have hkl:k<l.length:=by
   have hlt:(k:Int)<(l.length:Int):=hlt;omega
  obtain⟨gx,ox,rfl,hra⟩:=Sl.at_ hc ha1 ha2 ha3 (by omega);have rb:=bI hDs (jD hra k hkl rfl);have i0:(0:Int)≤(k:Int)∧(k:Int)<(l.length:Int):=by omega
  have hcb:=l[k].toNat_lt;have hcw:IntKind.u64.wrap (l[k].toNat:Int)=(l[k].toNat:Int):=mc (by omega) (by omega);have h7:IntKind.i64.wrap (7*(k:Int))=((7*k:Nat):Int):=by rw [i64_in (by omega) (by omega)];omega
  have h70:(0:Int)≤IntKind.i64.wrap (7*(k:Int)):=by rw [h7];omega
  have hu:l[k].toNat%128<128→(k=9→l[k].toNat%128≤1)→bitsOf .or .u64 (u:Int) (IntKind.u64.wrap (bitsOf .and .u64 (IntKind.u64.wrap (l[k].toNat:Int)) 127*2^(min (IntKind.i64.wrap (7*(k:Int))).toNat IntKind.u64.bits)))=((u+l[k].toNat%128*128^k:Nat):Int):=fun h1 h2=>by
   rw [hcw,and_127 hcb,h7,Int.toNat_natCast];exact or_add hG.2.2.1 h1 hk9 h2
  conv=>lhs;whnf
  repeat(first|refine cO i0 ?_|refine ai r0 ?_|refine ai rb ?_|refine aj hD rfl ?_
         conv=>lhs;whnf)
  refine fJ h70 ?_;conv=>lhs;whnf
  repeat(first|refine cO i0 ?_|refine ai r0 ?_|refine ai rb ?_|refine aj hD rfl ?_
         conv=>lhs;whnf)
  have hbrk:(l[k].toNat=0∧0<k∨1<l[k].toNat∧k=9)→¬(128≤l[k].toNat∧k<9)→jP l=none:=fun h1 h2=>hG.bad hkl h2 h1
  refine af (fun h128=> ?_) (fun h128=> ?_)
  ·have h128:128≤l[k].toNat:=by
     have h:(127:Int)<IntKind.u64.wrap (l[k].toNat:Int):=h128;rw [hcw]at h;omega
   conv=>lhs;whnf
   refine af (fun h9=> ?_) (fun h9=> ?_)
   ·have h9:k<9:=by
      have h9:(k:Int)<9:=h9;omega
    have hG2:=hG.next hkl h128 h9;have hu2:=hu (by omega) (by omega);rw [show l[k].toNat%128=l[k].toNat-128 by omega]at hu2;conv=>lhs;whnf
    exact(hD _).2 ⟨((k+1,u+(l[k].toNat-128)*128^k):Nat×Nat),⟨hG2,⟨rfl,congrArg (fun x:Int=>some (SV.v (.int .u64 x))) hu2,bf (by omega),trivial⟩,trivial,rfl⟩,by show l.length-(k+1)<l.length-k;omega,trivial,trivial⟩
   ·have h9:k=9:=by
      have h9:¬(k:Int)<9:=h9;omega
    have hv:=hbrk (.inr ⟨by omega,h9⟩) (by omega);conv=>lhs;whnf
    refine af (fun q0=> ?_) (fun q0=> ?_)
    ·have q0:l[k].toNat=0:=by
       have h:IntKind.u64.wrap (l[k].toNat:Int)=0:=q0;rw [hcw]at h;omega
     conv=>lhs;whnf
     refine af (fun q1=> ?_) (fun q1=> ?_)
     ·have q1:0<k:=by
        have q1:(0:Int)<(k:Int):=q1;omega
      conv=>lhs;whnf
      refine(hD _).2 ⟨(⟨r,some l,Dr⟩:RxG),⟨rfl,hR⟩,fun v A1 hq=> ?_⟩;obtain⟨hvv,k1,k2⟩:v= .tuple #[]∧aB A A1 r∧RdG aH Dr A1 r none:=hq;subst hvv;have hend:=hbad (hbrk (.inl ⟨q0,q1⟩) (by omega)) A1 k1 k2;conv=>lhs;whnf
      repeat(first|refine aj hD rfl ?_
             conv=>lhs;whnf)
      exact(hD _).2 hend
     ·have q1:k=0:=by
        have q1:¬(0:Int)<(k:Int):=q1;omega
      conv=>lhs;whnf
      refine af (fun q2=> ?_) (fun q2=> ?_)
      ·have q2:False:=by
         have h:(1:Int)<IntKind.u64.wrap (l[k].toNat:Int):=q2;rw [hcw]at h;omega
       exact q2.elim
      have hdn:=hG.done hkl (by omega) (by omega);obtain⟨hv,c1,c2,c3⟩:=hdn;have hu2:=hu (by omega) (by omega);rw [show l[k].toNat%128=l[k].toNat by omega]at hu2
      have hz:∀U:Int,U=((u+l[k].toNat*128^k:Nat):Int)→bitsOf .xor .i64 (IntKind.i64.wrap (U.fdiv (2^(min (1:Int).toNat IntKind.u64.bits)))) (IntKind.i64.wrap (0-IntKind.i64.wrap (bitsOf .and .u64 U 1)))=zag (u+l[k].toNat*128^k):=fun U h=>by
       rw [h];exact iN c3
      have hargs: [Value.pointer (some ⟨r,0,none⟩),.int .i64 (IntKind.i64.wrap ((k:Int)+1))]= [.pointer (some ⟨r,0,none⟩),.int .i64 ((k+1:Nat):Int)]:=by
       rw [i64_in (by omega) (by omega)];rfl
      have hpt:=fD (l:=l) (k:=k+1) (by omega);have hpi:=gH hv;conv=>lhs;whnf
      refine(hD _).2 ⟨((⟨r,some l,Dr⟩,((k+1:Nat):Int)):RxG×Int),⟨hargs,hR,hlen⟩,fun v A1 hq=> ?_⟩;obtain⟨hS9,k1,k2⟩:Sl Dr 1 (bJ ((k+1:Nat):Int) (some l)).1.length v ((bJ ((k+1:Nat):Int) (some l)).1.map bv)∧aB A A1 r∧RdG aH Dr A1 r (bJ ((k+1:Nat):Int) (some l)).2:=hq;rw [hpt]at k2;obtain⟨a9,c9,hf9⟩:=hS9.form;subst hf9
      have hend:∀x:Int,x=zag (u+l[k].toNat*128^k)→jJ.post ⟨r,some l,Dr⟩ [] A (.int .i64 x) A1:=fun x hx=>by
       show Value.int .i64 x= .int .i64 (bA (some l)).1∧aB A A1 r∧RdG aH Dr A1 r (bA (some l)).2
       rw [hpi,hx];exact⟨rfl,k1,k2⟩
      conv=>lhs;whnf
      repeat(first|refine aj hD rfl ?_
             conv=>lhs;whnf)
      exact(hD _).2 (hend _ (hz _ hu2))
    ·have q0:l[k].toNat≠0:=fun e=>by
       refine q0 ?_;show IntKind.u64.wrap (l[k].toNat:Int)=0
       rw [hcw];omega
     conv=>lhs;whnf
     refine af (fun q2=> ?_) (fun q2=> ?_)
     ·have q2:1<l[k].toNat:=by
        have h:(1:Int)<IntKind.u64.wrap (l[k].toNat:Int):=q2;rw [hcw]at h;omega
      conv=>lhs;whnf
      refine af (fun q3=> ?_) (fun q3=> ?_)
      ·have q3:k=9:=by
         have q3:(k:Int)=9:=q3;omega
       conv=>lhs;whnf
       refine(hD _).2 ⟨(⟨r,some l,Dr⟩:RxG),⟨rfl,hR⟩,fun v A1 hq=> ?_⟩;obtain⟨hvv,k1,k2⟩:v= .tuple #[]∧aB A A1 r∧RdG aH Dr A1 r none:=hq;subst hvv;have hend:=hbad (hbrk (.inr ⟨q2,q3⟩) (by omega)) A1 k1 k2;conv=>lhs;whnf
       repeat(first|refine aj hD rfl ?_
              conv=>lhs;whnf)
       exact(hD _).2 hend
      ·have q3:k≠9:=fun e=>by
         refine q3 ?_;show(k:Int)=9
         omega
       have hdn:=hG.done hkl (by omega) (by omega);obtain⟨hv,c1,c2,c3⟩:=hdn;have hu2:=hu (by omega) (by omega);rw [show l[k].toNat%128=l[k].toNat by omega]at hu2
       have hz:∀U:Int,U=((u+l[k].toNat*128^k:Nat):Int)→bitsOf .xor .i64 (IntKind.i64.wrap (U.fdiv (2^(min (1:Int).toNat IntKind.u64.bits)))) (IntKind.i64.wrap (0-IntKind.i64.wrap (bitsOf .and .u64 U 1)))=zag (u+l[k].toNat*128^k):=fun U h=>by
        rw [h];exact iN c3
       have hargs: [Value.pointer (some ⟨r,0,none⟩),.int .i64 (IntKind.i64.wrap ((k:Int)+1))]= [.pointer (some ⟨r,0,none⟩),.int .i64 ((k+1:Nat):Int)]:=by
        rw [i64_in (by omega) (by omega)];rfl
       have hpt:=fD (l:=l) (k:=k+1) (by omega);have hpi:=gH hv;conv=>lhs;whnf
       refine(hD _).2 ⟨((⟨r,some l,Dr⟩,((k+1:Nat):Int)):RxG×Int),⟨hargs,hR,hlen⟩,fun v A1 hq=> ?_⟩;obtain⟨hS9,k1,k2⟩:Sl Dr 1 (bJ ((k+1:Nat):Int) (some l)).1.length v ((bJ ((k+1:Nat):Int) (some l)).1.map bv)∧aB A A1 r∧RdG aH Dr A1 r (bJ ((k+1:Nat):Int) (some l)).2:=hq;rw [hpt]at k2;obtain⟨a9,c9,hf9⟩:=hS9.form;subst hf9
       have hend:∀x:Int,x=zag (u+l[k].toNat*128^k)→jJ.post ⟨r,some l,Dr⟩ [] A (.int .i64 x) A1:=fun x hx=>by
        show Value.int .i64 x= .int .i64 (bA (some l)).1∧aB A A1 r∧RdG aH Dr A1 r (bA (some l)).2
        rw [hpi,hx];exact⟨rfl,k1,k2⟩
       conv=>lhs;whnf
       repeat(first|refine aj hD rfl ?_
              conv=>lhs;whnf)
       exact(hD _).2 (hend _ (hz _ hu2))
     ·have q2:¬1<l[k].toNat:=fun e=>by
        refine q2 ?_;show(1:Int)<IntKind.u64.wrap (l[k].toNat:Int)
        rw [hcw];omega
      have hdn:=hG.done hkl (by omega) (by omega);obtain⟨hv,c1,c2,c3⟩:=hdn;have hu2:=hu (by omega) (by omega);rw [show l[k].toNat%128=l[k].toNat by omega]at hu2
      have hz:∀U:Int,U=((u+l[k].toNat*128^k:Nat):Int)→bitsOf .xor .i64 (IntKind.i64.wrap (U.fdiv (2^(min (1:Int).toNat IntKind.u64.bits)))) (IntKind.i64.wrap (0-IntKind.i64.wrap (bitsOf .and .u64 U 1)))=zag (u+l[k].toNat*128^k):=fun U h=>by
       rw [h];exact iN c3
      have hargs: [Value.pointer (some ⟨r,0,none⟩),.int .i64 (IntKind.i64.wrap ((k:Int)+1))]= [.pointer (some ⟨r,0,none⟩),.int .i64 ((k+1:Nat):Int)]:=by
       rw [i64_in (by omega) (by omega)];rfl
      have hpt:=fD (l:=l) (k:=k+1) (by omega);have hpi:=gH hv;conv=>lhs;whnf
      refine(hD _).2 ⟨((⟨r,some l,Dr⟩,((k+1:Nat):Int)):RxG×Int),⟨hargs,hR,hlen⟩,fun v A1 hq=> ?_⟩;obtain⟨hS9,k1,k2⟩:Sl Dr 1 (bJ ((k+1:Nat):Int) (some l)).1.length v ((bJ ((k+1:Nat):Int) (some l)).1.map bv)∧aB A A1 r∧RdG aH Dr A1 r (bJ ((k+1:Nat):Int) (some l)).2:=hq;rw [hpt]at k2;obtain⟨a9,c9,hf9⟩:=hS9.form;subst hf9
      have hend:∀x:Int,x=zag (u+l[k].toNat*128^k)→jJ.post ⟨r,some l,Dr⟩ [] A (.int .i64 x) A1:=fun x hx=>by
       show Value.int .i64 x= .int .i64 (bA (some l)).1∧aB A A1 r∧RdG aH Dr A1 r (bA (some l)).2
       rw [hpi,hx];exact⟨rfl,k1,k2⟩
      conv=>lhs;whnf
      repeat(first|refine aj hD rfl ?_
             conv=>lhs;whnf)
      exact(hD _).2 (hend _ (hz _ hu2))
  ·have h128:l[k].toNat<128:=by
     have h:¬(127:Int)<IntKind.u64.wrap (l[k].toNat:Int):=h128;rw [hcw]at h;omega
   conv=>lhs;whnf
   refine af (fun q0=> ?_) (fun q0=> ?_)
   ·have q0:l[k].toNat=0:=by
      have h:IntKind.u64.wrap (l[k].toNat:Int)=0:=q0;rw [hcw]at h;omega
    conv=>lhs;whnf
    refine af (fun q1=> ?_) (fun q1=> ?_)
    ·have q1:0<k:=by
       have q1:(0:Int)<(k:Int):=q1;omega
     conv=>lhs;whnf
     refine(hD _).2 ⟨(⟨r,some l,Dr⟩:RxG),⟨rfl,hR⟩,fun v A1 hq=> ?_⟩;obtain⟨hvv,k1,k2⟩:v= .tuple #[]∧aB A A1 r∧RdG aH Dr A1 r none:=hq;subst hvv;have hend:=hbad (hbrk (.inl ⟨q0,q1⟩) (by omega)) A1 k1 k2;conv=>lhs;whnf
     repeat(first|refine aj hD rfl ?_
            conv=>lhs;whnf)
     exact(hD _).2 hend
    ·have q1:k=0:=by
       have q1:¬(0:Int)<(k:Int):=q1;omega
     conv=>lhs;whnf
     refine af (fun q2=> ?_) (fun q2=> ?_)
     ·have q2:False:=by
        have h:(1:Int)<IntKind.u64.wrap (l[k].toNat:Int):=q2;rw [hcw]at h;omega
      exact q2.elim
     have hdn:=hG.done hkl (by omega) (by omega);obtain⟨hv,c1,c2,c3⟩:=hdn;have hu2:=hu (by omega) (by omega);rw [show l[k].toNat%128=l[k].toNat by omega]at hu2
     have hz:∀U:Int,U=((u+l[k].toNat*128^k:Nat):Int)→bitsOf .xor .i64 (IntKind.i64.wrap (U.fdiv (2^(min (1:Int).toNat IntKind.u64.bits)))) (IntKind.i64.wrap (0-IntKind.i64.wrap (bitsOf .and .u64 U 1)))=zag (u+l[k].toNat*128^k):=fun U h=>by
      rw [h];exact iN c3
     have hargs: [Value.pointer (some ⟨r,0,none⟩),.int .i64 (IntKind.i64.wrap ((k:Int)+1))]= [.pointer (some ⟨r,0,none⟩),.int .i64 ((k+1:Nat):Int)]:=by
      rw [i64_in (by omega) (by omega)];rfl
     have hpt:=fD (l:=l) (k:=k+1) (by omega);have hpi:=gH hv;conv=>lhs;whnf
     refine(hD _).2 ⟨((⟨r,some l,Dr⟩,((k+1:Nat):Int)):RxG×Int),⟨hargs,hR,hlen⟩,fun v A1 hq=> ?_⟩;obtain⟨hS9,k1,k2⟩:Sl Dr 1 (bJ ((k+1:Nat):Int) (some l)).1.length v ((bJ ((k+1:Nat):Int) (some l)).1.map bv)∧aB A A1 r∧RdG aH Dr A1 r (bJ ((k+1:Nat):Int) (some l)).2:=hq;rw [hpt]at k2;obtain⟨a9,c9,hf9⟩:=hS9.form;subst hf9
     have hend:∀x:Int,x=zag (u+l[k].toNat*128^k)→jJ.post ⟨r,some l,Dr⟩ [] A (.int .i64 x) A1:=fun x hx=>by
      show Value.int .i64 x= .int .i64 (bA (some l)).1∧aB A A1 r∧RdG aH Dr A1 r (bA (some l)).2
      rw [hpi,hx];exact⟨rfl,k1,k2⟩
     conv=>lhs;whnf
     repeat(first|refine aj hD rfl ?_
            conv=>lhs;whnf)
     exact(hD _).2 (hend _ (hz _ hu2))
   ·have q0:l[k].toNat≠0:=fun e=>by
      refine q0 ?_;show IntKind.u64.wrap (l[k].toNat:Int)=0
      rw [hcw];omega
    conv=>lhs;whnf
    refine af (fun q2=> ?_) (fun q2=> ?_)
    ·have q2:1<l[k].toNat:=by
       have h:(1:Int)<IntKind.u64.wrap (l[k].toNat:Int):=q2;rw [hcw]at h;omega
     conv=>lhs;whnf
     refine af (fun q3=> ?_) (fun q3=> ?_)
     ·have q3:k=9:=by
        have q3:(k:Int)=9:=q3;omega
      conv=>lhs;whnf
      refine(hD _).2 ⟨(⟨r,some l,Dr⟩:RxG),⟨rfl,hR⟩,fun v A1 hq=> ?_⟩;obtain⟨hvv,k1,k2⟩:v= .tuple #[]∧aB A A1 r∧RdG aH Dr A1 r none:=hq;subst hvv;have hend:=hbad (hbrk (.inr ⟨q2,q3⟩) (by omega)) A1 k1 k2;conv=>lhs;whnf
      repeat(first|refine aj hD rfl ?_
             conv=>lhs;whnf)
      exact(hD _).2 hend
     ·have q3:k≠9:=fun e=>by
        refine q3 ?_;show(k:Int)=9
        omega
      have hdn:=hG.done hkl (by omega) (by omega);obtain⟨hv,c1,c2,c3⟩:=hdn;have hu2:=hu (by omega) (by omega);rw [show l[k].toNat%128=l[k].toNat by omega]at hu2
      have hz:∀U:Int,U=((u+l[k].toNat*128^k:Nat):Int)→bitsOf .xor .i64 (IntKind.i64.wrap (U.fdiv (2^(min (1:Int).toNat IntKind.u64.bits)))) (IntKind.i64.wrap (0-IntKind.i64.wrap (bitsOf .and .u64 U 1)))=zag (u+l[k].toNat*128^k):=fun U h=>by
       rw [h];exact iN c3
      have hargs: [Value.pointer (some ⟨r,0,none⟩),.int .i64 (IntKind.i64.wrap ((k:Int)+1))]= [.pointer (some ⟨r,0,none⟩),.int .i64 ((k+1:Nat):Int)]:=by
       rw [i64_in (by omega) (by omega)];rfl
      have hpt:=fD (l:=l) (k:=k+1) (by omega);have hpi:=gH hv;conv=>lhs;whnf
      refine(hD _).2 ⟨((⟨r,some l,Dr⟩,((k+1:Nat):Int)):RxG×Int),⟨hargs,hR,hlen⟩,fun v A1 hq=> ?_⟩;obtain⟨hS9,k1,k2⟩:Sl Dr 1 (bJ ((k+1:Nat):Int) (some l)).1.length v ((bJ ((k+1:Nat):Int) (some l)).1.map bv)∧aB A A1 r∧RdG aH Dr A1 r (bJ ((k+1:Nat):Int) (some l)).2:=hq;rw [hpt]at k2;obtain⟨a9,c9,hf9⟩:=hS9.form;subst hf9
      have hend:∀x:Int,x=zag (u+l[k].toNat*128^k)→jJ.post ⟨r,some l,Dr⟩ [] A (.int .i64 x) A1:=fun x hx=>by
       show Value.int .i64 x= .int .i64 (bA (some l)).1∧aB A A1 r∧RdG aH Dr A1 r (bA (some l)).2
       rw [hpi,hx];exact⟨rfl,k1,k2⟩
      conv=>lhs;whnf
      repeat(first|refine aj hD rfl ?_
             conv=>lhs;whnf)
      exact(hD _).2 (hend _ (hz _ hu2))
    ·have q2:¬1<l[k].toNat:=fun e=>by
       refine q2 ?_;show(1:Int)<IntKind.u64.wrap (l[k].toNat:Int)
       rw [hcw];omega
     have hdn:=hG.done hkl (by omega) (by omega);obtain⟨hv,c1,c2,c3⟩:=hdn;have hu2:=hu (by omega) (by omega);rw [show l[k].toNat%128=l[k].toNat by omega]at hu2
     have hz:∀U:Int,U=((u+l[k].toNat*128^k:Nat):Int)→bitsOf .xor .i64 (IntKind.i64.wrap (U.fdiv (2^(min (1:Int).toNat IntKind.u64.bits)))) (IntKind.i64.wrap (0-IntKind.i64.wrap (bitsOf .and .u64 U 1)))=zag (u+l[k].toNat*128^k):=fun U h=>by
      rw [h];exact iN c3
     have hargs: [Value.pointer (some ⟨r,0,none⟩),.int .i64 (IntKind.i64.wrap ((k:Int)+1))]= [.pointer (some ⟨r,0,none⟩),.int .i64 ((k+1:Nat):Int)]:=by
      rw [i64_in (by omega) (by omega)];rfl
     have hpt:=fD (l:=l) (k:=k+1) (by omega);have hpi:=gH hv;conv=>lhs;whnf
     refine(hD _).2 ⟨((⟨r,some l,Dr⟩,((k+1:Nat):Int)):RxG×Int),⟨hargs,hR,hlen⟩,fun v A1 hq=> ?_⟩;obtain⟨hS9,k1,k2⟩:Sl Dr 1 (bJ ((k+1:Nat):Int) (some l)).1.length v ((bJ ((k+1:Nat):Int) (some l)).1.map bv)∧aB A A1 r∧RdG aH Dr A1 r (bJ ((k+1:Nat):Int) (some l)).2:=hq;rw [hpt]at k2;obtain⟨a9,c9,hf9⟩:=hS9.form;subst hf9
     have hend:∀x:Int,x=zag (u+l[k].toNat*128^k)→jJ.post ⟨r,some l,Dr⟩ [] A (.int .i64 x) A1:=fun x hx=>by
      show Value.int .i64 x= .int .i64 (bA (some l)).1∧aB A A1 r∧RdG aH Dr A1 r (bA (some l)).2
      rw [hpi,hx];exact⟨rfl,k1,k2⟩
     conv=>lhs;whnf
     repeat(first|refine aj hD rfl ?_
            conv=>lhs;whnf)
     exact(hD _).2 (hend _ (hz _ hu2))
theorem oF{most:Int}(hm:0≤most)(st:bt):bJ (ah most st).1 (ah most st).2=aZ most st:=by
 have h0:=(ej (s:=st) hm).1;unfold aZ
 cases h:(ah most st).2 with
 |none=>rfl
 |some l=>
  show(if 0≤(ah most st).1∧(ah most st).1≤(l.length:Int)then(l.take (ah most st).1.toNat,some (l.drop (ah most st).1.toNat))else([],none))=_
  by_cases h2:(ah most st).1.toNat≤l.length
  ·rw [if_pos (by omega)]
   exact(if_pos h2).symm
  ·rw [if_neg (by omega)]
   exact(if_neg h2).symm
def ij:aY:=⟨RxG×Int,fun g vs A=>vs= [.pointer (some ⟨g.1.r,0,none⟩),.int .i64 g.2]∧RdG aH g.1.B A g.1.r g.1.st∧bd g.1.st≤900000000∧0≤g.2∧g.2≤900000000,
 fun g _ A v A'=>v= .int .i64 (ah g.2 g.1.st).1∧aB A A' g.1.r∧RdG aH g.1.B A' g.1.r (ah g.2 g.1.st).2⟩
theorem ni:FOk Tryz.prog 206 ij:=by
 refine bG mixed fun⟨⟨r,st,Dr⟩,most⟩ vs A hp=> ?_
 obtain⟨rfl,hR,hlen,hm0,hm1⟩:vs= [.pointer (some ⟨r,0,none⟩),.int .i64 most]∧RdG aH Dr A r st∧bd st≤900000000∧0≤most∧most≤900000000:=hp
 have hC:aI Tryz.prog (bQ [aM 268 pF,aM 209 jJ] noC):=aD (aA _) (fun x hx=>by
  simp only [List.mem_cons,List.not_mem_nil,or_false]at hx;rcases hx with rfl|rfl
  ·exact au pE
  ·exact au sY)
 refine⟨_,noL,60,hC,az _,fun blk os out tape D hD=> ?_⟩;have hin:=pInt_in st
 have hbad:((bA st).1<0∨most<(bA st).1)→∀A1,aB A A1 r→RdG aH Dr A1 r none→ij.post (⟨r,st,Dr⟩,most) [] A (.int .i64 0) A1:=fun h A1 h1 h2=>by
  show Value.int .i64 0= .int .i64 (ah most st).1∧aB A A1 r∧RdG aH Dr A1 r (ah most st).2
  have e:ah most st=(0,none):=if_pos h;rw [e];exact⟨rfl,h1,h2⟩
 have hgood:¬((bA st).1<0∨most<(bA st).1)→∀A1,aB A A1 r→RdG aH Dr A1 r (bA st).2→ij.post (⟨r,st,Dr⟩,most) [] A (.int .i64 (bA st).1) A1:=fun h A1 h1 h2=>by
  show Value.int .i64 (bA st).1= .int .i64 (ah most st).1∧aB A A1 r∧RdG aH Dr A1 r (ah most st).2
  have e:ah most st=bA st:=if_neg h;rw [e];exact⟨rfl,h1,h2⟩
 conv=>lhs;whnf
 refine(hD _).2 ⟨(⟨r,st,Dr⟩:RxG),⟨rfl,hR,hlen⟩,fun v A1 hq=> ?_⟩;obtain⟨hv,k1,k2⟩:v= .int .i64 (bA st).1∧aB A A1 r∧RdG aH Dr A1 r (bA st).2:=hq;generalize (bA st).1=n at*;subst hv;conv=>lhs;whnf
 refine af (fun h0=> ?_) (fun h0=> ?_)
 ·conv=>lhs;whnf
  refine(hD _).2 ⟨(⟨r,(bA st).2,Dr⟩:RxG),⟨rfl,k2⟩,fun v A2 hq=> ?_⟩;obtain⟨hv,j1,j2⟩:v= .tuple #[]∧aB A1 A2 r∧RdG aH Dr A2 r none:=hq;subst hv;have hend:=hbad (.inl h0) A2 (k1.trans j1) j2;conv=>lhs;whnf
  repeat(first|refine aj hD rfl ?_
         conv=>lhs;whnf)
  exact(hD _).2 hend
 conv=>lhs;whnf
 refine af (fun h1=> ?_) (fun h1=> ?_)
 ·conv=>lhs;whnf
  refine(hD _).2 ⟨(⟨r,(bA st).2,Dr⟩:RxG),⟨rfl,k2⟩,fun v A2 hq=> ?_⟩;obtain⟨hv,j1,j2⟩:v= .tuple #[]∧aB A1 A2 r∧RdG aH Dr A2 r none:=hq;subst hv;have hend:=hbad (.inr h1) A2 (k1.trans j1) j2;conv=>lhs;whnf
  repeat(first|refine aj hD rfl ?_
         conv=>lhs;whnf)
  exact(hD _).2 hend
 have hend:=hgood (fun h=>h.elim h0 h1) A1 k1 k2;conv=>lhs;whnf
 repeat(first|refine aj hD rfl ?_
        conv=>lhs;whnf)
 exact(hD _).2 hend
theorem lJ:aI Tryz.prog (bQ [aM 267 nh,aM 206 ij,aM 76 cX] noC):=aD (aA _) (fun x hx=>by
 simp only [List.mem_cons,List.not_mem_nil,or_false]at hx;rcases hx with rfl|rfl|rfl
 ·exact au uB
 ·exact au ni
 ·exact au df)
def sZ:aY:=⟨RxG×Int,ij.pre,fun g _ A v A'=>SlB (A'.minus A) v (aZ g.2 g.1.st).1∧aB A A' g.1.r∧RdG aH g.1.B A' g.1.r (aZ g.2 g.1.st).2⟩
theorem z8:FOk Tryz.prog 208 sZ:=by
 refine bG mixed fun⟨⟨r,st,Dr⟩,most⟩ vs A hp=> ?_
 obtain⟨rfl,hR,hlen,hm0,hm1⟩:vs= [.pointer (some ⟨r,0,none⟩),.int .i64 most]∧RdG aH Dr A r st∧bd st≤900000000∧0≤most∧most≤900000000:=hp;refine⟨_,noL,60,lJ,az _,fun blk os out tape D hD=> ?_⟩;conv=>lhs;whnf
 refine(hD _).2 ⟨((⟨r,st,Dr⟩,most):RxG×Int),⟨rfl,hR,hlen,hm0,hm1⟩,fun v A1 hq=> ?_⟩;obtain⟨hv,k1,k2⟩:v= .int .i64 (ah most st).1∧aB A A1 r∧RdG aH Dr A1 r (ah most st).2:=hq;subst hv;have hl2:=bU most st;conv=>lhs;whnf
 refine(hD _).2 ⟨((⟨r,(ah most st).2,Dr⟩,(ah most st).1):RxG×Int),⟨rfl,k2,by show bd (ah most st).2≤_;omega⟩,fun v A2 hq=> ?_⟩;have hq:Sl Dr 1 (bJ (ah most st).1 (ah most st).2).1.length v ((bJ (ah most st).1 (ah most st).2).1.map bv)∧aB A1 A2 r∧RdG aH Dr A2 r (bJ (ah most st).1 (ah most st).2).2:=hq;rw [oF hm0]at hq;obtain⟨hS9,j1,j2⟩:=hq;obtain⟨a9,c9,hf9⟩:=hS9.form;subst hf9;have htl:=(gG most st).2;have hB:SlB A2 (.slice a9 (aZ most st).1.length c9) (aZ most st).1:=⟨hS9.sub j2.jT,by omega⟩;conv=>lhs;whnf
 refine(hD _).2 ⟨(aZ most st).1,⟨_,rfl,hB⟩,fun v A3 hq=> ?_⟩;obtain⟨s3,hS3⟩:A2.Sub A3∧SlB (A3.minus A2) v (aZ most st).1:=hq;have hk2:=k1.trans j1;have hend:sZ.post (⟨r,st,Dr⟩,most) [] A v A3:=⟨hS3.sub (xZ hk2 j2.jM),hk2.trans (aB.qv s3 r),j2.ck s3⟩;obtain⟨a8,c8,hf8⟩:=hS3.1.form;subst hf8;conv=>lhs;whnf
 repeat(first|refine aj hD rfl ?_
        conv=>lhs;whnf)
 exact(hD _).2 hend
def wS:aY:=⟨RxG×Int,ij.pre,fun g _ A v A'=>v= .string ⟨(aZ g.2 g.1.st).1.toArray⟩∧aB A A' g.1.r∧RdG aH g.1.B A' g.1.r (aZ g.2 g.1.st).2⟩
theorem Cj:FOk Tryz.prog 207 wS:=by
 refine bG mixed fun⟨⟨r,st,Dr⟩,most⟩ vs A hp=> ?_
 obtain⟨rfl,hR,hlen,hm0,hm1⟩:vs= [.pointer (some ⟨r,0,none⟩),.int .i64 most]∧RdG aH Dr A r st∧bd st≤900000000∧0≤most∧most≤900000000:=hp;refine⟨_,noL,60,lJ,az _,fun blk os out tape D hD=> ?_⟩;conv=>lhs;whnf
 refine(hD _).2 ⟨((⟨r,st,Dr⟩,most):RxG×Int),⟨rfl,hR,hlen,hm0,hm1⟩,fun v A1 hq=> ?_⟩;obtain⟨hv,k1,k2⟩:v= .int .i64 (ah most st).1∧aB A A1 r∧RdG aH Dr A1 r (ah most st).2:=hq;subst hv;have hl2:=bU most st;conv=>lhs;whnf
 refine(hD _).2 ⟨((⟨r,(ah most st).2,Dr⟩,(ah most st).1):RxG×Int),⟨rfl,k2,by show bd (ah most st).2≤_;omega⟩,fun v A2 hq=> ?_⟩;have hq:Sl Dr 1 (bJ (ah most st).1 (ah most st).2).1.length v ((bJ (ah most st).1 (ah most st).2).1.map bv)∧aB A1 A2 r∧RdG aH Dr A2 r (bJ (ah most st).1 (ah most st).2).2:=hq;rw [oF hm0]at hq;obtain⟨hS9,j1,j2⟩:=hq;have hk2:=k1.trans j1;have hend:wS.post (⟨r,st,Dr⟩,most) [] A (.string ⟨(aZ most st).1.toArray⟩) A2:=⟨rfl,hk2,j2⟩;obtain⟨a9,c9,hf9,hc9,hl9,ha1,ha2,ha3⟩:=hS9.sub j2.jT;subst hf9;generalize (aZ most st).1=s at*
 by_cases hs:s= []
 ·subst hs
  rcases a9 with _|⟨g,o,_|sp⟩
  all_goals
   conv=>lhs;whnf
   repeat(first|refine aj hD rfl ?_
          conv=>lhs;whnf)
   exact(hD _).2 hend
 ·have hpos:0<s.length:=List.length_pos_iff.2 hs
  obtain⟨g,o,e,hra⟩:=Sl.at_ hc9 ha1 ha2 ha3 hpos;subst e;rw [Nat.mul_one]at hra;have hz:Nat.beq s.length 0=false:=tL (by omega);conv=>lhs;whnf
  repeat(first|refine ai hra ?_|refine aj hD rfl ?_
         conv=>lhs;whnf)
  refine bw (fun h=>absurd (hz.symm.trans h) Bool.false_ne_true) (fun _=> ?_);conv=>lhs;whnf
  repeat(first|refine ai hra ?_|refine go_by (re s) ?_|refine aj hD rfl ?_
         conv=>lhs;whnf)
  exact(hD _).2 hend
def s0:aY:=⟨RxG,fun g vs A=>vs= [.pointer (some ⟨g.r,0,none⟩)]∧RdG aH g.B A g.r g.st∧bd g.st≤900000000,fun g _ A v A'=>v=bv (dL g.st).1∧aB A A' g.r∧RdG aH g.B A' g.r (dL g.st).2⟩
theorem AO(st:bt):(bJ 1 st).2=(dL st).2∧((bJ 1 st).1= []∧(dL st).1=0∨(bJ 1 st).1= [(dL st).1]):=by
 rcases st with _|_|⟨c,l⟩
 ·exact⟨rfl,.inl ⟨rfl,rfl⟩⟩
 ·exact⟨rfl,.inl ⟨rfl,rfl⟩⟩
 ·have e:bJ 1 (some (c::l))=([c],some l):=by
    show(if 0≤(1:Int)∧(1:Int)≤(((c::l).length:Nat):Int)then((c::l).take 1,some ((c::l).drop 1))else([],none))=_
    rw [if_pos (by rw [List.length_cons];omega)];rfl
  rw [e];exact⟨rfl,.inr rfl⟩
theorem Ck:FOk Tryz.prog 205 s0:=by
 refine bG mixed fun⟨r,st,Dr⟩ vs A hp=> ?_
 obtain⟨rfl,hR,hlen⟩:vs= [.pointer (some ⟨r,0,none⟩)]∧RdG aH Dr A r st∧bd st≤900000000:=hp;refine⟨_,noL,60,lJ,az _,fun blk os out tape D hD=> ?_⟩;have hone:=AO st;conv=>lhs;whnf
 refine(hD _).2 ⟨((⟨r,st,Dr⟩,1):RxG×Int),⟨rfl,hR,hlen⟩,fun v A2 hq=> ?_⟩;have hq:Sl Dr 1 (bJ 1 st).1.length v ((bJ 1 st).1.map bv)∧aB A A2 r∧RdG aH Dr A2 r (bJ 1 st).2:=hq;rw [hone.1]at hq;obtain⟨hS9,j1,j2⟩:=hq;rcases hone.2 with⟨h1,h2⟩|h1
 ·rw [h1]at hS9
  obtain⟨a9,c9,hf9⟩:=hS9.form;subst hf9;have hend:s0.post ⟨r,st,Dr⟩ [] A (.int .u8 0) A2:=⟨by show _=bv (dL st).1;rw [h2];rfl,j1,j2⟩;conv=>lhs;whnf
  repeat(first|refine aj hD rfl ?_
         conv=>lhs;whnf)
  exact(hD _).2 hend
 ·rw [h1]at hS9
  have hend:s0.post ⟨r,st,Dr⟩ [] A (bv (dL st).1) A2:=⟨rfl,j1,j2⟩;obtain⟨a9,c9,hf9,hc9,hl9,ha1,ha2,ha3⟩:=hS9.sub j2.jT;have hc9:1≤c9:=hc9;obtain⟨g,o,e,hra⟩:=Sl.at_ hc9 ha1 ha2 ha3 (Nat.succ_pos 0);subst e;subst hf9;have hra:A2.rd g (o+0*1) 1=some [bv (dL st).1]:=hra;conv=>lhs;whnf
  repeat(first|refine ai hra ?_|refine aj hD rfl ?_
         conv=>lhs;whnf)
  exact(hD _).2 hend
def alRx:TypeId→Bool:=fun t=>Nat.beq t 355
def yV:aY:=⟨List UInt8,fun l vs A=>∃x,vs= [x]∧SlB A x l,fun l _ A v A'=>A.Sub A'∧∃r,v= .pointer (some ⟨r,0,none⟩)∧A.blk r=none∧∃D,RdG aH D A' r (some l)⟩
theorem yU:FOk Tryz.prog 204 yV:=by
 refine oO mixed alRx fun(l:List UInt8) vs A hp=> ?_
 obtain⟨x,rfl,hX⟩:∃x,vs= [x]∧SlB A x l:=hp
 have hC:aI Tryz.prog (bQ [aM 76 cX] noC):=aD (aA _) (fun x hx=>by
  simp only [List.mem_singleton]at hx;subst hx
  exact au df)
 obtain⟨ax,cx,hxf⟩:=hX.1.form;subst hxf;refine⟨_,noL,60,hC,az _,fun blk os out tape D hD=> ?_⟩;conv=>lhs;whnf
 refine(hD _).2 ⟨l,⟨_,rfl,hX⟩,fun v A1 hq=> ?_⟩;obtain⟨s1,hS1⟩:A.Sub A1∧SlB (A1.minus A) v l:=hq;obtain⟨av,cv,hvf⟩:=hS1.1.form;subst hvf;conv=>lhs;whnf
 repeat(first|refine aj hD rfl ?_
        conv=>lhs;whnf)
 refine(hD _).2 fun r A2 hN=> ?_
 have hN:A1.New A2 r #[.slice av l.length cv,.bool true] 355:=hN
 have hend:yV.post l [] A (.pointer (some ⟨r,0,none⟩)) A2:=by
  refine⟨s1.trans hN.sub,r,rfl,?_,A1,_,⟨_,_,_,hN.at_,.inl rfl,rfl⟩,hN.sub,hN.none_,hS1.1.sub (bk _ _),fun h=>(by cases h)⟩
  cases hA:A.blk r with
  |none=>rfl
  |some o=>have:=s1 r o hA;rw [hN.none_]at this;cases this
 conv=>lhs;whnf
 repeat(first|refine aj hD rfl ?_
        conv=>lhs;whnf)
 exact(hD _).2 hend
end
end Go.Proofs.YtmmlhdiejkknnaaGreatDoor
