/-
  Parts of the proof: TrN DkA DkB DkD
-/
import Derived.Test.YtphigpccfbfnoaaGreatDoorG33
import Derived.Test.YtphigpccfbfnoaaGreatDoorG42
import Derived.Test.YtphigpccfbfnoaaGreatDoorG19
import Derived.Test.YtphigpccfbfnoaaGreatDoorG24
import Derived.Test.YtphigpccfbfnoaaGreatDoorG17
import Derived.Test.YtphigpccfbfnoaaGreatDoorG20
import Derived.Test.YtphigpccfbfnoaaGreatDoorG21
set_option maxRecDepth 100000
set_option maxHeartbeats 0
namespace Go.Proofs.YtphigpccfbfnoaaGreatDoor
open Go.Sx Go.RowKit
noncomputable section
open Classical
def oQ:aL:=⟨(aC×Value)×(aC×Value),fun g vs A=>vs= [.agg (aP g.1).toArray,.agg (aP g.2).toArray]∧SlB A g.1.2 g.1.1.data∧SlB A g.2.2 g.2.1.data,fun g _ A v A'=>A'=A∧v= .bool (decide (g.1.1=g.2.1))⟩
theorem xu:FOk Tryz.prog 53 oQ:=by
 refine aS mixed fun⟨⟨⟨p,d,⟨s1,s2,s3,s4,s5,s6,s7,s8,s9,s10⟩⟩,vd⟩,⟨⟨q,e,⟨u1,u2,u3,u4,u5,u6,u7,u8,u9,u10⟩⟩,ve⟩⟩ vs A hp=> ?_
 obtain⟨rfl,hd,he⟩:vs= [.agg #[.string p,vd,.int .i64 s1,.int .i64 s2,.int .i64 s3,.int .i64 s4,.int .i64 s5,.int .i64 s6,.int .i64 s7,.int .i64 s8,.int .i64 s9,.int .i64 s10],.agg #[.string q,ve,.int .i64 u1,.int .i64 u2,.int .i64 u3,.int .i64 u4,.int .i64 u5,.int .i64 u6,.int .i64 u7,.int .i64 u8,.int .i64 u9,.int .i64 u10]]∧SlB A vd d∧SlB A ve e:=hp;obtain⟨ad,cd,rfl⟩:=hd.1.form;obtain⟨ae,ce,rfl⟩:=he.1.form
 have hCt:aF Tryz.prog (bu [aE 54 equalS] noC):=az (aj _) (fun x hx=>by
  simp only [List.mem_singleton]at hx
  subst hx;exact ai F8)
 refine⟨_,noL,60,hCt,ak _,fun blk os out tape D hD=> ?_⟩
 have hend:∀b:Bool,(b=true↔((p=q∧((s1=u1∧s2=u2∧s3=u3∧s4=u4∧s5=u5)∧s6=u6∧s7=u7∧s8=u8∧s9=u9∧s10=u10))∧d=e))→oQ.post ⟨⟨⟨p,d,⟨s1,s2,s3,s4,s5,s6,s7,s8,s9,s10⟩⟩,.slice ad d.length cd⟩,⟨⟨q,e,⟨u1,u2,u3,u4,u5,u6,u7,u8,u9,u10⟩⟩,.slice ae e.length ce⟩⟩ [] A (.bool b) A:=fun b hb=>by
  refine⟨rfl,?_⟩;congr 1;rw [Bool.eq_iff_iff,hb,decide_eq_true_iff];simp only [aC.mk.injEq,ec.mk.injEq];constructor
  ·rintro⟨⟨h1,⟨h2,h3,h4,h5,h6⟩,h7⟩,h8⟩
   exact⟨h1,h8,h2,h3,h4,h5,h6,h7⟩
  ·rintro⟨h1,h8,h2,h3,h4,h5,h6,h7⟩
   exact⟨⟨h1,⟨h2,h3,h4,h5,h6⟩,h7⟩,h8⟩
 conv=>lhs;whnf
 refine aQ (fun hb=> ?_) (fun hb=> ?_)<;>(conv=>lhs;whnf)
 rotate_left
 ·exact(hD _).2 (hend false ⟨fun h=>(by cases h),fun h=>absurd (congrArg (fun x:ByteArray=>x.data.toList) h.1.1) (cr.1 hb)⟩)
 have hpq:p=q:=jN (bh.1 hb);refine au hD (by kernel_rfl) ?_;conv=>lhs;whnf
 refine aQ (fun h1=> ?_) (fun h1=> ?_)<;>(conv=>lhs;whnf)
 rotate_left
 ·exact(hD _).2 (hend false ⟨fun h=>(by cases h),fun h=>(by
   obtain⟨⟨_,⟨rfl,rfl,rfl,rfl,rfl⟩,rfl,rfl,rfl,rfl,rfl⟩,_⟩:=h
   simp at h1)⟩)
 refine(hD _).2 ⟨(d,e),⟨_,_,rfl,hd,he⟩,fun v A' hq=> ?_⟩;obtain⟨hA,rfl⟩:A=A'∧v= .bool (decide (d=e)):=⟨hq.1.symm,hq.2⟩;subst hA
 have hall:(s1=u1∧s2=u2∧s3=u3∧s4=u4∧s5=u5)∧s6=u6∧s7=u7∧s8=u8∧s9=u9∧s10=u10:=by
  simp at h1;omega
 conv=>lhs;whnf
 exact(hD _).2 (hend _ (by show decide (d=e)=true↔_;rw [decide_eq_true_iff];exact⟨fun h=>⟨⟨hpq,hall⟩,h⟩,fun h=>h.2⟩))
def BU:Value:= .func (.func 53) #[] #[]
def s0:aL:=⟨List (aC×Value)×List (aC×Value),fun g vs A=>∃x y,vs= [x,y,BU]∧tz A x g.1∧tz A y g.2∧g.1.length≤1000000∧g.2.length≤1000000,fun g _ A v A'=>A'=A∧v= .bool (decide (g.1.map (·.1)=g.2.map (·.1)))⟩
theorem Au:FOk Tryz.prog 55 s0:=by
 refine aS mixed fun⟨ls,bs⟩ vs A hp=> ?_
 obtain⟨x,y,rfl,⟨⟨ao,c,rfl,hc,_,ha1,ha2,ha3⟩,hda⟩,⟨⟨bo,d,rfl,hd,_,hb1,hb2,hb3⟩,hdb⟩,hl1,hl2⟩:∃x y,vs= [x,y,BU]∧tz A x ls∧tz A y bs∧ls.length≤1000000∧bs.length≤1000000:=hp
 have hCt:aF Tryz.prog (bu [aE 53 oQ] noC):=az (aj _) (fun x hx=>by
  simp only [List.mem_singleton]at hx
  subst hx;exact ai xu)
 refine⟨_,da Tryz.prog _ noL 60 [(55,0)],60,hCt,aH mixed hCt (ak _) _ _,fun blk os out tape D hD=> ?_⟩
 have hend:∀b:Bool,(b=true↔ls.map (·.1)=bs.map (·.1))→s0.post (ls,bs) [] A (.bool b) A:=fun b hb=>by
  refine⟨rfl,?_⟩;congr 1;rw [Bool.eq_iff_iff,hb,decide_eq_true_iff]
 conv=>lhs;whnf
 refine aQ (fun hb=> ?_) (fun hb=> ?_)<;>(conv=>lhs;whnf)
 ·refine(hD _).2 (hend false ⟨fun h=>(by cases h),fun e=> ?_⟩)
  have e1:=congrArg List.length e;simp at e1;rw [e1]at hb;simp at hb
 ·have hlen:ls.length=bs.length:=by
    have:(ls.length:Int)=bs.length:=by simpa using hb
    omega
  refine(hD _).2 ⟨cnt A 17 [1,2,15,16] [] ls.length fun k=>(ls.take k).map (·.1)=(bs.take k).map (·.1),⟨(0:Nat),⟨Nat.zero_le _,rfl⟩,⟨rfl,trivial⟩,trivial,rfl⟩,fun(k:Nat) hk=>⟨⟨trivial,trivial⟩,trivial,?_⟩⟩;simp only [cnt]at hk;conv=>lhs;whnf
  refine ab (fun hlt=> ?_) (fun hlt=> ?_)<;>(conv=>lhs;whnf)
  ·have hkl:k<ls.length:=by omega
   obtain⟨g,o,rfl,hra⟩:=Sl.at_ hc ha1 ha2 ha3 (by omega);obtain⟨g',o',rfl,hrb⟩:=Sl.at_ hd hb1 hb2 hb3 (by omega);have r1:=fQ (enc:=aP) (fun _=>rfl) hra k hkl rfl;have r2:=fQ (enc:=aP) (fun _=>rfl) hrb k (by omega) rfl;obtain⟨⟨⟨p1,e1,⟨a1,a2,a3,a4,a5,a6,a7,a8,a9,a10⟩⟩,v1⟩,hn1⟩:∃n1,n1=ls[k]:=⟨_,rfl⟩;obtain⟨⟨⟨p2,e2,⟨b1,b2,b3,b4,b5,b6,b7,b8,b9,b10⟩⟩,v2⟩,hn2⟩:∃n2,n2=bs[k]:=⟨_,rfl⟩;have d1:SlB A v1 e1:=hda (((⟨p1,e1,⟨a1,a2,a3,a4,a5,a6,a7,a8,a9,a10⟩⟩:aC),v1)) (by rw [hn1];exact List.getElem_mem _);have d2:SlB A v2 e2:=hdb (((⟨p2,e2,⟨b1,b2,b3,b4,b5,b6,b7,b8,b9,b10⟩⟩:aC),v2)) (by rw [hn2];exact List.getElem_mem _);have t1:(ls.take (k+1)).map (·.1)=(ls.take k).map (·.1)++ [(⟨p1,e1,⟨a1,a2,a3,a4,a5,a6,a7,a8,a9,a10⟩⟩:aC)]:=by rw [List.take_succ_eq_append_getElem hkl,List.map_append,←hn1];rfl
   have t2:(bs.take (k+1)).map (·.1)=(bs.take k).map (·.1)++ [(⟨p2,e2,⟨b1,b2,b3,b4,b5,b6,b7,b8,b9,b10⟩⟩:aC)]:=by rw [List.take_succ_eq_append_getElem (by omega),List.map_append,←hn2];rfl
   rw [←hn1]at r1;rw [←hn2]at r2;obtain⟨x1,c1,rfl⟩:=d1.1.form;obtain⟨x2,c2,rfl⟩:=d2.1.form;have r1:A.rd g (o+k*12) 12=some [.string p1,.slice x1 e1.length c1,.int .i64 a1,.int .i64 a2,.int .i64 a3,.int .i64 a4,.int .i64 a5,.int .i64 a6,.int .i64 a7,.int .i64 a8,.int .i64 a9,.int .i64 a10]:=r1;have r2:A.rd g' (o'+k*12) 12=some [.string p2,.slice x2 e2.length c2,.int .i64 b1,.int .i64 b2,.int .i64 b3,.int .i64 b4,.int .i64 b5,.int .i64 b6,.int .i64 b7,.int .i64 b8,.int .i64 b9,.int .i64 b10]:=r2;conv=>lhs;whnf
   refine aq ⟨by show(0:Int)≤(k:Int);omega,by show(k:Int)<(ls.length:Int);omega⟩ ?_;conv=>lhs;whnf
   refine af r1 ?_;conv=>lhs;whnf
   refine aq ⟨by show(0:Int)≤(k:Int);omega,by show(k:Int)<(bs.length:Int);omega⟩ ?_;conv=>lhs;whnf
   refine af r2 ?_;conv=>lhs;whnf
   refine(hD _).2 ⟨(((⟨p1,e1,⟨a1,a2,a3,a4,a5,a6,a7,a8,a9,a10⟩⟩:aC),.slice x1 e1.length c1),((⟨p2,e2,⟨b1,b2,b3,b4,b5,b6,b7,b8,b9,b10⟩⟩:aC),.slice x2 e2.length c2)),⟨rfl,d1,d2⟩,fun v A' hq=> ?_⟩;obtain⟨hA,rfl⟩:A=A'∧v= .bool (decide ((⟨p1,e1,⟨a1,a2,a3,a4,a5,a6,a7,a8,a9,a10⟩⟩:aC)=(⟨p2,e2,⟨b1,b2,b3,b4,b5,b6,b7,b8,b9,b10⟩⟩:aC))):=⟨hq.1.symm,hq.2⟩;subst hA;conv=>lhs;whnf
   refine aQ (fun he=> ?_) (fun he=> ?_)<;>(conv=>lhs;whnf)
   ·refine(hD _).2 (hend false ⟨fun h=>(by cases h),fun e=> ?_⟩)
    have e3:=congrArg (List.take (k+1)) e;rw [←List.map_take,←List.map_take,t1,t2,hk.2]at e3;have e4:=List.append_cancel_left e3;injection e4 with e4
    simp [e4]at he
   ·have he:(⟨p1,e1,⟨a1,a2,a3,a4,a5,a6,a7,a8,a9,a10⟩⟩:aC)=(⟨p2,e2,⟨b1,b2,b3,b4,b5,b6,b7,b8,b9,b10⟩⟩:aC):=by simpa using he
    refine(hD _).2 ⟨(k+1:Nat),⟨⟨by omega,?_⟩,⟨av (by omega),trivial⟩,trivial,rfl⟩,?_,⟨rfl,rfl,rfl,rfl,trivial⟩,trivial⟩
    ·show(ls.take (k+1)).map (·.1)=(bs.take (k+1)).map (·.1)
     rw [t1,t2,hk.2,he]
    ·show ls.length-(k+1)<ls.length-k
     omega
  ·have e:k=ls.length:=by omega
   refine(hD _).2 (hend true ⟨fun _=> ?_,fun _=>rfl⟩);have h:=hk.2;rw [e,List.take_length,hlen,List.take_length]at h;exact h
def wF:aL:=⟨List bb×List bb,fun g vs A=>∃x y,vs= [x,y]∧Sl A 3 g.1.length x (g.1.flatMap br)∧Sl A 3 g.2.length y (g.2.flatMap br)∧g.1.length≤1000000∧g.2.length≤1000000,fun g _ A v A'=>A'=A∧v= .bool (decide (g.1=g.2))⟩
theorem DT:FOk Tryz.prog 57 wF:=by
 refine aS mixed fun⟨ls,bs⟩ vs A hp=> ?_
 obtain⟨x,y,rfl,⟨ao,c,rfl,hc,_,ha1,ha2,ha3⟩,⟨bo,d,rfl,hd,_,hb1,hb2,hb3⟩,hl1,hl2⟩:∃x y,vs= [x,y]∧Sl A 3 ls.length x (ls.flatMap br)∧Sl A 3 bs.length y (bs.flatMap br)∧ls.length≤1000000∧bs.length≤1000000:=hp;refine⟨noC,da Tryz.prog noC noL 60 [(57,0)],60,aj _,aH mixed (aj _) (ak _) _ _,fun blk os out tape D hD=> ?_⟩
 have hend:∀b:Bool,(b=true↔ls=bs)→wF.post (ls,bs) [] A (.bool b) A:=fun b hb=>by
  refine⟨rfl,?_⟩;congr 1;rw [Bool.eq_iff_iff,hb,decide_eq_true_iff]
 conv=>lhs;whnf
 refine aQ (fun hb=> ?_) (fun hb=> ?_)<;>(conv=>lhs;whnf)
 ·refine(hD _).2 (hend false ⟨fun h=>(by cases h),fun e=> ?_⟩)
  have e1:=congrArg List.length e;rw [e1]at hb;simp at hb
 ·have hlen:ls.length=bs.length:=by
    have:(ls.length:Int)=bs.length:=by simpa using hb
    omega
  refine(hD _).2 ⟨cnt A 13 [0,1,11,12] [] ls.length fun k=>ls.take k=bs.take k,⟨(0:Nat),⟨Nat.zero_le _,rfl⟩,⟨rfl,trivial⟩,trivial,rfl⟩,fun(k:Nat) hk=>⟨⟨trivial,trivial⟩,trivial,?_⟩⟩;simp only [cnt]at hk;conv=>lhs;whnf
  refine ab (fun hlt=> ?_) (fun hlt=> ?_)<;>(conv=>lhs;whnf)
  ·have hkl:k<ls.length:=by omega
   obtain⟨g,o,rfl,hra⟩:=Sl.at_ hc ha1 ha2 ha3 (by omega);obtain⟨g',o',rfl,hrb⟩:=Sl.at_ hd hb1 hb2 hb3 (by omega);have r1:=fQ (enc:=br) (fun _=>rfl) hra k hkl rfl;have r2:=fQ (enc:=br) (fun _=>rfl) hrb k (by omega) rfl;have t1:ls.take (k+1)=ls.take k++ [ls[k]]:=by rw [List.take_succ_eq_append_getElem hkl]
   have t2:bs.take (k+1)=bs.take k++ [bs[k]]:=by rw [List.take_succ_eq_append_getElem (by omega)]
   obtain⟨⟨a1,a2,a3⟩,hn1⟩:∃n1,n1=ls[k]:=⟨_,rfl⟩;obtain⟨⟨b1,b2,b3⟩,hn2⟩:∃n2,n2=bs[k]:=⟨_,rfl⟩;rw [←hn1]at r1 t1;rw [←hn2]at r2 t2;have r1:A.rd g (o+k*3) 3=some [.int .i64 a1,.int .i64 a2,.int .i64 a3]:=r1;have r2:A.rd g' (o'+k*3) 3=some [.int .i64 b1,.int .i64 b2,.int .i64 b3]:=r2;conv=>lhs;whnf
   have i1:(0:Int)≤(k:Int)∧(k:Int)<(ls.length:Int):=by omega
   have i2:(0:Int)≤(k:Int)∧(k:Int)<(bs.length:Int):=by omega
   repeat(first|refine aq i1 ?_|refine aq i2 ?_|refine af r1 ?_|refine af r2 ?_|refine au hD rfl ?_|refine au hD (by kernel_rfl) ?_
          conv=>lhs;whnf)
   refine aQ (fun he=> ?_) (fun he=> ?_)<;>(conv=>lhs;whnf)
   ·refine(hD _).2 (hend false ⟨fun h=>(by cases h),fun e=> ?_⟩)
    have e3:=congrArg (List.take (k+1)) e;rw [t1,t2,hk.2]at e3;have e4:=List.append_cancel_left e3;injection e4 with e4
    injection e4 with h1 h2 h3
    subst h1 h2 h3;simp at he
   ·have he:(⟨a1,a2,a3⟩:bb)=⟨b1,b2,b3⟩:=by
      simp at he;rw [he.1,he.2.1,he.2.2]
    refine(hD _).2 ⟨(k+1:Nat),⟨⟨by omega,?_⟩,⟨av (by omega),trivial⟩,trivial,rfl⟩,?_,⟨rfl,rfl,rfl,rfl,trivial⟩,trivial⟩
    ·show ls.take (k+1)=bs.take (k+1)
     rw [t1,t2,hk.2,he]
    ·show ls.length-(k+1)<ls.length-k
     omega
  ·have e:k=ls.length:=by omega
   refine(hD _).2 (hend true ⟨fun _=> ?_,fun _=>rfl⟩);have h:=hk.2;rw [e,List.take_length,hlen,List.take_length]at h;exact h
def ED:aL:=⟨TG×TG,fun g vs A=>vs= [.pointer (some ⟨g.1.t,0,none⟩),.pointer (some ⟨g.2.t,0,none⟩)]∧bz A g.1.B g.1.O g.1.t g.1.T∧bz A g.2.B g.2.O g.2.t g.2.T∧Cl g.1.T∧Cl g.2.T,
 fun g _ A v A'=>A.Sub A'∧v= .bool (decide (Ck g.1.T g.2.T))⟩
theorem same_ok:FOk Tryz.prog 16 ED:=by
 refine aS mixed fun⟨⟨T,B,O,t⟩,⟨U,B',O',t'⟩⟩ vs A hp=> ?_
 obtain⟨rfl,hT,hU,⟨fT1,fT2,fT3⟩,⟨fU1,fU2,fU3⟩⟩:vs= [.pointer (some ⟨t,0,none⟩),.pointer (some ⟨t',0,none⟩)]∧bz A B O t T∧bz A B' O' t' U∧Cl T∧Cl U:=hp
 have hCt:aF Tryz.prog (bu [aE 56 allS,aE 48 lS,aE 55 s0,aE 57 wF] noC):=az (aj _) (fun x hx=>by
  simp only [List.mem_cons,List.not_mem_nil,or_false]at hx;rcases hx with rfl|rfl|rfl|rfl
  ·exact ai all_ok
  ·exact ai qa
  ·exact ai Au
  ·exact ai DT)
 refine⟨_,noL,60,hCt,ak _,fun blk os out tape D hD=> ?_⟩
 have htop:∃m,A.rd t 0 1=some [.map (some m)]:=by
  obtain⟨m,s,E,h⟩:=hT;exact⟨m,h.top.rd (o:=0) (n:=1) (by show 0+1≤2;omega)⟩
 have htop':∃m,A.rd t' 0 1=some [.map (some m)]:=by
  obtain⟨m,s,E,h⟩:=hU;exact⟨m,h.top.rd (o:=0) (n:=1) (by show 0+1≤2;omega)⟩
 obtain⟨m,htop⟩:=htop;obtain⟨m',htop'⟩:=htop';conv=>lhs;whnf
 repeat(first|refine af htop ?_|refine af htop' ?_|refine au hD rfl ?_
        conv=>lhs;whnf)
 refine(hD _).2 ⟨⟨T,B,O,t⟩,⟨rfl,hT,fT2⟩,fun v A1 hq=> ?_⟩;obtain⟨s1,hN1⟩:A.Sub A1∧wX (A1.minus A) v (ez T):=hq;obtain⟨a1,c1,rfl⟩:=hN1.choose_spec.2.1.form;conv=>lhs;whnf
 refine(hD _).2 ⟨⟨U,B',O',t'⟩,⟨rfl,bM hU s1,fU2⟩,fun v A2 hq=> ?_⟩;obtain⟨s2,hN2⟩:A1.Sub A2∧wX (A2.minus A1) v (ez U):=hq;obtain⟨a2,c2,rfl⟩:=hN2.choose_spec.2.1.form;obtain⟨l1,hl1,hR1⟩:=ux hN1 ((eo A A1).trans s2);obtain⟨l2,hl2,hR2⟩:=ux hN2 (eo A1 A2);have e1:l1.length=(ez T).length:=by rw [←hl1,List.length_map]
 have e2:l2.length=(ez U).length:=by rw [←hl2,List.length_map]
 conv=>lhs;whnf
 refine(hD _).2 ⟨(l1,l2),⟨_,_,rfl,hR1,hR2,by show l1.length≤_;rw [e1,pW];exact fT2,by show l2.length≤_;rw [e2,pW];exact fU2⟩,fun v A3 hq=> ?_⟩;obtain⟨hA3,rfl⟩:A2=A3∧v= .bool (decide (l1.map (·.1)=l2.map (·.1))):=⟨hq.1.symm,hq.2⟩;subst hA3;rw [hl1,hl2];conv=>lhs;whnf
 have hend:∀(b:Bool) Ak,A.Sub Ak→(b=true↔Ck T U)→ED.post (⟨T,B,O,t⟩,⟨U,B',O',t'⟩) [.pointer (some ⟨t,0,none⟩),.pointer (some ⟨t',0,none⟩)] A (.bool b) Ak:=fun b Ak hk hb=>by
  refine⟨hk,?_⟩;congr 1;rw [Bool.eq_iff_iff,hb,decide_eq_true_iff]
 refine ab (fun hall=> ?_) (fun hall=> ?_)<;>(conv=>lhs;whnf)
 rotate_left
 ·exact(hD _).2 (hend false A2 (s1.trans s2) ⟨fun h=>(by cases h),fun h=>absurd h.1 hall⟩)
 refine(hD _).2 ⟨⟨T,B,O,t⟩,⟨rfl,bM hT (s1.trans s2),fT1,fT3⟩,fun v A4 hq=> ?_⟩;obtain⟨s4,hS4⟩:A2.Sub A4∧Sl (A4.minus A2) 3 (aU T).length v ((aU T).flatMap br):=hq;obtain⟨a4,c4,rfl⟩:=hS4.form;conv=>lhs;whnf
 refine(hD _).2 ⟨⟨U,B',O',t'⟩,⟨rfl,bM hU (s1.trans (s2.trans s4)),fU1,fU3⟩,fun v A5 hq=> ?_⟩;obtain⟨s5,hS5⟩:A4.Sub A5∧Sl (A5.minus A4) 3 (aU U).length v ((aU U).flatMap br):=hq;obtain⟨a5,c5,rfl⟩:=hS5.form;conv=>lhs;whnf
 refine(hD _).2 ⟨(aU T,aU U),⟨_,_,rfl,hS4.sub ((eo A2 A4).trans s5),hS5.sub (eo A4 A5),by show(aU T).length≤_;rw [jT];exact fT3,by show(aU U).length≤_;rw [jT];exact fU3⟩,fun v A6 hq=> ?_⟩;obtain⟨hA6,rfl⟩:A5=A6∧v= .bool (decide (aU T=aU U)):=⟨hq.1.symm,hq.2⟩;subst hA6;conv=>lhs;whnf
 exact(hD _).2 (hend _ A5 (s1.trans (s2.trans (s4.trans s5))) (by show decide (aU T=aU U)=true↔_;rw [decide_eq_true_iff];exact⟨fun h=>⟨hall,h⟩,fun h=>h.2⟩))
def FC(k:Nat)(i:Nat):List Value:= [.int .i64 (mkI k i),.int .u8 0,.int .i64 0,.int .i64 0,.int .i64 0,.int .i64 0,.string ⟨#[]⟩,.slice none 0 0,.int .i64 0,.int .i64 0,.int .i64 0,.int .i64 0,.int .i64 0,.int .i64 0,.slice none 0 0,.slice none 0 0]
def fl(n:Nat):List Value:=(List.range n).flatMap (FC 1)
mutual
def bH(A:aa):aB→List Value→List Nat→Prop
 | .mk h parts,cs,L=>∃gd gm gp cd cm cp rows Lp,
    cs=h.cells (.slice (some ⟨gd,0,none⟩) h.data.length cd) (.slice (some ⟨gm,0,none⟩) h.mem.length cm) (.slice (some ⟨gp,0,none⟩) parts.length cp)∧h.path.data.toList.length≤140737488351232∧
    bV A gd 1 5 (h.data.length+12) cd (h.data.map bv++fU 12)∧bV A gm 4 97 (h.mem.length+12) cm (bD h.mem++gZ 12)∧bV A gp 16 32 (parts.length+12) cp (rows.flatten++fl 12)∧
    h.data.length≤140737488351232∧h.mem.length*32≤140737488351232∧parts.length*184≤140737488351232∧
    aO A parts rows Lp∧L=gd::gm::gp::Lp∧L.Nodup
def aO(A:aa):List aB→List (List Value)→List Nat→Prop
 | [],rows,L=>rows= []∧L= []
 |d::ds,rows,L=>∃r rs L1 L2,rows=r::rs∧bH A d r L1∧aO A ds rs L2∧L=L1++L2
end
theorem bH.len{A:aa}{d:aB}{cs:List Value}{L:List Nat}(h:bH A d cs L):cs.length=16:=by
 cases d
 rw [bH]at h;obtain⟨gd,gm,gp,cd,cm,cp,rows,Lp,rfl,_⟩:=h;rfl
theorem aO.length{A:aa} :∀ {ds:List aB} {rows:List (List Value)} {L:List Nat},aO A ds rows L→rows.length=ds.length
 | [],_,_,h=>by rw [aO]at h;rw [h.1];rfl
 |d::ds,rows,L,h=>by
  rw [aO]at h;obtain⟨r,rs,L1,L2,rfl,_,h,_⟩:=h;rw [List.length_cons,List.length_cons,aO.length h]
theorem aO.lens{A:aa} :∀ {ds:List aB} {rows:List (List Value)} {L:List Nat},aO A ds rows L→∀r∈rows,r.length=16
 | [],_,_,h=>by rw [aO]at h;rw [h.1];simp
 |d::ds,rows,L,h=>by
  rw [aO]at h;obtain⟨r,rs,L1,L2,rfl,h1,h2,_⟩:=h;intro x hx;rcases List.mem_cons.1 hx with rfl|hx
  ·exact h1.len
  ·exact aO.lens h2 x hx
mutual
theorem bH.bk{A A':aa} :∀ {d:aB} {cs:List Value} {L:List Nat},bH A d cs L→(∀k∈L,A'.blk k=A.blk k)→bH A' d cs L
 | .mk hd parts,cs,L,h,hk=>by
   rw [bH]at h ⊢;obtain⟨gd,gm,gp,cd,cm,cp,rows,Lp,h1,h0,h2,h3,h4,b1,b2,b3,h5,h6,h7⟩:=h;subst h6;exact⟨gd,gm,gp,cd,cm,cp,rows,Lp,h1,h0,h2.bk (hk _ (by simp)),h3.bk (hk _ (by simp)),h4.bk (hk _ (by simp)),b1,b2,b3,aO.bk h5 fun k hm=>hk k (by simp [hm]),rfl,h7⟩
theorem aO.bk{A A':aa} :∀ {ds:List aB} {rows:List (List Value)} {L:List Nat},aO A ds rows L→(∀k∈L,A'.blk k=A.blk k)→aO A' ds rows L
 | [],_,_,h,_=>by rw [aO]at h ⊢;exact h
 |d::ds,rows,L,h,hk=>by
  rw [aO]at h ⊢;obtain⟨r,rs,L1,L2,h1,h2,h3,h4⟩:=h;subst h4;exact⟨r,rs,L1,L2,h1,bH.bk h2 fun k hm=>hk k (List.mem_append_left _ hm),aO.bk h3 fun k hm=>hk k (List.mem_append_right _ hm),rfl⟩
end
mutual
theorem bH.ask{A:aa} :∀ {d:aB} {cs:List Value} {L:List Nat},bH A d cs L→bj A d cs
 | .mk hd parts,cs,L,h=>by
   rw [bH]at h;rw [bj];obtain⟨gd,gm,gp,cd,cm,cp,rows,Lp,h1,h0,h2,h3,h4,b1,b2,b3,h5,h6,h7⟩:=h;have hrl:=h5.length
   have hfl:rows.flatten.length=parts.length*16:=by
    have key:∀rows:List (List Value),(∀r∈rows,r.length=16)→rows.flatten.length=rows.length*16:=fun rows=>by
     induction rows with
     |nil=>intro _;rfl
     |cons r rows ih=>
      intro h;rw [List.flatten_cons,List.length_append,h r (by simp),ih fun x hx=>h x (List.mem_cons_of_mem _ hx),List.length_cons];omega
    rw [key rows h5.lens,hrl]
   exact⟨_,_,_,rows,h1,h0,⟨h2.sl (by simp),b1⟩,⟨h3.sl (fT _),b2⟩,h4.sl hfl,b3,aO.asks h5⟩
theorem aO.asks{A:aa} :∀ {ds:List aB} {rows:List (List Value)} {L:List Nat},aO A ds rows L→cS A ds rows
 | [],_,_,h=>by rw [aO]at h;rw [cS];exact h.1
 |d::ds,rows,L,h=>by
  rw [aO]at h;rw [cS];obtain⟨r,rs,L1,L2,h1,h2,h3,h4⟩:=h;exact⟨r,rs,h1,bH.ask h2,aO.asks h3⟩
end
mutual
theorem bH.live{A:aa} :∀ {d:aB} {cs:List Value} {L:List Nat},bH A d cs L→∀k∈L,∃o,A.blk k=some o
 | .mk hd parts,cs,L,h,k,hk=>by
   rw [bH]at h;obtain⟨gd,gm,gp,cd,cm,cp,rows,Lp,h1,h0,⟨⟨c2,h2,_⟩,_⟩,⟨⟨c3,h3,_⟩,_⟩,⟨⟨c4,h4,_⟩,_⟩,b1,b2,b3,h5,h6,h7⟩:=h;subst h6;simp only [List.mem_cons]at hk;rcases hk with rfl|rfl|rfl|hk
   ·exact⟨_,h2⟩
   ·exact⟨_,h3⟩
   ·exact⟨_,h4⟩
   ·exact aO.live h5 k hk
theorem aO.live{A:aa} :∀ {ds:List aB} {rows:List (List Value)} {L:List Nat},aO A ds rows L→∀k∈L,∃o,A.blk k=some o
 | [],_,_,h,k,hk=>by
   rw [aO]at h;rw [h.2]at hk
   cases hk
 |d::ds,rows,L,h,k,hk=>by
  rw [aO]at h;obtain⟨r,rs,L1,L2,h1,h2,h3,h4⟩:=h;subst h4;rcases List.mem_append.1 hk with hk|hk
  ·exact bH.live h2 k hk
  ·exact aO.live h3 k hk
end
theorem aO.snoc{A:aa} :∀ {ds:List aB} {rows:List (List Value)} {L:List Nat} {d:aB} {cs:List Value} {L':List Nat},aO A ds rows L→bH A d cs L'→aO A (ds++ [d]) (rows++ [cs]) (L++L')
 | [],rows,L,d,cs,L',h,h'=>by
   rw [aO]at h;obtain⟨rfl,rfl⟩:=h;show aO A [d] [cs] L'
   rw [aO];exact⟨cs, [],L', [],rfl,h',by rw [aO];exact⟨rfl,rfl⟩,by simp⟩
 |e::ds,rows,L,d,cs,L',h,h'=>by
  rw [aO]at h;obtain⟨r,rs,L1,L2,rfl,h2,h3,rfl⟩:=h;show aO A (e::(ds++ [d])) (r::(rs++ [cs])) _
  rw [aO];exact⟨r,rs++ [cs],L1,L2++L',rfl,h2,aO.snoc h3 h',by rw [List.append_assoc]⟩
theorem aO.head{A:aa}{d:aB}{ds:List aB}{rows:List (List Value)}{L:List Nat}(h:aO A (d::ds) rows L):∃r rs L1 L2,rows=r::rs∧bH A d r L1∧aO A ds rs L2∧L=L1++L2:=by
 rw [aO]at h;exact h
theorem bH.one{A:aa}{d:aB}{cs:List Value}{L:List Nat}(h:bH A d cs L):∀v∈cs,v.oneCell'=true:=by
 cases d
 rw [bH]at h;obtain⟨gd,gm,gp,cd,cm,cp,rows,Lp,rfl,_⟩:=h;intro v hv;simp only [bJ.cells,List.mem_cons,List.not_mem_nil,or_false]at hv;rcases hv with rfl|rfl|rfl|rfl|rfl|rfl|rfl|rfl|rfl|rfl|rfl|rfl|rfl|rfl|rfl|rfl<;>rfl
mutual
def dSz:aB→Nat
 | .mk _ parts=>Gm parts+1
def Gm:List aB→Nat
 | []=>0
 |d::ds=>dSz d+Gm ds
end
theorem tf:∀ {ds:List aB} {k:Nat} (h:k<ds.length),dSz ds[k]≤Gm ds
 |d::ds,0,_=>by simp [Gm]
 |d::ds,k+1,h=>by
  have:=tf (ds:=ds) (k:=k) (by simpa using h);simp only [List.getElem_cons_succ,Gm];omega
def iD(n:Nat):aL:=⟨List aB,fun ds vs A=>∃x y,vs= [x,y]∧(∀d∈ds,dSz d<n)∧gi A x ds∧gi A y ds,fun _ _ A v A'=>A'=A∧v= .bool true⟩
def ix(n:Nat):aL:=⟨aB,fun d vs A=>∃x y,vs= [bx x,bx y]∧dSz d<n∧bj A d x∧bj A d y,fun _ _ A v A'=>A'=A∧v= .bool true⟩
theorem _root_.Go.Sx.bj.sK{B:aa}{d:aB}{cs:List Value}(h:bj B d cs):∃(c0 c1 c2 c3 c4 c5:Int) (c6:ByteArray) (a7:Option Addr) (l7 k7:Nat) (c8 c9 c10 c11 c12 c13:Int) (a14:Option Addr) (l14 k14:Nat) (a15:Option Addr) (l15 k15:Nat),
  cs= [.int .i64 c0,.int .u8 c1,.int .i64 c2,.int .i64 c3,.int .i64 c4,.int .i64 c5,.string c6,.slice a7 l7 k7,.int .i64 c8,.int .i64 c9,.int .i64 c10,.int .i64 c11,.int .i64 c12,.int .i64 c13,.slice a14 l14 k14,.slice a15 l15 k15]:=by
 obtain⟨a7,l7,k7,a14,l14,k14,a15,l15,k15,rfl⟩:=h.form;exact⟨_,_,_,_,_,_,_,_,_,_,_,_,_,_,_,_,_,_,_,_,_,_,rfl⟩
theorem tG(m:Nat)(ih:FOk Tryz.prog 49 (ix m)):FOk Tryz.prog 93 (iD m):=by
 refine aS mixed fun(ls:List aB) vs A hp=> ?_
 simp only [iD]at hp;obtain⟨x,y,rfl,hsz,⟨r1,⟨ao,c,rfl,hc,_,ha1,ha2,ha3⟩,hxl,hx⟩,r2,⟨bo,d,rfl,hd,_,hb1,hb2,hb3⟩,hyl,hy⟩:=hp
 have hC:aF Tryz.prog (bu [aE 49 (ix m)] noC):=az (aj _) (fun x hx=>by
  simp only [List.mem_singleton]at hx
  subst hx;exact ai ih)
 refine⟨_,da Tryz.prog _ noL 60 [(93,0)],60,hC,aH mixed hC (ak _) _ _,fun blk os out tape D hD=> ?_⟩;have hend:(iD m).post ls [] A (.bool true) A:=⟨rfl,rfl⟩;conv=>lhs;whnf
 refine cL (fun _=> ?_) (fun h=>absurd rfl h);conv=>lhs;whnf
 refine(hD _).2 ⟨cnt A 5 [0,1] [] ls.length fun _=>True,⟨(0:Nat),⟨Nat.zero_le _,trivial⟩,⟨rfl,trivial⟩,trivial,rfl⟩,fun(k:Nat) hk=>⟨⟨trivial,trivial⟩,trivial,?_⟩⟩;simp only [cnt]at hk;conv=>lhs;whnf
 refine ab (fun hlt=> ?_) (fun hlt=> ?_);rotate_left
 ·conv=>lhs;whnf
  exact(hD _).2 hend
 have hlt:(k:Int)<(ls.length:Int):=hlt;have hkl:k<ls.length:=by omega
 have i0:(0:Int)≤(k:Int)∧(k:Int)<(ls.length:Int):=by omega
 obtain⟨g,o,rfl,hra⟩:=Sl.at_ hc ha1 ha2 ha3 (by omega);obtain⟨g',o',rfl,hrb⟩:=Sl.at_ hd hb1 hb2 hb3 (by omega);obtain⟨c1,hc1,hd1⟩:=fD hra hx k hkl rfl;obtain⟨c2,hc2,hd2⟩:=fD hrb hy k hkl rfl;have hd10:=hd1;have hd20:=hd2;obtain⟨_,_,_,_,_,_,_,_,_,_,_,_,_,_,_,_,_,_,_,_,_,_,rfl⟩:=hd1.sK;obtain⟨_,_,_,_,_,_,_,_,_,_,_,_,_,_,_,_,_,_,_,_,_,_,rfl⟩:=hd2.sK;conv=>lhs;whnf
 repeat(first|refine aq i0 ?_|refine af hc1 ?_|refine af hc2 ?_|refine au hD rfl ?_
        conv=>lhs;whnf)
 refine(hD _).2 ⟨ls[k],⟨_,_,rfl,hsz _ (List.getElem_mem _),hd10,hd20⟩,fun v A' hq=> ?_⟩;obtain⟨e1,e2⟩:A'=A∧v= .bool true:=hq;subst e1;subst e2
 conv=>lhs;whnf
 exact(hD _).2 ⟨(k+1:Nat),⟨⟨hkl,trivial⟩,⟨av (by omega),trivial⟩,trivial,rfl⟩,by show ls.length-(k+1)<ls.length-k;omega,⟨an rfl rfl,an rfl rfl,trivial⟩,trivial⟩
theorem vt(m:Nat)(ih:FOk Tryz.prog 93 (iD m)):FOk Tryz.prog 49 (ix (m+1)):=by
 refine aS mixed fun d vs A hp=> ?_
 simp only [ix]at hp;obtain⟨x,y,rfl,hsz,hx,hy⟩:=hp;obtain⟨⟨zxid,kind,ses,ah,xid,time,path,data,owner,ver,cver,tmo,err,cfg,mem⟩,parts⟩:=d;rw [bj]at hx hy;obtain⟨vd,vm,vp,rows,rfl,hx0,hx1,hx2,hx3,hx4,hx5⟩:=hx;obtain⟨vd',vm',vp',rows',rfl,hy0,hy1,hy2,hy3,hy4,hy5⟩:=hy
 have hC:aF Tryz.prog (bu [aE 93 (iD m),aE 34 iE,aE 70 eQ] noC):=az (aj _) (fun x hx=>by
  simp only [List.mem_cons,List.not_mem_nil,or_false]at hx;rcases hx with rfl|rfl|rfl
  ·exact ai ih
  ·exact ai j8
  ·exact ai fP)
 have hparts:∀d∈parts,dSz d<m:=fun d hd=>by
  obtain⟨k,hk,rfl⟩:=List.getElem_of_mem hd;have:=tf hk;simp only [dSz]at hsz;omega
 obtain⟨a7,k7,rfl⟩:=hx1.1.form;obtain⟨a14,k14,rfl⟩:=hx2.1.form;obtain⟨a15,k15,rfl⟩:=hx3.form;obtain⟨b7,j7,rfl⟩:=hy1.1.form;obtain⟨b14,j14,rfl⟩:=hy2.1.form;obtain⟨b15,j15,rfl⟩:=hy3.form;have hbl:eW path.data.toList path.data.toList=true:=bh.2 rfl;have hend:(ix (m+1)).post (.mk ⟨zxid,kind,ses,ah,xid,time,path,data,owner,ver,cver,tmo,err,cfg,mem⟩ parts) [] A (.bool true) A:=⟨rfl,rfl⟩;refine⟨_,noL,60,hC,ak _,fun blk os out tape D hD=> ?_⟩;conv=>lhs;whnf
 repeat(first|refine bP rfl ?_|refine cK hbl ?_
        conv=>lhs;whnf)
 refine(hD _).2 ⟨(data,data),⟨_,_,rfl,hx1,hy1⟩,fun v A' hq=> ?_⟩;obtain⟨q1,q2⟩:A'=A∧v= .bool (decide (data=data)):=hq;rw [decide_eq_true rfl]at q2;subst q1;subst q2
 conv=>lhs;whnf
 repeat(first|refine bP rfl ?_|refine cK hbl ?_
        conv=>lhs;whnf)
 refine(hD _).2 ⟨(mem,mem),⟨_,_,rfl,hx2,hy2⟩,fun v A1 hq=> ?_⟩;obtain⟨q1,q2⟩:A1=A'∧v= .bool (decide (mem=mem)):=hq;rw [decide_eq_true rfl]at q2;subst q1;subst q2
 conv=>lhs;whnf
 repeat(first|refine bP rfl ?_|refine cK hbl ?_
        conv=>lhs;whnf)
 refine(hD _).2 ⟨parts,⟨_,_,rfl,hparts,⟨rows,hx3,hx4,hx5⟩,rows',hy3,hy4,hy5⟩,fun v A2 hq=> ?_⟩;obtain⟨q1,q2⟩:A2=A1∧v= .bool true:=hq;subst q1;subst q2
 conv=>lhs;whnf
 exact(hD _).2 hend
theorem mC:∀m,FOk Tryz.prog 49 (ix m)
 |0=>fun g vs A w _ hp=>by obtain⟨_,_,_,h,_⟩:=hp;omega
 |m+1=>vt m (tG m (mC m))
def sameDeedT':aL:=⟨aB,fun d vs A=>∃x y,vs= [bx x,bx y]∧bj A d x∧bj A d y,fun _ _ A v A'=>A'=A∧v= .bool true⟩
theorem nG:FOk Tryz.prog 49 sameDeedT':=fun d vs A w hA ⟨x,y,h1,h2,h3⟩=>
 mC (dSz d+1) d vs A w hA ⟨x,y,h1,Nat.lt_succ_self _,h2,h3⟩
def iI(n:Nat):aL:=⟨List aB,fun ds vs A=>∃x,vs= [x]∧(∀d∈ds,dSz d<n)∧gi A x ds,
 fun ds _ A v A'=>A.Sub A'∧∃g c rows L,v= .slice (some ⟨g,0,none⟩) ds.length c∧A.blk g=none∧bV A' g 16 32 (ds.length+12) c (rows.flatten++fl 12)∧aO A' ds rows L∧(∀k∈L,A.blk k=none)∧(g::L).Nodup⟩
def iy(n:Nat):aL:=⟨aB,fun d vs A=>∃cs,vs= [bx cs]∧dSz d<n∧bj A d cs,
 fun d _ A v A'=>A.Sub A'∧∃cs L,v=bx cs∧bH A' d cs L∧∀k∈L,A.blk k=none⟩
theorem pL{A:aa}{L:List Nat}{g:Nat}{o:Obj}(hL:∀k∈L,A.blk k=none)(hg:A.blk g=some o):g∉L:=fun h=>by
 have:=hL g h;rw [hg]at this;cases this
theorem yh(m:Nat)(ih:FOk Tryz.prog 45 (iI m)):FOk Tryz.prog 13 (iy (m+1)):=by
 refine aS mixed fun d vs A hp=> ?_
 simp only [iy]at hp;obtain⟨x,rfl,hsz,hx⟩:=hp;obtain⟨⟨zxid,kind,ses,ah,xid,time,path,data,owner,ver,cver,tmo,err,cfg,mem⟩,parts⟩:=d;rw [bj]at hx;obtain⟨vd,vm,vp,rows,rfl,hx0,hx1,hx2,hx3,hx4,hx5⟩:=hx
 have hC:aF Tryz.prog (bu [aE 45 (iI m),aE 43 kq,aE 89 im] noC):=az (aj _) (fun x hx=>by
  simp only [List.mem_cons,List.not_mem_nil,or_false]at hx;rcases hx with rfl|rfl|rfl
  ·exact ai ih
  ·exact ai wj
  ·exact ai r9)
 have hparts:∀d∈parts,dSz d<m:=fun d hd=>by
  obtain⟨k,hk,rfl⟩:=List.getElem_of_mem hd;have:=tf hk;simp only [dSz]at hsz;omega
 refine⟨_,noL,60,hC,ak _,fun blk os out tape D hD=> ?_⟩;conv=>lhs;whnf
 refine(hD _).2 ⟨data,⟨vd,rfl,hx1⟩,fun v A1 hq=> ?_⟩;have hq:A.Sub A1∧∃g c,v= .slice (some ⟨g,0,none⟩) data.length c∧A.blk g=none∧bV A1 g 1 5 (data.length+12) c (data.map bv++fU 12):=hq;obtain⟨s1,g1,c1,hv,hg1,hL1⟩:=hq;subst hv;conv=>lhs;whnf
 repeat(refine au hD rfl ?_
        conv=>lhs;whnf)
 refine(hD _).2 ⟨mem,⟨vm,rfl,hx2.sub s1⟩,fun v A2 hq=> ?_⟩;have hq:A1.Sub A2∧∃g c,v= .slice (some ⟨g,0,none⟩) mem.length c∧A1.blk g=none∧bV A2 g 4 97 (mem.length+12) c (bD mem++gZ 12):=hq;obtain⟨s2,g2,c2,hv,hg2,hL2⟩:=hq;subst hv;have s12:=s1.trans s2;conv=>lhs;whnf
 repeat(refine au hD rfl ?_
        conv=>lhs;whnf)
 refine(hD _).2 ⟨parts,⟨vp,rfl,hparts,rows,hx3.sub s12,hx4,cS.sub s12 _ _ hx5⟩,fun v A3 hq=> ?_⟩;have hq:A2.Sub A3∧∃g c rows L,v= .slice (some ⟨g,0,none⟩) parts.length c∧A2.blk g=none∧bV A3 g 16 32 (parts.length+12) c (rows.flatten++fl 12)∧aO A3 parts rows L∧(∀k∈L,A2.blk k=none)∧(g::L).Nodup:=hq;obtain⟨s3,g3,c3,rows3,L3,hv,hg3,hL3,hLs,hLn,hnd⟩:=hq;subst hv
 have up:∀ {X Y:aa} {k:Nat},X.Sub Y→Y.blk k=none→X.blk k=none:=fun {X Y k} hs h=>by
  cases hX:X.blk k with
  |none=>rfl
  |some o=>rw [hs k o hX]at h;cases h
 have hend:(iy (m+1)).post (.mk ⟨zxid,kind,ses,ah,xid,time,path,data,owner,ver,cver,tmo,err,cfg,mem⟩ parts) [] A (bx [.int .i64 zxid,.int .u8 kind,.int .i64 ses,.int .i64 ah,.int .i64 xid,.int .i64 time,.string path,.slice (some ⟨g1,0,none⟩) data.length c1,.int .i64 owner,.int .i64 ver,.int .i64 cver,.int .i64 tmo,.int .i64 err,.int .i64 cfg,.slice (some ⟨g2,0,none⟩) mem.length c2,.slice (some ⟨g3,0,none⟩) parts.length c3]) A3:=by
  obtain⟨b1,hb1,_⟩:=hL1.at_;obtain⟨b2,hb2,_⟩:=hL2.at_;have n12:g1≠g2:=fun e=>by rw [←e,hb1]at hg2;cases hg2
  have n13:g1≠g3:=fun e=>by rw [←e,s2 _ _ hb1]at hg3;cases hg3
  have n23:g2≠g3:=fun e=>by rw [←e,hb2]at hg3;cases hg3
  have m1:=pL hLn (s2 _ _ hb1);have m2:=pL hLn hb2;refine⟨s12.trans s3,_,g1::g2::g3::L3,rfl,?_,fun k hk=> ?_⟩
  ·rw [bH]
   refine⟨g1,g2,g3,c1,c2,c3,rows3,L3,rfl,hx0,hL1.sub (s2.trans s3),hL2.sub s3,hL3,hx1.2,hx2.2,hx4,hLs,rfl,?_⟩;simp only [List.nodup_cons,List.mem_cons,not_or]at hnd ⊢;exact⟨⟨n12,n13,m1⟩,⟨n23,m2⟩,hnd⟩
  ·simp only [List.mem_cons]at hk
   rcases hk with rfl|rfl|rfl|hk
   ·exact hg1
   ·exact up s1 hg2
   ·exact up s12 hg3
   ·exact up s12 (hLn k hk)
 conv=>lhs;whnf
 repeat(refine au hD rfl ?_
        conv=>lhs;whnf)
 exact(hD _).2 hend
structure LdG where
 k:Nat
 A:aa
 rows:List (List Value)
 L:List Nat
structure LdI(A0:aa)(g c:Nat)(ds:List aB)(s:LdG):Prop where
 le:s.k≤ds.length
 sub:A0.Sub s.A
 row:bV s.A g 16 32 s.k c s.rows.flatten
 lents:aO s.A (ds.take s.k) s.rows s.L
 new:∀j∈s.L,A0.blk j=none
 nd:(g::s.L).Nodup
def tQ(A0:aa)(g c:Nat)(ds:List aB):dE:=
 { γ:=LdG,G:=LdI A0 g c ds,keepS:= [0],keepB:= [],sl:=fun s=> [(4,.v (.int .i64 s.k)),(3,.v (.slice (some ⟨g,0,none⟩) s.k c))],bl:=fun _=> [],ar:=fun s=>s.A,mu:=fun s=>ds.length-s.k }
def tP(A0:aa)(g c:Nat)(ds:List aB)(rows:List (List Value))(L:List Nat):dE:=
 { γ:=LbG,G:=fun s=>s.k≤12∧A0.Sub s.A∧bV s.A g 16 32 (ds.length+s.k) c (rows.flatten++fl s.k)∧aO s.A ds rows L,
   keepS:= [0],keepB:= [],sl:=fun s=> [(6,.v (.int .i64 s.k)),(3,.v (.slice (some ⟨g,0,none⟩) (ds.length+s.k) c))],bl:=fun _=> [],ar:=fun s=>s.A,mu:=fun s=>12-s.k }
def iU(k i:Int):List Value:= [.int .i64 (mkI k i),.int .u8 0,.int .i64 0,.int .i64 0,.int .i64 0,.int .i64 0,.string ⟨#[]⟩,.slice none 0 0,.int .i64 0,.int .i64 0,.int .i64 0,.int .i64 0,.int .i64 0,.int .i64 0,.slice none 0 0,.slice none 0 0]
def l8:aL:=⟨Int×Int,fun g vs _=>vs= [.int .i64 g.1,.int .i64 g.2],fun g _ A v A'=>A'=A∧v=bx (iU g.1 g.2)⟩
theorem lq:FOk Tryz.prog 90 l8:=by
 refine aS mixed fun⟨k,i⟩ vs A hp=> ?_
 obtain rfl:vs= [.int .i64 k,.int .i64 i]:=hp;refine⟨noC,noL,60,aj _,ak _,fun blk os out tape D hD=> ?_⟩;conv=>lhs;whnf
 exact(hD _).2 ⟨rfl,rfl⟩
theorem Dp(k i:Int):∀v∈iU k i,v.oneCell'=true:=fun v hv=>by
 simp only [iU,List.mem_cons,List.not_mem_nil,or_false]at hv;rcases hv with rfl|rfl|rfl|rfl|rfl|rfl|rfl|rfl|rfl|rfl|rfl|rfl|rfl|rfl|rfl|rfl<;>rfl
theorem bH.nodup{A:aa}{d:aB}{cs:List Value}{L:List Nat}(h:bH A d cs L):L.Nodup:=by
 cases d
 rw [bH]at h;obtain⟨_,_,_,_,_,_,_,_,_,_,_,_,_,_,_,_,_,_,h⟩:=h;exact h
theorem x7(k:Nat):fl (k+1)=fl k++FC 1 k:=by
 unfold fl;rw [List.range_succ,List.flatMap_append,List.flatMap_singleton]
theorem wi(m:Nat)(ih:FOk Tryz.prog 13 (iy m)):FOk Tryz.prog 45 (iI m):=by
 refine aS mixed fun(ds:List aB) vs A hp=> ?_
 obtain⟨x,rfl,hsz,rows0,hS,hlen,hR⟩:∃x,vs= [x]∧(∀d∈ds,dSz d<m)∧gi A x ds:=hp;obtain⟨ao,c1,rfl,hc,hl,ha1,ha2,ha3⟩:=hS
 have hC:aF Tryz.prog (bu [aE 13 (iy m),aE 90 l8] noC):=az (aj _) (fun x hx=>by
  simp only [List.mem_cons,List.not_mem_nil,or_false]at hx;rcases hx with rfl|rfl
  ·exact ai ih
  ·exact ai lq)
 refine⟨_,da Tryz.prog _ noL 60 [(45,0),(45,2)],60,hC,aH mixed hC (ak _) _ _,fun blk os out tape D hD=> ?_⟩
 have hw:IntKind.i64.wrap ((ds.length:Int)+12)=((ds.length+12:Nat):Int):=by
  rw [Sx.wrap_i64 (by omega) (by omega)];omega
 obtain⟨c,hcd⟩:∃c:Nat,c=(IntKind.i64.wrap ((ds.length:Int)+12)).toNat:=⟨_,rfl⟩;have hce:c=ds.length+12:=by rw [hcd,hw,Int.toNat_natCast]
 have hsl:ds.length*184≤140737488351232:=hlen;conv=>lhs;whnf
 refine(hD _).2 ⟨by omega,by rw [hw];omega,by rw [hw];omega,by
  rw [←hcd,hce];show 184*(ds.length+12)≤_
  omega,rfl,fun g A1 cc hcl hNw=> ?_⟩
 have hNw:A.New A1 g cc 32:=hNw
 have hL0:bV A1 g 16 32 0 c []:=by
  refine⟨⟨cc,hNw.at_,?_,by simp⟩,Nat.zero_le _,rfl⟩;rw [←Array.length_toList,hcl,←hcd];simp [List.length_flatten];rfl
 conv=>lhs;whnf
 refine(hD _).2 ⟨tQ A g c ds,⟨(⟨0,A1, [], []⟩:LdG),⟨Nat.zero_le _,hNw.sub,hL0,by
  show aO A1 [] [] []
  rw [aO];exact⟨rfl,rfl⟩,fun _ h=>(by cases h),List.nodup_cons.2 ⟨List.not_mem_nil,List.nodup_nil⟩⟩,⟨rfl,by rw [hcd];rfl,trivial⟩,trivial,rfl⟩,fun(s:LdG) hG=>⟨⟨trivial,trivial,trivial⟩,trivial,?_⟩⟩
 obtain⟨k,As,rs,L⟩:=s;obtain⟨hk,hsA,hrow,hlents,hnew,hnd⟩:LdI A g c ds ⟨k,As,rs,L⟩:=hG;dsimp only at hk hsA hrow hlents hnew hnd
 have hgAs:∃o,As.blk g=some o:=by
  obtain⟨cc,h1,_⟩:=hrow.at_;exact⟨_,h1⟩
 obtain⟨og,hgAs⟩:=hgAs;have hgL:g∉L:=(List.nodup_cons.1 hnd).1;conv=>lhs;whnf
 refine ab (fun hlt=> ?_) (fun hlt=> ?_);rotate_left
 ·have hlt:¬(k:Int)<(ds.length:Int):=hlt
  obtain rfl:k=ds.length:=by omega
  rw [List.take_length]at hlents;conv=>lhs;whnf
  refine(hD _).2 ⟨tP A g c ds rs L,⟨(⟨0,As⟩:LbG),⟨Nat.zero_le _,hsA,by
   show bV As g 16 32 (ds.length+0) c (rs.flatten++ [])
   rw [Nat.add_zero,List.append_nil]
   exact hrow,hlents⟩,⟨rfl,rfl,trivial⟩,trivial,rfl⟩,fun(s:LbG) hG=>⟨⟨trivial,trivial,trivial⟩,trivial,?_⟩⟩
  obtain⟨j,At⟩:=s;obtain⟨hj,hsT,hrowT,hlentsT⟩:j≤12∧A.Sub At∧bV At g 16 32 (ds.length+j) c (rs.flatten++fl j)∧aO At ds rs L:=hG;conv=>lhs;whnf
  refine ab (fun hlt2=> ?_) (fun hlt2=> ?_);rotate_left
  ·have hlt2:¬(j:Int)<12:=hlt2
   have h12:j=12:=by omega
   subst h12;have hle1:(ds.length:Int)≤(c:Int):=by omega
   have hend:(iI m).post ds [] A (.slice (some ⟨g,0,none⟩) ds.length c) At:=⟨hsT,g,c,rs,L,rfl,hNw.none_,hrowT,hlentsT,hnew,hnd⟩;conv=>lhs;whnf
   refine bP hle1 ?_;conv=>lhs;whnf
   refine(hD _).2 ?_;show(iI m).post ds [] A (.slice (some ⟨g,0+(bif c.beq (Int.toNat 0)then 0 else Int.toNat 0*16),none⟩) (Int.toNat (ds.length:Int)-Int.toNat 0) (c-Int.toNat 0)) At
   rw [win0];exact hend
  have hlt2:(j:Int)<12:=hlt2;conv=>lhs;whnf
  refine(hD _).2 ⟨((1:Int),(j:Int)),rfl,fun v A9 hq=> ?_⟩;obtain⟨h9,hv⟩:A9=At∧v=bx (iU 1 j):=hq;subst h9;subst hv
  conv=>lhs;whnf
  refine(hD _).2 fun gb A5 hN5=> ?_
  have hN5:A9.New A5 gb (iU 1 j).toArray 32:=hN5;have hrow5:A5.rd gb 0 (1*16)=some (iU 1 j):=hN5.rd (o:=0) (n:=1*16) (by show 0+1*16≤16;omega);have hL5:=hrowT.sub hN5.sub;conv=>lhs;whnf
  refine(hD _).2 ⟨rs.flatten++fl j,iU 1 j,hL5.base,by
   show(if 1*16=0 then some []else A5.rd gb 0 (1*16))=_
   rw [if_neg (by omega)];exact hrow5,rfl,Dp 1 j,by
   show ds.length+j+1≤_
   omega,fun h9=>(by
   have h9:c<ds.length+j+1:=h9
   omega),rfl,fun h=>(by cases h),fun g' o' hb _ _=>(by
   injection hb with hb
   injection hb with e1 e2
   subst e1;subst e2
   refine hL5.room ?_;show 0+(ds.length+j)*16+16≤_
   omega),fun v A6 hA6=> ?_⟩
  obtain⟨hv,hL6,hs6,ho6⟩:=l9 hsT hNw.none_ hrowT hN5 (by omega) rfl hA6;subst hv;have e6:rs.flatten++fl (j+1)=rs.flatten++fl j++iU 1 j:=by rw [x7,List.append_assoc];rfl
  rw [←e6]at hL6;conv=>lhs;whnf
  exact(hD _).2 ⟨(⟨j+1,A6⟩:LbG),⟨⟨by show j+1≤12;omega,hs6,hL6,hlentsT.bk fun q hq=>by
   obtain⟨o,ho⟩:=hlentsT.live q hq
   rw [ho,ho6 q o (fun e=>hgL (e▸hq)) ho]⟩,⟨av (by omega),rfl,trivial⟩,trivial,rfl⟩,by show 12-(j+1)<12-j;omega,⟨an rfl rfl,trivial⟩,trivial⟩
 have hlt:(k:Int)<(ds.length:Int):=hlt;have hkl:k<ds.length:=by omega
 obtain⟨g',o',e,hra⟩:=Sl.at_ hc ha1 ha2 ha3 (by omega);subst e;obtain⟨ce,hce1,hde⟩:=fD hra hR k hkl rfl;have hce2:=aJ hsA hce1;have hde:=bj.sub hsA _ _ hde;have hde0:=hde;obtain⟨p0,p1,p2,p3,p4,p5,p6,q7,u7,n7,p8,p9,p10,p11,p12,p13,q14,u14,n14,q15,u15,n15,rfl⟩:=hde.sK;have i0:(0:Int)≤(k:Int)∧(k:Int)<(ds.length:Int):=by omega
 conv=>lhs;whnf
 repeat(first|refine aq i0 ?_|refine af hce2 ?_
        conv=>lhs;whnf)
 refine(hD _).2 ⟨ds[k],⟨_,rfl,hsz _ (List.getElem_mem _),hde0⟩,fun v A2 hq=> ?_⟩;have hq:As.Sub A2∧∃cs L,v=bx cs∧bH A2 ds[k] cs L∧∀k∈L,As.blk k=none:=hq;obtain⟨s2,cs2,L2,hv,hlr,hn2⟩:=hq;subst hv;obtain⟨p0,p1,p2,p3,p4,p5,p6,q7,u7,n7,p8,p9,p10,p11,p12,p13,q14,u14,n14,q15,u15,n15,hcs2⟩:=hlr.ask.sK;subst hcs2;obtain⟨cs2,hcs2⟩:∃cs2:List Value,cs2= [.int .i64 p0,.int .u8 p1,.int .i64 p2,.int .i64 p3,.int .i64 p4,.int .i64 p5,.string p6,.slice q7 u7 n7,.int .i64 p8,.int .i64 p9,.int .i64 p10,.int .i64 p11,.int .i64 p12,.int .i64 p13,.slice q14 u14 n14,.slice q15 u15 n15]:=⟨_,rfl⟩;rw [←hcs2]at hlr;have hone:=hlr.one;have hlen16:=hlr.len;conv=>lhs;whnf
 refine(hD _).2 fun gb A5 hN5=> ?_
 have hN5:A2.New A5 gb #[.int .i64 p0,.int .u8 p1,.int .i64 p2,.int .i64 p3,.int .i64 p4,.int .i64 p5,.string p6,.slice q7 u7 n7,.int .i64 p8,.int .i64 p9,.int .i64 p10,.int .i64 p11,.int .i64 p12,.int .i64 p13,.slice q14 u14 n14,.slice q15 u15 n15] 32:=hN5
 have hrow5:A5.rd gb 0 (1*16)=some cs2:=by
  rw [hcs2];exact hN5.rd (o:=0) (n:=1*16) (by show 0+1*16≤16;omega)
 have hrow2:=hrow.sub s2;have hL5:=hrow2.sub hN5.sub;conv=>lhs;whnf
 refine(hD _).2 ⟨rs.flatten,cs2,hL5.base,by
  show(if 1*16=0 then some []else A5.rd gb 0 (1*16))=_
  rw [if_neg (by omega)];exact hrow5,hlen16,hone,by
  show k+1≤_
  omega,fun h9=>(by
  have h9:c<k+1:=h9
  omega),rfl,fun h=>(by cases h),fun g' o' hb _ _=>(by
  injection hb with hb
  injection hb with e1 e2
  subst e1;subst e2
  refine hL5.room ?_;show 0+k*16+cs2.length≤_
  omega),fun v A6 hA6=> ?_⟩
 obtain⟨hv,hL6,hs6,ho6⟩:=l9 (hsA.trans s2) hNw.none_ hrow2 hN5 (by omega) hlen16 hA6;subst hv;have hgL2:g∉L2:=pL hn2 hgAs
 have hG':LdI A g c ds ⟨k+1,A6,rs++ [cs2],L++L2⟩:=by
  refine⟨hkl,hs6,?_,?_,fun q hq=> ?_,?_⟩
  ·show bV A6 g 16 32 (k+1) c (rs++ [cs2]).flatten
   rw [List.flatten_append,List.flatten_singleton];exact hL6
  ·show aO A6 (ds.take (k+1)) (rs++ [cs2]) (L++L2)
   rw [List.take_succ_eq_append_getElem hkl];refine(hlents.bk fun q hq=> ?_).snoc (hlr.bk fun q hq=> ?_)
   ·obtain⟨o,ho⟩:=hlents.live q hq
    rw [ho,ho6 q o (fun e=>hgL (e▸hq)) (s2 q o ho)]
   ·obtain⟨o,ho⟩:=hlr.live q hq
    rw [ho,ho6 q o (fun e=>hgL2 (e▸hq)) ho]
  ·rcases List.mem_append.1 hq with hq|hq
   ·exact hnew q hq
   ·cases hA:A.blk q with
    |none=>rfl
    |some o=>have:=hn2 q hq;rw [hsA q o hA]at this;cases this
  ·show(g::(L++L2)).Nodup
   rw [List.nodup_cons];refine⟨fun h=> ?_,List.nodup_append.2 ⟨(List.nodup_cons.1 hnd).2,hlr.nodup,fun a ha b hb e=> ?_⟩⟩
   ·rcases List.mem_append.1 h with h|h
    ·exact hgL h
    ·exact hgL2 h
   ·subst e
    obtain⟨o,ho⟩:=hlents.live a ha;have:=hn2 a hb;rw [ho]at this;cases this
 conv=>lhs;whnf
 exact(hD _).2 ⟨(⟨k+1,A6,rs++ [cs2],L++L2⟩:LdG),⟨hG',⟨av (by omega),rfl,trivial⟩,trivial,rfl⟩,by show ds.length-(k+1)<ds.length-k;omega,⟨an rfl rfl,trivial⟩,trivial⟩
theorem oa:∀m,FOk Tryz.prog 13 (iy m)
 |0=>fun g vs A w _ hp=>by obtain⟨_,_,h,_⟩:=hp;omega
 |m+1=>yh m (wi m (oa m))
def lentDeedS':aL:=⟨aB,fun d vs A=>∃cs,vs= [bx cs]∧bj A d cs,
 fun d _ A v A'=>A.Sub A'∧∃cs L,v=bx cs∧bH A' d cs L∧∀k∈L,A.blk k=none⟩
theorem yg:FOk Tryz.prog 13 lentDeedS':=fun d vs A w hA ⟨x,h1,h2⟩=>
 oa (dSz d+1) d vs A w hA ⟨x,h1,Nat.lt_succ_self _,h2⟩
end
end Go.Proofs.YtphigpccfbfnoaaGreatDoor
