/-
  Parts of the proof: ImA
-/
import Derived.Test.YtmmlhdiejkknnaaGreatDoorG15
import Derived.Test.YtmmlhdiejkknnaaGreatDoorG18
set_option maxRecDepth 100000
set_option maxHeartbeats 0
namespace Go.Proofs.YtmmlhdiejkknnaaGreatDoor
open Go.Sx Go.RowKit
noncomputable section
open Classical
def xG:aY:=⟨ji,fun g vs A=>ImgA g vs A∧EZ g,fun g _ A v A'=>PutR g A v A'⟩
def zk(A0:aa)(w:Nat)(l:List (aO×Value))(sl:List (Nat×SV)):fj:=
 { γ:=Nat×aa,G:=fun s=>s.1≤l.length∧BfN A0 s.2 w ([1]++ab l.length++((l.take s.1).map (·.1)).flatMap fp),
   keepS:= [],keepB:= [0],sl:=fun s=>(37,.v (.int .i64 s.1))::sl,bl:=fun _=> [],ar:=fun s=>s.2,mu:=fun s=>l.length-s.1 }
def zj(A0:aa)(w:Nat)(b:List UInt8)(ss:List bn)(sl:List (Nat×SV)):fj:=
 { γ:=Nat×aa,G:=fun s=>s.1≤ss.length∧BfN A0 s.2 w (b++(ss.take s.1).flatMap j0),
   keepS:= [],keepB:= [0],sl:=fun s=>(66,.v (.int .i64 s.1))::sl,bl:=fun _=> [],ar:=fun s=>s.2,mu:=fun s=>ss.length-s.1 }
theorem putC:aI Tryz.prog (bQ [aM 63 tV,aM 65 DA,aM 66 Dy,aM 67 Dx,aM 68 vy,aM 72 xX,aM 70 uf,aM 71 o8] noC):=aD (aA _) (fun x hx=>by
 simp only [List.mem_cons,List.not_mem_nil,or_false]at hx;rcases hx with rfl|rfl|rfl|rfl|rfl|rfl|rfl|rfl
 ·exact au D0
 ·exact au Dz
 ·exact au zo
 ·exact au Dw
 ·exact au xY
 ·exact au vx
 ·exact au BH
 ·exact au Ad)
theorem put_ok:FOk Tryz.prog 13 xG:=by
 refine oO mixed alWr fun(g:ji) vs A hp=> ?_
 obtain⟨l,ss,ver,ms,f,t⟩:=g;obtain⟨⟨x,y,vm,rfl,hN,hS,hM,hl1,hsh⟩,hi1,hi2,hi3,hi4⟩:(∃x y vm,vs= [x,y,.agg #[.int .i64 ver,vm],.int .i64 f,.int .i64 t]∧eL A x l∧SlS A y ss∧gq A vm ms∧l.length≤1000000∧oh l)∧(∀x∈l,fh x.1.stat)∧(∀s∈ss,na s)∧I64 f∧I64 t:=hp;have hN0:=hN;obtain⟨⟨an,cn,rfl,hcn, -,hn1,hn2,hn3⟩,hda⟩:=hN0;have hY:=hM.1.form;obtain⟨am,cm,rfl⟩:=hY;have hS0:=hS;obtain⟨⟨ao,c,rfl,hc, -,ha1,ha2,ha3⟩,hsl⟩:=hS0;refine⟨_,ic Tryz.prog _ noL 60 [(13,0),(13,4)],60,putC,bg mixed putC (az _) _ _,fun blk os out tape D hD=> ?_⟩;conv=>lhs;whnf
 refine(hD _).2 ⟨(⟨l,ss,ver,ms,f,t⟩:ji),⟨_,_,_,rfl,hN,hS,hM,hl1,hsh⟩,fun v A1 hq=> ?_⟩;have hq:A1=A∧v= .bool (decide (ji.mk l ss ver ms f t).ok):=hq;have h9:=hq.1.symm;have hv:=hq.2;subst h9;clear hq
 by_cases hok:(ji.mk l ss ver ms f t).ok
 rotate_left
 ·rw [decide_eq_false hok]at hv
  subst hv;have hend:xG.post ⟨l,ss,ver,ms,f,t⟩ [] A (.tuple #[.slice none 0 0,.int .i64 4]) A:=⟨aa.Sub.refl _,fun _=>rfl,fun h=>absurd h hok⟩;conv=>lhs;whnf
  exact(hD _).2 hend
 rw [decide_eq_true hok]at hv;subst hv;have hok0:fP (l.map (·.1)) ss ver ms f t:=hok
 have hl5:l.length≤500:=by
  have:=hok0.2.1
  rwa [List.length_map]at this
 conv=>lhs;whnf
 refine(hD _).2 fun w A1 hN1=> ?_
 have hN1:A.New A1 w #[.slice none 0 0,.int .i64 0,.int .i8 0] 195:=hN1;have hW:=BfN.new (aa.Sub.refl A) hN1 rfl;conv=>lhs;whnf
 refine(hD _).2 ⟨((⟨A,w, []⟩,1):NwG×UInt8),⟨rfl,hW,Nat.zero_le _⟩,fun v A2 hq=> ?_⟩;have hq:v= .tuple #[]∧BfN A A2 w ([]++ [1]):=hq;have hv:=hq.1;have hW:=hq.2;rw [List.nil_append]at hW;subst hv;clear hq;conv=>lhs;whnf
 refine(hD _).2 ⟨((⟨A,w, [1]⟩,(l.length:Int)):NwG×Int),⟨rfl,hW,by show([1]:List UInt8).length≤_;decide,by show _≤(l.length:Int);omega,by show(l.length:Int)≤_;omega⟩,fun v A3 hq=> ?_⟩;have hq:v= .tuple #[]∧BfN A A3 w ([1]++ab l.length):=hq;have hv:=hq.1;have hW:=hq.2;subst hv;clear hq;conv=>lhs;whnf
 have hG0:BfN A A3 w ([1]++ab l.length++((l.take 0).map (·.1)).flatMap fp):=by
  show BfN A A3 w ([1]++ab l.length++ [])
  rw [List.append_nil];exact hW
 refine(hD _).2 ⟨zk A w l [(35,.v (.slice an l.length cn)),(36,.v (.int .i64 l.length)),(12,.v (.pointer (some ⟨w,0,none⟩))),(1,.v (.slice ao ss.length c)),(3,.v (.int .i64 f)),(4,.v (.int .i64 t)),(7,.ptr 0 0)],⟨((0,A3):Nat×aa),⟨Nat.zero_le _,hG0⟩,⟨rfl,rfl,rfl,rfl,rfl,rfl,rfl,rfl,trivial⟩,trivial,rfl⟩,fun(s:Nat×aa) hG=>⟨⟨trivial,trivial,trivial,trivial,trivial,trivial,trivial,Nat.lt_succ_self 0,trivial⟩,trivial,?_⟩⟩;clear hG0 hW hN1;obtain⟨k,A4⟩:=s;obtain⟨hk,hW⟩:k≤l.length∧BfN A A4 w ([1]++ab l.length++((l.take k).map (·.1)).flatMap fp):=hG;obtain⟨b0,hb0⟩:∃b0,b0= [1]++ab l.length++((l.take k).map (·.1)).flatMap fp:=⟨_,rfl⟩;have hfits:∀x∈l,bM x.1:=fun x hx=>p6 hok0 x.1 (List.mem_map_of_mem hx)
 have hbl:b0.length≤656000:=by
  have h9:=qx (l:=(l.take k).map (·.1)) fun x hx=>by
   obtain⟨y,hy,rfl⟩:=List.mem_map.1 hx;exact hfits y (List.mem_of_mem_take hy)
  rw [List.length_map,List.length_take]at h9;have h8:min k l.length*1310≤655000:=by omega
  have h7:=aV (l.length:Int);rw [hb0,List.length_append,List.length_append];have:([1]:List UInt8).length=1:=rfl;omega
 rw [←hb0]at hW;conv=>lhs;whnf
 refine af (fun hlt=> ?_) (fun hlt=> ?_)
 ·have hkl:k<l.length:=by
    have hlt:(k:Int)<(l.length:Int):=hlt;omega
  obtain⟨gn,on,rfl,hrn⟩:=Sl.at_ hcn hn1 hn2 hn3 (by omega);have r1:=bI hW.1 (eI (enc:=cV) (fun _=>rfl) hrn k hkl rfl);have i0:(0:Int)≤(k:Int)∧(k:Int)<(l.length:Int):=by omega
  have hfin:∀A9,BfN A A9 w (b0++fp l[k].1)→(zk A w l [(35,.v (.slice (some ⟨gn,on,none⟩) l.length cn)),(36,.v (.int .i64 l.length)),(12,.v (.pointer (some ⟨w,0,none⟩))),(1,.v (.slice ao ss.length c)),(3,.v (.int .i64 f)),(4,.v (.int .i64 t)),(7,.ptr 0 0)]).G (k+1,A9):=fun A9 h9=>by
   refine⟨hkl,?_⟩;show BfN A A9 w ([1]++ab l.length++((l.take (k+1)).map (·.1)).flatMap fp)
   rw [List.take_succ_eq_append_getElem hkl,List.map_append,List.flatMap_append,←List.append_assoc,←hb0];simpa using h9
  have hfk:=hfits l[k] (List.getElem_mem _);have hik:=hi1 l[k] (List.getElem_mem _);have hdk:=hda l[k] (List.getElem_mem _);generalize l[k]=x at*;obtain⟨⟨p,d,⟨s1,s2,s3,s4,s5,s6,s7,s8,s9,s10⟩⟩,vd⟩:=x;obtain⟨ad,cd,hvd⟩:=hdk.1.form;have hvd:vd= .slice ad d.length cd:=hvd;subst hvd;have r1:A4.rd gn (on+k*12) 12=some [.string p,.slice ad d.length cd,.int .i64 s1,.int .i64 s2,.int .i64 s3,.int .i64 s4,.int .i64 s5,.int .i64 s6,.int .i64 s7,.int .i64 s8,.int .i64 s9,.int .i64 s10]:=r1;have hpl:p.data.toList.length≤200:=gN hfk.1;have hdl:d.length≤1000:=hfk.2.1;obtain⟨i1,i2,i3,i4,i5,i6,i7,i8⟩:I64 s1∧I64 s2∧I64 s3∧I64 s4∧I64 s5∧I64 s6∧I64 s7∧I64 s8:=hik;have hfin:∀A9,BfN A A9 w (b0++(ab p.data.toList.length++p.data.toList++(ab d.length++d)++(ab s1++ab s2++ab s3++ab s4++ab s5++ab s6++ab s7++ab s8)))→_:=hfin;simp only [←List.append_assoc]at hfin;have l0:=aV (p.data.toList.length:Int);have l9:=aV (d.length:Int);have l1:=aV s1;have l2:=aV s2;have l3:=aV s3;have l4:=aV s4;have l5:=aV s5;have l6:=aV s6;have l7:=aV s7;have l8:=aV s8;conv=>lhs;whnf
  repeat(first|refine cO i0 ?_|refine ai r1 ?_|refine aj hD rfl ?_
         conv=>lhs;whnf)
  refine(hD _).2 ⟨((⟨A,w,b0⟩,p.data.toList):NwG×List UInt8),⟨rfl,hW,by show b0.length+p.data.toList.length≤_;omega⟩,fun v A9 hq=> ?_⟩;have hq:v= .tuple #[]∧BfN A A9 w (b0++ab p.data.toList.length++p.data.toList):=hq;have hv:=hq.1;have hW:=hq.2;subst hv;clear hq;conv=>lhs;whnf
  repeat(first|refine aj hD rfl ?_
         conv=>lhs;whnf)
  refine(hD _).2 ⟨((⟨A,w,b0++ab p.data.toList.length++p.data.toList⟩,d):NwG×List UInt8),⟨_,rfl,hW,by show(b0++ab p.data.toList.length++p.data.toList).length+d.length≤_;simp only [List.length_append];omega,.inl hdk.1⟩,fun v A9 hq=> ?_⟩;have hq:v= .tuple #[]∧BfN A A9 w (b0++ab p.data.toList.length++p.data.toList++ab d.length++d):=hq;have hv:=hq.1;have hW:=hq.2;subst hv;clear hq;conv=>lhs;whnf
  repeat(first|refine aj hD rfl ?_
         conv=>lhs;whnf)
  refine(hD _).2 ⟨((⟨A,w,b0++ab p.data.toList.length++p.data.toList++ab d.length++d⟩,s1):NwG×Int),⟨rfl,hW,by show(b0++ab p.data.toList.length++p.data.toList++ab d.length++d).length≤_;(try simp only [List.length_append]);omega,i1.1,i1.2⟩,fun v N1 hq=> ?_⟩;have hq:v= .tuple #[]∧BfN A N1 w (b0++ab p.data.toList.length++p.data.toList++ab d.length++d++ab s1):=hq;have hv:=hq.1;have hW:=hq.2;subst hv;clear hq;conv=>lhs;whnf
  repeat(first|refine aj hD rfl ?_
         conv=>lhs;whnf)
  refine(hD _).2 ⟨((⟨A,w,b0++ab p.data.toList.length++p.data.toList++ab d.length++d++ab s1⟩,s2):NwG×Int),⟨rfl,hW,by show(b0++ab p.data.toList.length++p.data.toList++ab d.length++d++ab s1).length≤_;(try simp only [List.length_append]);omega,i2.1,i2.2⟩,fun v N2 hq=> ?_⟩;have hq:v= .tuple #[]∧BfN A N2 w (b0++ab p.data.toList.length++p.data.toList++ab d.length++d++ab s1++ab s2):=hq;have hv:=hq.1;have hW:=hq.2;subst hv;clear hq;conv=>lhs;whnf
  repeat(first|refine aj hD rfl ?_
         conv=>lhs;whnf)
  refine(hD _).2 ⟨((⟨A,w,b0++ab p.data.toList.length++p.data.toList++ab d.length++d++ab s1++ab s2⟩,s3):NwG×Int),⟨rfl,hW,by show(b0++ab p.data.toList.length++p.data.toList++ab d.length++d++ab s1++ab s2).length≤_;(try simp only [List.length_append]);omega,i3.1,i3.2⟩,fun v N3 hq=> ?_⟩;have hq:v= .tuple #[]∧BfN A N3 w (b0++ab p.data.toList.length++p.data.toList++ab d.length++d++ab s1++ab s2++ab s3):=hq;have hv:=hq.1;have hW:=hq.2;subst hv;clear hq;conv=>lhs;whnf
  repeat(first|refine aj hD rfl ?_
         conv=>lhs;whnf)
  refine(hD _).2 ⟨((⟨A,w,b0++ab p.data.toList.length++p.data.toList++ab d.length++d++ab s1++ab s2++ab s3⟩,s4):NwG×Int),⟨rfl,hW,by show(b0++ab p.data.toList.length++p.data.toList++ab d.length++d++ab s1++ab s2++ab s3).length≤_;(try simp only [List.length_append]);omega,i4.1,i4.2⟩,fun v N4 hq=> ?_⟩;have hq:v= .tuple #[]∧BfN A N4 w (b0++ab p.data.toList.length++p.data.toList++ab d.length++d++ab s1++ab s2++ab s3++ab s4):=hq;have hv:=hq.1;have hW:=hq.2;subst hv;clear hq;conv=>lhs;whnf
  repeat(first|refine aj hD rfl ?_
         conv=>lhs;whnf)
  refine(hD _).2 ⟨((⟨A,w,b0++ab p.data.toList.length++p.data.toList++ab d.length++d++ab s1++ab s2++ab s3++ab s4⟩,s5):NwG×Int),⟨rfl,hW,by show(b0++ab p.data.toList.length++p.data.toList++ab d.length++d++ab s1++ab s2++ab s3++ab s4).length≤_;(try simp only [List.length_append]);omega,i5.1,i5.2⟩,fun v N5 hq=> ?_⟩;have hq:v= .tuple #[]∧BfN A N5 w (b0++ab p.data.toList.length++p.data.toList++ab d.length++d++ab s1++ab s2++ab s3++ab s4++ab s5):=hq;have hv:=hq.1;have hW:=hq.2;subst hv;clear hq;conv=>lhs;whnf
  repeat(first|refine aj hD rfl ?_
         conv=>lhs;whnf)
  refine(hD _).2 ⟨((⟨A,w,b0++ab p.data.toList.length++p.data.toList++ab d.length++d++ab s1++ab s2++ab s3++ab s4++ab s5⟩,s6):NwG×Int),⟨rfl,hW,by show(b0++ab p.data.toList.length++p.data.toList++ab d.length++d++ab s1++ab s2++ab s3++ab s4++ab s5).length≤_;(try simp only [List.length_append]);omega,i6.1,i6.2⟩,fun v N6 hq=> ?_⟩;have hq:v= .tuple #[]∧BfN A N6 w (b0++ab p.data.toList.length++p.data.toList++ab d.length++d++ab s1++ab s2++ab s3++ab s4++ab s5++ab s6):=hq;have hv:=hq.1;have hW:=hq.2;subst hv;clear hq;conv=>lhs;whnf
  repeat(first|refine aj hD rfl ?_
         conv=>lhs;whnf)
  refine(hD _).2 ⟨((⟨A,w,b0++ab p.data.toList.length++p.data.toList++ab d.length++d++ab s1++ab s2++ab s3++ab s4++ab s5++ab s6⟩,s7):NwG×Int),⟨rfl,hW,by show(b0++ab p.data.toList.length++p.data.toList++ab d.length++d++ab s1++ab s2++ab s3++ab s4++ab s5++ab s6).length≤_;(try simp only [List.length_append]);omega,i7.1,i7.2⟩,fun v N7 hq=> ?_⟩;have hq:v= .tuple #[]∧BfN A N7 w (b0++ab p.data.toList.length++p.data.toList++ab d.length++d++ab s1++ab s2++ab s3++ab s4++ab s5++ab s6++ab s7):=hq;have hv:=hq.1;have hW:=hq.2;subst hv;clear hq;conv=>lhs;whnf
  repeat(first|refine aj hD rfl ?_
         conv=>lhs;whnf)
  refine(hD _).2 ⟨((⟨A,w,b0++ab p.data.toList.length++p.data.toList++ab d.length++d++ab s1++ab s2++ab s3++ab s4++ab s5++ab s6++ab s7⟩,s8):NwG×Int),⟨rfl,hW,by show(b0++ab p.data.toList.length++p.data.toList++ab d.length++d++ab s1++ab s2++ab s3++ab s4++ab s5++ab s6++ab s7).length≤_;(try simp only [List.length_append]);omega,i8.1,i8.2⟩,fun v N8 hq=> ?_⟩;have hq:v= .tuple #[]∧BfN A N8 w (b0++ab p.data.toList.length++p.data.toList++ab d.length++d++ab s1++ab s2++ab s3++ab s4++ab s5++ab s6++ab s7++ab s8):=hq;have hv:=hq.1;have hW:=hq.2;subst hv;clear hq;conv=>lhs;whnf
  repeat(first|refine aj hD rfl ?_
         conv=>lhs;whnf)
  have hG9:=hfin _ hW;exact(hD _).2 ⟨((k+1,_):Nat×aa),⟨hG9,⟨bf (by omega),rfl,rfl,rfl,rfl,rfl,rfl,rfl,trivial⟩,trivial,rfl⟩,by show l.length-(k+1)<l.length-k;omega,trivial,⟨dr rfl rfl,trivial⟩⟩
 ·have hk9:k=l.length:=by
    have hlt:¬(k:Int)<(l.length:Int):=hlt;omega
  subst hk9;rw [List.take_length]at hb0;have hs5:ss.length≤200:=hok0.2.2.1;have hlsl:=aV (ss.length:Int);conv=>lhs;whnf
  refine(hD _).2 ⟨((⟨A,w,b0⟩,(ss.length:Int)):NwG×Int),⟨rfl,hW,by show b0.length≤_;omega,by show _≤(ss.length:Int);omega,by show(ss.length:Int)≤_;omega⟩,fun v A5 hq=> ?_⟩;have hq:v= .tuple #[]∧BfN A A5 w (b0++ab ss.length):=hq;have hv:=hq.1;have hW:=hq.2;subst hv;clear hq;conv=>lhs;whnf
  obtain⟨b1,hb1⟩:∃b1,b1=b0++ab ss.length:=⟨_,rfl⟩;have hbl1:b1.length≤656010:=by rw [hb1,List.length_append];omega
  rw [←hb1]at hW
  have hG0:BfN A A5 w (b1++(ss.take 0).flatMap j0):=by
   show BfN A A5 w (b1++ [])
   rw [List.append_nil];exact hW
  refine(hD _).2 ⟨zj A w b1 ss [(64,.v (.slice ao ss.length c)),(65,.v (.int .i64 ss.length)),(12,.v (.pointer (some ⟨w,0,none⟩))),(3,.v (.int .i64 f)),(4,.v (.int .i64 t)),(7,.ptr 0 0)],⟨((0,A5):Nat×aa),⟨Nat.zero_le _,hG0⟩,⟨rfl,rfl,rfl,rfl,rfl,rfl,rfl,trivial⟩,trivial,rfl⟩,fun(s:Nat×aa) hG=>⟨⟨trivial,trivial,trivial,trivial,trivial,trivial,Nat.lt_succ_self 0,trivial⟩,trivial,?_⟩⟩;clear hG0 hW;obtain⟨k,A6⟩:=s;obtain⟨hk,hW⟩:k≤ss.length∧BfN A A6 w (b1++(ss.take k).flatMap j0):=hG;obtain⟨b2,hb2⟩:∃b2,b2=b1++(ss.take k).flatMap j0:=⟨_,rfl⟩
  have hbl2:b2.length≤663000:=by
   have h9:=iz CF (ss.take k);rw [List.length_take]at h9;have h8:min k ss.length*30≤6000:=by omega
   rw [hb2,List.length_append];omega
  rw [←hb2]at hW;conv=>lhs;whnf
  refine af (fun hlt=> ?_) (fun hlt=> ?_)
  ·have hkl:k<ss.length:=by
     have hlt:(k:Int)<(ss.length:Int):=hlt;omega
   obtain⟨g,o,rfl,hra⟩:=Sl.at_ hc ha1 ha2 ha3 (by omega);have r1:=bI hW.1 (eI (enc:=cz) (fun _=>rfl) hra k hkl rfl);have i0:(0:Int)≤(k:Int)∧(k:Int)<(ss.length:Int):=by omega
   have hik:=hi2 ss[k] (List.getElem_mem _)
   have hfin:∀A9,BfN A A9 w (b2++j0 ss[k])→(zj A w b1 ss [(64,.v (.slice (some ⟨g,o,none⟩) ss.length c)),(65,.v (.int .i64 ss.length)),(12,.v (.pointer (some ⟨w,0,none⟩))),(3,.v (.int .i64 f)),(4,.v (.int .i64 t)),(7,.ptr 0 0)]).G (k+1,A9):=fun A9 h9=>by
    refine⟨hkl,?_⟩;show BfN A A9 w (b1++(ss.take (k+1)).flatMap j0)
    rw [mQ j0 ss hkl,←List.append_assoc,←hb2];exact h9
   generalize ss[k]=sk at*;obtain⟨ses,tmo,trn⟩:=sk;have r1:A6.rd g (o+k*3) 3=some [.int .i64 ses,.int .i64 tmo,.int .i64 trn]:=r1;obtain⟨i1,i2,i3⟩:I64 ses∧I64 tmo∧I64 trn:=hik;have hfin:∀A9,BfN A A9 w (b2++(ab ses++ab tmo++ab trn))→_:=hfin;simp only [←List.append_assoc]at hfin;have l1:=aV ses;have l2:=aV tmo;have l3:=aV trn;conv=>lhs;whnf
   repeat(first|refine cO i0 ?_|refine ai r1 ?_|refine aj hD rfl ?_
          conv=>lhs;whnf)
   refine(hD _).2 ⟨((⟨A,w,b2⟩,ses):NwG×Int),⟨rfl,hW,by show(b2).length≤_;(try simp only [List.length_append]);omega,i1.1,i1.2⟩,fun v T1 hq=> ?_⟩;have hq:v= .tuple #[]∧BfN A T1 w (b2++ab ses):=hq;have hv:=hq.1;have hW:=hq.2;subst hv;clear hq;conv=>lhs;whnf
   repeat(first|refine aj hD rfl ?_
          conv=>lhs;whnf)
   refine(hD _).2 ⟨((⟨A,w,b2++ab ses⟩,tmo):NwG×Int),⟨rfl,hW,by show(b2++ab ses).length≤_;(try simp only [List.length_append]);omega,i2.1,i2.2⟩,fun v T2 hq=> ?_⟩;have hq:v= .tuple #[]∧BfN A T2 w (b2++ab ses++ab tmo):=hq;have hv:=hq.1;have hW:=hq.2;subst hv;clear hq;conv=>lhs;whnf
   repeat(first|refine aj hD rfl ?_
          conv=>lhs;whnf)
   refine(hD _).2 ⟨((⟨A,w,b2++ab ses++ab tmo⟩,trn):NwG×Int),⟨rfl,hW,by show(b2++ab ses++ab tmo).length≤_;(try simp only [List.length_append]);omega,i3.1,i3.2⟩,fun v T3 hq=> ?_⟩;have hq:v= .tuple #[]∧BfN A T3 w (b2++ab ses++ab tmo++ab trn):=hq;have hv:=hq.1;have hW:=hq.2;subst hv;clear hq;conv=>lhs;whnf
   repeat(first|refine aj hD rfl ?_
          conv=>lhs;whnf)
   have hG9:=hfin _ hW;exact(hD _).2 ⟨((k+1,_):Nat×aa),⟨hG9,⟨bf (by omega),rfl,rfl,rfl,rfl,rfl,rfl,trivial⟩,trivial,rfl⟩,by show ss.length-(k+1)<ss.length-k;omega,trivial,⟨dr rfl rfl,trivial⟩⟩
  ·have hk9:k=ss.length:=by
     have hlt:¬(k:Int)<(ss.length:Int):=hlt;omega
   subst hk9;rw [List.take_length]at hb2;have hE:fL ver ms=0:=hok0.2.2.2.1;have hin:=yx hE;conv=>lhs;whnf
   refine(hD _).2 ⟨((ver,ms):Int×List bC),⟨_,rfl,hM.sub hW.1,hE⟩,fun v A7 hq=> ?_⟩;have hq:A6.Sub A7∧∃x,v= .tuple #[x,.int .i64 0]∧SlB (A7.minus A6) x (dJ ver ms):=hq;obtain⟨s7,x,hv,hX⟩:=hq;subst hv;have hxf:=hX.1.form;obtain⟨ax,cx,hxf⟩:=hxf;subst hxf;have hW7:=hW.grow s7
   have hel:(dJ ver ms).length≤300:=by
    have h9:=iz vz ms;have h1:=aV ver;have h2:=aV (ms.length:Int);have h3:=hin.1;unfold dJ;rw [List.length_append,List.length_append];have:ms.length*40≤280:=by omega
    omega
   have l0:=aV ((dJ ver ms).length:Int);have l1:=aV f;have l2:=aV t;conv=>lhs;whnf
   repeat(first|refine aj hD rfl ?_
          conv=>lhs;whnf)
   refine(hD _).2 ⟨((⟨A,w,b2⟩,dJ ver ms):NwG×List UInt8),⟨_,rfl,hW7,by show b2.length+(dJ ver ms).length≤_;omega,.inr ⟨A6,hW,s7,hX.1⟩⟩,fun v A9 hq=> ?_⟩;have hq:v= .tuple #[]∧BfN A A9 w (b2++ab (dJ ver ms).length++dJ ver ms):=hq;have hv:=hq.1;have hW:=hq.2;subst hv;clear hq;conv=>lhs;whnf
   repeat(first|refine aj hD rfl ?_
          conv=>lhs;whnf)
   refine(hD _).2 ⟨((⟨A,w,b2++ab (dJ ver ms).length++dJ ver ms⟩,f):NwG×Int),⟨rfl,hW,by show(b2++ab (dJ ver ms).length++dJ ver ms).length≤_;(try simp only [List.length_append]);omega,hi3.1,hi3.2⟩,fun v F1 hq=> ?_⟩;have hq:v= .tuple #[]∧BfN A F1 w (b2++ab (dJ ver ms).length++dJ ver ms++ab f):=hq;have hv:=hq.1;have hW:=hq.2;subst hv;clear hq;conv=>lhs;whnf
   repeat(first|refine aj hD rfl ?_
          conv=>lhs;whnf)
   refine(hD _).2 ⟨((⟨A,w,b2++ab (dJ ver ms).length++dJ ver ms++ab f⟩,t):NwG×Int),⟨rfl,hW,by show(b2++ab (dJ ver ms).length++dJ ver ms++ab f).length≤_;(try simp only [List.length_append]);omega,hi4.1,hi4.2⟩,fun v F2 hq=> ?_⟩;have hq:v= .tuple #[]∧BfN A F2 w (b2++ab (dJ ver ms).length++dJ ver ms++ab f++ab t):=hq;have hv:=hq.1;have hW:=hq.2;subst hv;clear hq;conv=>lhs;whnf
   repeat(first|refine aj hD rfl ?_
          conv=>lhs;whnf)
   have hbb:b2++ab (dJ ver ms).length++dJ ver ms++ab f++ab t=ew (l.map (·.1)) ss ver ms f t:=by
    rw [hb2,hb1,hb0];unfold ew;rw [List.length_map]
   have hbl9:(ew (l.map (·.1)) ss ver ms f t).length≤663400:=by
    rw [←hbb];simp only [List.length_append];omega
   rw [hbb]at hW;have hfin9:∀(L:LsD) (A11:aa),A.Sub A11→LsN A A11 L ((de (ew (l.map (·.1)) ss ver ms f t)).map bv)→xG.post ⟨l,ss,ver,ms,f,t⟩ [] A (.tuple #[L.v,.int .i64 0]) A11:=fun L A11 k1 k2=>⟨k1,fun h=>absurd hok h,fun _=>⟨by show(ew (l.map (·.1)) ss ver ms f t).length≤_;omega,L,rfl,k2⟩⟩
   generalize ew (l.map (·.1)) ss ver ms f t=B at hW hbl9 hfin9;refine(hD _).2 ⟨(⟨A,w,B⟩:NwG),⟨rfl,hW,by show B.length≤_;omega⟩,fun v A10 hq=> ?_⟩;obtain⟨s10,hS⟩:F2.Sub A10∧SlB (A10.minus F2) v B:=hq;have hvf:=hS.1.form;obtain⟨av,cv,hvf⟩:=hvf;subst hvf;conv=>lhs;whnf
   repeat(first|refine aj hD rfl ?_
          conv=>lhs;whnf)
   refine(hD _).2 ⟨B,⟨_,rfl,hS.sub (bk _ _)⟩,fun v A11 hq=> ?_⟩;obtain⟨s11,hq1, -⟩:A10.Sub A11∧(B.length≤1048576→∃L:LsD,v= .tuple #[L.v,.int .i64 0]∧LsN A10 A11 L ((de B).map bv))∧(1048576<B.length→v= .tuple #[.slice none 0 0,.int .i64 3]):=hq;have hq2:=hq1 (by omega);obtain⟨L,hv,hL1,hL2⟩:=hq2;have hap:=hL1.app;obtain⟨bs,hbs, -⟩:=hap;rw [hbs]at hv;subst hv;have hA10:=hW.1.trans s10;have hend:=hfin9 L A11 (hA10.trans s11) ⟨hL1,fun g hg=>gA hA10 (hL2 g hg)⟩;rw [hbs]at hend;conv=>lhs;whnf
   repeat(first|refine aj hD rfl ?_
          conv=>lhs;whnf)
   exact(hD _).2 hend
end
end Go.Proofs.YtmmlhdiejkknnaaGreatDoor
