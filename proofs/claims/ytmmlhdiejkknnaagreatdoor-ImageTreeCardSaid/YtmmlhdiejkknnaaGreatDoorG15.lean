/-
  Parts of the proof: IkA
-/
import Derived.Test.YtmmlhdiejkknnaaGreatDoorG12
import Derived.Test.YtmmlhdiejkknnaaGreatDoorG14
set_option maxRecDepth 100000
set_option maxHeartbeats 0
namespace Go.Proofs.YtmmlhdiejkknnaaGreatDoor
open Go.Sx Go.RowKit
noncomputable section
open Classical
theorem CA{b:Bool}{A B:Bool}(h1:b=true→B=true)(h2:b=false→A=true):(bif !b then A else B)=true:=by
 cases b with
 |true=>exact h1 rfl
 |false=>exact h2 rfl
def tV:aY:=⟨ji,ImgA,fun g _ A v A'=>A'=A∧v= .bool (decide g.ok)⟩
def zD(A:aa)(l:List (aO×Value)):fj:=
 { γ:=Nat,G:=fun k=>k≤l.length∧∀i (h:i<l.length),i<k→bM l[i].1∧(0<i→ltL (bx l[i-1].1.path) (bx l[i].1.path)=true),
   keepS:= [0,1,52,53],keepB:= [],sl:=fun k=> [(54,.v (.int .i64 k))],bl:=fun _=> [],ar:=fun _=>A,mu:=fun k=>l.length-k }
def imgSInv(A:aa)(ss:List bn):fj:=
 { γ:=Nat×Int,G:=yS ss,keepS:= [1,106,107],keepB:= [],sl:=fun s=> [(108,.v (.int .i64 s.1)),(15,.v (.int .i64 s.2))],bl:=fun _=> [],ar:=fun _=>A,mu:=fun s=>ss.length-s.1 }
theorem D0:FOk Tryz.prog 63 tV:=by
 refine bG mixed fun(g:ji) vs A hp=> ?_
 obtain⟨l,ss,ver,ms,f,t⟩:=g;obtain⟨x,y,vm,rfl,hN,hS,hM,hl1,hsh⟩:∃x y vm,vs= [x,y,.agg #[.int .i64 ver,vm],.int .i64 f,.int .i64 t]∧eL A x l∧SlS A y ss∧gq A vm ms∧l.length≤1000000∧oh l:=hp;have hN0:=hN;obtain⟨⟨an,cn,rfl,hcn, -,hn1,hn2,hn3⟩,hda⟩:=hN0;have hY:=hM.1.form;obtain⟨am,cm,rfl⟩:=hY;have hS0:=hS;obtain⟨⟨ao,c,rfl,hc, -,ha1,ha2,ha3⟩,hsl⟩:=hS0
 have hC:aI Tryz.prog (bQ [aM 74 yF,aM 119 BG] noC):=aD (aA _) (fun x hx=>by
  simp only [List.mem_cons,List.not_mem_nil,or_false]at hx;rcases hx with rfl|rfl
  ·exact au wA
  ·exact au ue)
 refine⟨_,ic Tryz.prog _ noL 60 [(63,0),(63,4)],60,hC,bg mixed hC (az _) _ _,fun blk os out tape D hD=> ?_⟩;have hbad:¬(ji.mk l ss ver ms f t).ok→tV.post ⟨l,ss,ver,ms,f,t⟩ [] A (.bool false) A:=fun hn=>⟨rfl,D1 hn⟩
 have hlm:(l.map (·.1)).length=l.length:=List.length_map _;conv=>lhs;whnf
 refine af (fun h0=> ?_) (fun h0=> ?_)
 ·have hend:=hbad fun h=>by
    obtain⟨x,hx,_⟩:=h.1.2;have h0:(l.length:Int)=0:=h0;have:l= []:=List.length_eq_zero_iff.1 (by omega);rw [this]at hx
    cases hx
  conv=>lhs;whnf
  exact(hD _).2 hend
 have hpos:0<l.length:=by
  have h0:¬(l.length:Int)=0:=h0;omega
 obtain⟨gn,on,rfl,hrn⟩:=Sl.at_ hcn hn1 hn2 hn3 hpos;have r0:=eI (enc:=cV) (fun _=>rfl) hrn 0 hpos rfl;have r0:A.rd gn (on+0*12) 1=some [.string l[0].1.path]:=ir r0 (i:=0) (m:=1) (by omega);have i0:(0:Int)≤(0:Int)∧(0:Int)<(l.length:Int):=by omega
 have hhead:(l.map (·.1)).head? =some l[0].1:=by
  rw [List.head?_map,List.head?_eq_getElem?,List.getElem?_eq_getElem hpos];rfl
 conv=>lhs;whnf
 repeat(first|refine cO i0 ?_|refine ai r0 ?_|refine aj hD rfl ?_
        conv=>lhs;whnf)
 refine CA (fun hr=> ?_) (fun hr=> ?_);rotate_left
 ·have hend:=hbad fun h=>by
    obtain⟨x,hx,hxp⟩:=h.1.2;have hx:(l.map (·.1)).head? =some x:=hx;rw [hhead]at hx;injection hx with hx
    refine cr.1 hr ?_;rw [hx,hxp];rfl
  conv=>lhs;whnf
  exact(hD _).2 hend
 have hroot:l[0].1.path=eV:=ln (bu.1 hr);conv=>lhs;whnf
 refine af (fun h500=> ?_) (fun h500=> ?_)
 ·have hend:=hbad fun h=>by
    have h2:(l.map (·.1)).length≤500:=h.2.1;have h500:(500:Int)<(l.length:Int):=h500;omega
  conv=>lhs;whnf
  exact(hD _).2 hend
 conv=>lhs;whnf
 refine af (fun h200=> ?_) (fun h200=> ?_)
 ·have hend:=hbad fun h=>by
    have h2:ss.length≤200:=h.2.2.1;have h200:(200:Int)<(ss.length:Int):=h200;omega
  conv=>lhs;whnf
  exact(hD _).2 hend
 conv=>lhs;whnf
 refine(hD _).2 ⟨((ver,ms):Int×List bC),⟨_,rfl,hM⟩,fun v A2 hq=> ?_⟩;have hq:A2=A∧v= .int .i64 (fL ver ms):=hq;have h9:=hq.1.symm;have hv:=hq.2;subst h9;subst hv;conv=>lhs;whnf
 refine dS (fun hE=> ?_) (fun hE=> ?_);rotate_left
 ·have hend:=hbad fun h=>hE h.2.2.2.1
  conv=>lhs;whnf
  exact(hD _).2 hend
 have hE:fL ver ms=0:=hE;conv=>lhs;whnf
 refine af (fun hf=> ?_) (fun hf=> ?_)
 ·have hend:=hbad fun h=>by
    have h2:0≤f:=h.2.2.2.2.1;omega
  conv=>lhs;whnf
  exact(hD _).2 hend
 conv=>lhs;whnf
 refine af (fun ht=> ?_) (fun ht=> ?_)
 ·have hend:=hbad fun h=>by
    have h2:f≤t:=h.2.2.2.2.2.1;omega
  conv=>lhs;whnf
  exact(hD _).2 hend
 conv=>lhs;whnf
 refine(hD _).2 ⟨zD A l,⟨(0:Nat),⟨Nat.zero_le _,fun i _ h=>absurd h (Nat.not_lt_zero _)⟩,⟨rfl,trivial⟩,trivial,rfl⟩,fun(k:Nat) hG=>⟨⟨trivial,trivial⟩,trivial,?_⟩⟩;obtain⟨hk,hfit⟩:k≤l.length∧∀i (h:i<l.length),i<k→bM l[i].1∧(0<i→ltL (bx l[i-1].1.path) (bx l[i].1.path)=true):=hG;conv=>lhs;whnf
 refine af (fun hlt=> ?_) (fun hlt=> ?_)
 ·have hkl:k<l.length:=by
    have hlt:(k:Int)<(l.length:Int):=hlt;omega
  have r1:=eI (enc:=cV) (fun _=>rfl) hrn k hkl rfl;have i0:(0:Int)≤(k:Int)∧(k:Int)<(l.length:Int):=by omega
  obtain⟨⟨⟨p,d,⟨s1,s2,s3,s4,s5,s6,s7,s8,s9,s10⟩⟩,vd⟩,hx⟩:∃y,y=l[k]:=⟨_,rfl⟩;have hd:SlB A vd d:=hda ((⟨p,d,⟨s1,s2,s3,s4,s5,s6,s7,s8,s9,s10⟩⟩:aO),vd) (by rw [hx];exact List.getElem_mem _);obtain⟨ad,cd,rfl⟩:=hd.1.form;rw [←hx]at r1;have r1:A.rd gn (on+k*12) 12=some [.string p,.slice ad d.length cd,.int .i64 s1,.int .i64 s2,.int .i64 s3,.int .i64 s4,.int .i64 s5,.int .i64 s6,.int .i64 s7,.int .i64 s8,.int .i64 s9,.int .i64 s10]:=r1;have hk1:k-1<l.length:=by omega
  have hw:0<k→IntKind.i64.wrap ((k:Int)-1)=((k-1:Nat):Int):=fun hk0=>by
   rw [Sx.wrap_i64 (by omega) (by omega)];omega
  have hin0:0<k→0≤IntKind.i64.wrap ((k:Int)-1)∧IntKind.i64.wrap ((k:Int)-1)<(l.length:Int):=fun hk0=>by rw [hw hk0];omega
  have r9:=eI (enc:=cV) (fun _=>rfl) hrn (k-1) hk1 rfl
  have r0p:0<k→A.rd gn (on+(IntKind.i64.wrap ((k:Int)-1)).toNat*12) 1=some [.string l[k-1].1.path]:=fun hk0=>by
   have:=ir r9 (i:=0) (m:=1) (by omega);rw [hw hk0,Int.toNat_natCast];exact this
  have hbadk:∀hn:¬(bM l[k].1∧(0<k→ltL (bx l[k-1].1.path) (bx l[k].1.path)=true)),tV.post ⟨l,ss,ver,ms,f,t⟩ [] A (.bool false) A:=fun hn=>hbad fun h=>qB hkl hn h.1
  rw [←hx]at hbadk;dsimp only at hbadk;have hbst:¬(0≤s1∧0≤s2∧0≤s3∧0≤s4∧0≤s5∧0≤s6∧0≤s7∧0≤s8∧0≤s9∧0≤s10)→tV.post ⟨l,ss,ver,ms,f,t⟩ [] A (.bool false) A:=fun h=>hbadk fun hh=>h hh.1.2.2
  have hb1000:(1000:Int)<(d.length:Int)→tV.post ⟨l,ss,ver,ms,f,t⟩ [] A (.bool false) A:=fun h=>hbadk fun hh=>by have h2:d.length≤1000:=hh.1.2.1;omega
  have hn1000:¬(1000:Int)<(d.length:Int)→d.length≤1000:=fun h=>by omega
  conv=>lhs;whnf
  repeat(first|refine cO i0 ?_|refine ai r1 ?_|refine aj hD rfl ?_
         conv=>lhs;whnf)
  refine(hD _).2 ⟨p,rfl,fun v A1 hq=> ?_⟩;have hq:A1=A∧v= .bool (bR p.data.toList):=hq;have h9:=hq.1.symm;have hv:=hq.2;subst h9
  by_cases hpk:bR p.data.toList=true
  rotate_left
  ·have hv:v= .bool false:=by rw [hv];simpa using hpk
   subst hv;have hend:=hbadk fun hh=>hpk hh.1.1
   conv=>lhs;whnf
   exact(hD _).2 hend
  have hv:v= .bool true:=by rw [hv,hpk]
  subst hv
  have hstep:(0<k→ltL (bx l[k-1].1.path) (bx p)=true)→d.length≤1000→iM ⟨s1,s2,s3,s4,s5,s6,s7,s8,s9,s10⟩→(zD A l).G (k+1:Nat):=fun h1 h2 h3=>⟨hkl,fun i h hi=>by
   by_cases e:i=k
   ·subst e
    rw [←hx];exact⟨⟨hpk,h2,h3⟩,h1⟩
   ·exact hfit i h (by omega)⟩
  conv=>lhs;whnf
  refine af (fun h0=> ?_) (fun h0=> ?_)
  have hk0:0<k:=by
   have h0:(0:Int)<(k:Int):=h0;omega
  have r0q:=r0p hk0;have hi0:=hin0 hk0;conv=>lhs;whnf
  repeat(first|refine cO hi0 ?_|refine ai r0q ?_
         conv=>lhs;whnf)
  refine bw (fun hb=> ?_) (fun hb=> ?_)
  ·have hend:=hbadk fun hh=>absurd (hb.symm.trans (DI (hh.2 hk0))) (by simp)
   conv=>lhs;whnf
   exact(hD _).2 hend
  have hlt0:0<k→ltL (bx l[k-1].1.path) (bx p)=true:=fun _=>zq hb
  rotate_left;have hlt0:0<k→ltL (bx l[k-1].1.path) (bx p)=true:=fun hk0=>absurd (show(0:Int)<(k:Int)by omega) h0
  rotate_left
  all_goals
   conv=>lhs;whnf
   refine af (fun h1000=> ?_) (fun h1000=> ?_)
   ·have hend:=hb1000 h1000
    conv=>lhs;whnf
    exact(hD _).2 hend
   have h1000':=hn1000 h1000;conv=>lhs;whnf
   refine af (fun q0=> ?_) (fun q0=> ?_)
   ·have hend:=hbst fun h=>absurd h.2.2.2.2.2.2.2.2.1 (Int.not_le.2 q0)
    conv=>lhs;whnf
    exact(hD _).2 hend
   conv=>lhs;whnf
   refine af (fun q1=> ?_) (fun q1=> ?_)
   ·have hend:=hbst fun h=>absurd h.2.2.2.2.2.2.2.2.2 (Int.not_le.2 q1)
    conv=>lhs;whnf
    exact(hD _).2 hend
   conv=>lhs;whnf
   refine af (fun q2=> ?_) (fun q2=> ?_)
   ·have hend:=hbst fun h=>absurd h.1 (Int.not_le.2 q2)
    conv=>lhs;whnf
    exact(hD _).2 hend
   conv=>lhs;whnf
   refine af (fun q3=> ?_) (fun q3=> ?_)
   ·have hend:=hbst fun h=>absurd h.2.1 (Int.not_le.2 q3)
    conv=>lhs;whnf
    exact(hD _).2 hend
   conv=>lhs;whnf
   refine af (fun q4=> ?_) (fun q4=> ?_)
   ·have hend:=hbst fun h=>absurd h.2.2.1 (Int.not_le.2 q4)
    conv=>lhs;whnf
    exact(hD _).2 hend
   conv=>lhs;whnf
   refine af (fun q5=> ?_) (fun q5=> ?_)
   ·have hend:=hbst fun h=>absurd h.2.2.2.1 (Int.not_le.2 q5)
    conv=>lhs;whnf
    exact(hD _).2 hend
   conv=>lhs;whnf
   refine af (fun q6=> ?_) (fun q6=> ?_)
   ·have hend:=hbst fun h=>absurd h.2.2.2.2.1 (Int.not_le.2 q6)
    conv=>lhs;whnf
    exact(hD _).2 hend
   conv=>lhs;whnf
   refine af (fun q7=> ?_) (fun q7=> ?_)
   ·have hend:=hbst fun h=>absurd h.2.2.2.2.2.1 (Int.not_le.2 q7)
    conv=>lhs;whnf
    exact(hD _).2 hend
   conv=>lhs;whnf
   refine af (fun q8=> ?_) (fun q8=> ?_)
   ·have hend:=hbst fun h=>absurd h.2.2.2.2.2.2.1 (Int.not_le.2 q8)
    conv=>lhs;whnf
    exact(hD _).2 hend
   conv=>lhs;whnf
   refine af (fun q9=> ?_) (fun q9=> ?_)
   ·have hend:=hbst fun h=>absurd h.2.2.2.2.2.2.2.1 (Int.not_le.2 q9)
    conv=>lhs;whnf
    exact(hD _).2 hend
   conv=>lhs;whnf
   have hG2:=hstep hlt0 h1000' ⟨Int.not_lt.1 q2,Int.not_lt.1 q3,Int.not_lt.1 q4,Int.not_lt.1 q5,Int.not_lt.1 q6,Int.not_lt.1 q7,Int.not_lt.1 q8,Int.not_lt.1 q9,Int.not_lt.1 q0,Int.not_lt.1 q1⟩;exact(hD _).2 ⟨(k+1:Nat),⟨hG2,⟨bf (by omega),trivial⟩,trivial,rfl⟩,by show l.length-(k+1)<l.length-k;omega,⟨dr rfl rfl,dr rfl rfl,dr rfl rfl,dr rfl rfl,trivial⟩,trivial⟩
 ·have e:k=l.length:=by
    have hlt:¬(k:Int)<(l.length:Int):=hlt;omega
  have hL:hF (l.map (·.1)):=sD (fun i h=>hfit i h (by omega)) ⟨l[0].1,hhead,hroot⟩;have hno:dT 0 ss=false→tV.post ⟨l,ss,ver,ms,f,t⟩ [] A (.bool false) A:=fun hn=>hbad fun h=>absurd (hn.symm.trans h.2.2.2.2.2.2) Bool.false_ne_true
  have hyes:dT 0 ss=true→(ji.mk l ss ver ms f t).ok:=fun h=>⟨hL,by
   show(l.map (·.1)).length≤500
   rw [hlm];have h500:¬(500:Int)<(l.length:Int):=h500;omega,by
   show ss.length≤200
   have h200:¬(200:Int)<(ss.length:Int):=h200
   omega,hE,by show 0≤f;omega,by show f≤t;omega,h⟩
  conv=>lhs;whnf
  refine(hD _).2 ⟨imgSInv A ss,⟨((0,0):Nat×Int),Ap ss,⟨rfl,rfl,trivial⟩,trivial,rfl⟩,fun(s:Nat×Int) hG=>⟨⟨trivial,trivial,trivial⟩,trivial,?_⟩⟩;obtain⟨k,last⟩:=s;have hG:yS ss (k,last):=hG;have hk:k≤ss.length:=hG.1;conv=>lhs;whnf
  refine af (fun hlt=> ?_) (fun hlt=> ?_)
  ·have hkl:k<ss.length:=by
     have hlt:(k:Int)<(ss.length:Int):=hlt;omega
   obtain⟨g,o,rfl,hra⟩:=Sl.at_ hc ha1 ha2 ha3 (by omega);have r1:=eI (enc:=cz) (fun _=>rfl) hra k hkl rfl;have i0:(0:Int)≤(k:Int)∧(k:Int)<(ss.length:Int):=by omega
   have hnext:=Aq hG hkl;have hbads:=fun h=>hno (CE hG hkl h)
   generalize ss[k]=sk at*;obtain⟨ses,tmo,trn⟩:=sk;have r1:A.rd g (o+k*3) 3=some [.int .i64 ses,.int .i64 tmo,.int .i64 trn]:=r1;dsimp only at hnext hbads;conv=>lhs;whnf
   repeat(first|refine cO i0 ?_|refine ai r1 ?_|refine aj hD rfl ?_
          conv=>lhs;whnf)
   refine af (fun h1=> ?_) (fun h1=> ?_)
   ·have hend:=hbads fun h=>by omega
    conv=>lhs;whnf
    exact(hD _).2 hend
   conv=>lhs;whnf
   refine af (fun h2=> ?_) (fun h2=> ?_)
   ·have hend:=hbads fun h=>by omega
    conv=>lhs;whnf
    exact(hD _).2 hend
   conv=>lhs;whnf
   refine af (fun h3=> ?_) (fun h3=> ?_)
   ·have hend:=hbads fun h=>by omega
    conv=>lhs;whnf
    exact(hD _).2 hend
   have hG2:=hnext (by omega) (by omega) (by omega);conv=>lhs;whnf
   exact(hD _).2 ⟨((k+1,ses):Nat×Int),⟨hG2,⟨bf (by omega),rfl,trivial⟩,trivial,rfl⟩,by show ss.length-(k+1)<ss.length-k;omega,⟨dr rfl rfl,dr rfl rfl,dr rfl rfl,trivial⟩,trivial⟩
  ·have hk9:k=ss.length:=by
     have hlt:¬(k:Int)<(ss.length:Int):=hlt;omega
   subst hk9;have hend:tV.post ⟨l,ss,ver,ms,f,t⟩ [] A (.bool true) A:=⟨rfl,zC (hyes (CD hG))⟩;conv=>lhs;whnf
   exact(hD _).2 hend
end
end Go.Proofs.YtmmlhdiejkknnaaGreatDoor
