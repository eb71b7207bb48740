/-
  Parts of the proof: RkG TrQ TrR
-/
import Derived.Test.YtphigpccfbfnoaaGreatDoorG36
import Derived.Test.YtphigpccfbfnoaaGreatDoorG33
import Derived.Test.YtphigpccfbfnoaaGreatDoorG32
set_option maxRecDepth 100000
set_option maxHeartbeats 0
namespace Go.Proofs.YtphigpccfbfnoaaGreatDoor
open Go.Sx Go.RowKit
noncomputable section
open Classical
def uI(s:Int)(x:bb):Bool:=decide (x.ses<s)
def vI(S:List bb)(s:Int):Nat:=(S.takeWhile (uI s)).length
def jv(S:List bb)(x:bb):List bb:=(gL S x.ses).take (vI (gL S x.ses) x.ses)++x::(gL S x.ses).drop (vI (gL S x.ses) x.ses)
theorem tw_at{α:Type}{f:α→Bool}{N:List α}{k:Nat}(hk:k≤N.length)(h0:∀i (h:i<N.length),i<k→f N[i]=true)(h1:∀h:k<N.length,f N[k]=false):(N.takeWhile f).length=k:=by
 induction N generalizing k with
 |nil=>
  have:k=0:=by simpa using hk
  rw [this];rfl
 |cons x N ih=>
  cases k with
  |zero=>
   have:=h1 (by simp);rw [List.takeWhile_cons,if_neg (by simpa using this)];rfl
  |succ k=>
   have hx:=h0 0 (by simp) (by omega);have:=ih (k:=k) (by simpa using hk) (fun i hi hik=>h0 (i+1) (by simpa using hi) (by omega)) (fun h=>h1 (by simpa using h));rw [List.takeWhile_cons,if_pos (by simpa using hx),List.length_cons,this]
theorem oV(S:List bb)(s:Int):(gL S s).length≤S.length:=List.length_filter_le _ _
def zy:aL:=⟨RG×bb,fun g vs A=>vs= [.pointer (some ⟨g.1.r,0,none⟩),.agg (br g.2).toArray]∧bC A g.1.B g.1.O g.1.r g.1.N g.1.S∧g.1.S.length≤1000000,
 fun g _ A _ A'=>∃O',bC A' g.1.B O' g.1.r g.1.N (jv g.1.S g.2)∧Kept A g.1.O A' O'⟩
theorem EH:FOk Tryz.prog 32 zy:=by
 refine aS mixed fun⟨⟨N,S,B,O,r⟩,⟨q1,q2,q3⟩⟩ vs A hp=> ?_
 obtain⟨rfl,hRef,hN⟩:vs= [.pointer (some ⟨r,0,none⟩),.agg #[.int .i64 q1,.int .i64 q2,.int .i64 q3]]∧bC A B O r N S∧S.length≤1000000:=hp
 have hC:aF Tryz.prog (bu [aE 33 Bv] noC):=az (aj _) (fun x hx=>by
  simp only [List.mem_singleton]at hx
  subst hx;exact ai Bu)
 refine⟨_,da Tryz.prog _ noL 60 [(32,0)],60,hC,aH mixed hC (ak _) _ _,fun blk os out tape D hD=> ?_⟩;conv=>lhs;whnf
 refine(hD _).2 ⟨(⟨N,S,B,O,r⟩,q1),⟨rfl,hRef,hN⟩,fun v A1 hq=> ?_⟩;have hq:∃O',bC A1 B O' r N (gL S q1)∧Kept A O A1 O':=hq;obtain⟨O1,⟨l0,vn',vs',gn,gs,hl,h⟩,hK⟩:=hq;have hdl:=oV S q1;obtain⟨l,hle⟩:∃l,l=gL S q1:=⟨_,rfl⟩;rw [←hle]at h hdl;obtain⟨_,ao,c,hvn,hc,hz1,hz2,hz3⟩:=h.srow;have hao:0<l.length→ao=some ⟨gs,0,none⟩:=fun hn=>(hz3 hn).1
 have hcs:ao=none∨∃g9 o9,ao=some ⟨g9,o9,none⟩:=by
  cases ao with
  |none=>exact .inl rfl
  |some a=>
   obtain⟨g9,o9,sp⟩:=a;have:=hz2 _ rfl;dsimp only at this;subst this;exact .inr ⟨g9,o9,rfl⟩
 subst hvn;have htop:A1.rd r 1 1=some [.slice ao l.length c]:=h.top.rd (o:=1) (n:=1) (by show 1+1≤2;omega);obtain⟨xn,hxn⟩:∃xn:bb,xn=⟨q1,q2,q3⟩:=⟨_,rfl⟩;have hxl:(br xn).length=3:=rfl;have he12:∀x:bb,(br x).length=3:=fun _=>rfl
 have hone:∀v∈l.flatMap br,v.oneCell'=true:=fun v hv=>by
  obtain⟨x,hx,hv⟩:=List.mem_flatMap.1 hv;simp only [br,List.mem_cons,List.not_mem_nil,or_false]at hv;rcases hv with rfl|rfl|rfl<;>rfl
 have honex:∀v∈br xn,v.oneCell'=true:=fun v hv=>by
  rw [hxn]at hv;simp only [br,List.mem_cons,List.not_mem_nil,or_false]at hv;rcases hv with rfl|rfl|rfl<;>rfl
 have hn0:bq A1 A1 3 83 0 (.slice (aD none) 0 0) []:=bq.nil _ _ _ _;obtain⟨hP0,hA0⟩:=hn0.fy
 have hfinq:∀q,q≤l.length→(∀i (h:i<l.length),i<q→uI q1 l[i]=true)→(∀h:q<l.length,uI q1 l[q]=false)→∀A5 A6 v,A1.Sub A5→bq A1 A5 3 83 (l.take q++xn::l.drop q).length v ((l.take q++xn::l.drop q).flatMap br)→A5.Put A6 r 1 [v]→
   zy.post (⟨N,S,B,O,r⟩,⟨q1,q2,q3⟩) [] A (.tuple #[]) A6:=fun q hq h0 h1 A5 A6 v s5 hG hP=>by
  have hpl:vI (gL S q1) q1=q:=by
   rw [←hle];exact tw_at hq h0 h1
  obtain⟨O2,hR2,hK2⟩:=h.aK s5 hG hP;refine⟨O2,?_,hK.trans hK2⟩;show bC A6 B O2 r N (jv S ⟨q1,q2,q3⟩)
  unfold jv;dsimp only;rw [hpl,←hle,←hxn,←hl];exact hR2
 conv=>lhs;whnf
 refine(hD _).2 ⟨⟨Nat,fun q=>q≤l.length∧∀i (h:i<l.length),i<q→uI q1 l[i]=true, [0,3], [0],fun q=> [(4,.v (.int .i64 q))],fun _=> [],fun _=>A1,fun q=>l.length-q⟩,⟨(0:Nat),⟨Nat.zero_le _,fun i _ h=>absurd h (Nat.not_lt_zero i)⟩,⟨rfl,trivial⟩,trivial,rfl⟩,fun(q:Nat) hq=>⟨⟨trivial,trivial⟩,trivial,?_⟩⟩;obtain⟨hql,hqlt⟩:=hq;have hfl1:((l.take q).flatMap br).length=q*3:=by rw [eT (enc:=br) he12,List.length_take,Nat.min_eq_left hql]
 have hfl2:((l.drop q).flatMap br).length=(l.length-q)*3:=by rw [eT (enc:=br) he12,List.length_drop]
 have hfinq:=hfinq q hql hqlt;conv=>lhs;whnf
 repeat(refine af htop ?_
        conv=>lhs;whnf)
 refine ab (fun hlt3=> ?_) (fun hlt3=> ?_)
 ·have hqo:q<l.length:=by
    have hlt3:(q:Int)<(l.length:Int):=hlt3;omega
  have q0:(0:Int)≤(q:Int)∧(q:Int)<(l.length:Int):=by omega
  have e:=hao (by omega);subst e
  have hra:A1.rd gs 0 (l.length*3)=some (l.flatMap br):=by
   obtain⟨_,cc,h8,h9,h10⟩:=hz3 (by omega);rw [rd_mk h8 (by omega),List.drop_zero,h10]
  have r1:=cU (fQ (enc:=br) (fun _=>rfl) hra q hqo rfl) (i:=0) (m:=1) (by omega);have r1:A1.rd gs (0+q*3) 1=some [.int .i64 l[q].ses]:=r1;conv=>lhs;whnf
  repeat(first|refine aq q0 ?_|refine af htop ?_|refine af r1 ?_
         conv=>lhs;whnf)
  refine ab (fun hb=> ?_) (fun hb=> ?_)<;>(conv=>lhs;whnf)
  ·have hb:uI q1 l[q]=true:=decide_eq_true hb
   refine(hD _).2 ⟨(q+1:Nat),⟨⟨hqo,fun i hi hik=> ?_⟩,⟨av (by omega),trivial⟩,trivial,rfl⟩,by show l.length-(q+1)<l.length-q;omega,⟨an rfl rfl,an rfl rfl,trivial⟩,⟨an rfl rfl,trivial⟩⟩
   by_cases e2:i=q
   ·subst e2;exact hb
   ·exact hqlt i hi (by omega)
  have hb:uI q1 l[q]=false:=decide_eq_false hb;have hfin:=hfinq (fun _=>hb);clear hfinq;have hs1:(if q=0 then some []else A1.rd gs (0+bif Nat.beq c 0 then 0 else 0*3) (q*3))=some ((l.take q).flatMap br):=ju (enc:=br) he12 hra (by omega) (by cases Nat.beq c 0<;>rfl)
  have hs2:∀A4,A1.Sub A4→(if l.length-q=0 then some []else A4.rd gs (0+bif Nat.beq c q then 0 else q*3) ((l.length-q)*3))=some ((l.drop q).flatMap br):=fun A4 h4=>oL (enc:=br) he12 (aJ h4 hra) rfl fun hlt=>by
   rw [wQ (by omega)];show 0+q*3=_
   omega
  repeat(refine af htop ?_
         conv=>lhs;whnf)
  refine cK (lI (k:=q) rfl (show q≤c by omega)) ?_;conv=>lhs;whnf
  refine(hD _).2 ⟨[],(l.take q).flatMap br,rfl,hs1,hfl1,fun v hv=>hone v (dO (List.take_sublist q l) hv),by show 0+q≤9223372036854775807;omega,(hP0 q 24 (by omega) (by omega)).cap,rfl,fun _=>⟨rfl,rfl⟩,fun _ _ h=>(by cases h),fun v A2 hAp=> ?_⟩;obtain⟨hG2,hk2⟩:=hA0 q _ v A2 hfl1 (fun _ h=>h) hAp;rw [Nat.zero_add,List.nil_append]at hG2;have s2:A1.Sub A2:=fun j o hj=>by rw [hk2 j o hj];exact hj
  obtain⟨b2,c2,hv2,hb2, -⟩:=hG2.ff;subst hv2;conv=>lhs;whnf
  refine(hD _).2 fun gb A3 hNw=> ?_
  have hNx:A2.New A3 gb (br xn).toArray 83:=by rw [hxn];exact hNw
  have s3:A1.Sub A3:=s2.trans hNx.sub;obtain⟨hP3,hA3⟩:=(hG2.sub hNx.sub).fy;have hP3:=hP3 1 24 (by omega) (by omega);have hrow3:A3.rd gb 0 (1*3)=some (br xn):=hNx.rd (o:=0) (n:=1*3) (by rw [List.size_toArray,hxl];omega)
  have hd3:∀j,A3.blk j=none→A1.blk j=none:=fun j hj=>by
   cases h9:A1.blk j with
   |none=>rfl
   |some o=>rw [s3 _ _ h9]at hj;cases hj
  refine Or.elim hb2 (fun hb2=> ?_) (fun hb2=> ?_);rotate_left;obtain⟨g2,hb2⟩:=hb2
  all_goals
   subst hb2;conv=>lhs;whnf
   refine(hD _).2 ⟨(l.take q).flatMap br,br xn,hP3.rd,?_,rfl,honex,?_,hP3.cap,rfl,hP3.none_,fun g' o' he' hle' _=>hP3.room 3 rfl g' o' he' hle',fun v A4 hAp=> ?_⟩
   ·show(if 1*3=0 then some []else A3.rd gb 0 (1*3))=_
    rw [if_neg (by omega)];exact hrow3
   ·show q+1≤9223372036854775807
    omega
   obtain⟨hG4,hk4⟩:=hA3 1 _ v A4 rfl hd3 hAp;have s4:A1.Sub A4:=fun j o hj=>by rw [hk4 j o hj];exact s3 _ _ hj
   obtain⟨b4,c4,hv4,hb4, -⟩:=hG4.ff;subst hv4;obtain⟨hP4,hA4⟩:=hG4.fy;have hP4:=hP4 (l.length-q) 24 (by omega) (by omega)
   have hd4:∀j,A4.blk j=none→A1.blk j=none:=fun j hj=>by
    cases h9:A1.blk j with
    |none=>rfl
    |some o=>rw [s4 _ _ h9]at hj;cases hj
   have htop4:=aJ s4 htop;conv=>lhs;whnf
   repeat(refine af htop4 ?_
          conv=>lhs;whnf)
   refine cK (iL (k:=q) rfl (show q≤l.length by omega)) ?_;refine Or.elim hb4 (fun hb4=> ?_) (fun hb4=> ?_);rotate_left;obtain⟨g4,hb4⟩:=hb4
   all_goals
    subst hb4;conv=>lhs;whnf
    refine(hD _).2 ⟨(l.take q).flatMap br++br xn,(l.drop q).flatMap br,hP4.rd,hs2 A4 s4,hfl2,fun v hv=>hone v (dO (List.drop_sublist q l) hv),by show(q+1)+(l.length-q)≤9223372036854775807;omega,hP4.cap,rfl,hP4.none_,fun g' o' he' hle' _=>hP4.room _ hfl2 g' o' he' hle',fun v A5 hAp=> ?_⟩;obtain⟨hG5,hk5⟩:=hA4 (l.length-q) _ v A5 hfl2 hd4 hAp;have s5:A1.Sub A5:=fun j o hj=>by rw [hk5 j o hj];exact s4 _ _ hj
    have hG6:bq A1 A5 3 83 (l.take q++xn::l.drop q).length v ((l.take q++xn::l.drop q).flatMap br):=by
     have e1:(l.take q++xn::l.drop q).length=(q+1)+(l.length-q):=by
      rw [List.length_append,List.length_cons,List.length_take,List.length_drop];omega
     rw [e1,List.flatMap_append,List.flatMap_cons,←List.append_assoc];exact hG5
    obtain⟨b5,c5,hv5, -, -⟩:=hG6.ff;subst hv5;have hT5:aG A5 r [vn',.slice (some ⟨gs,0,none⟩) l.length c]:=h.top.sub fun o ho=>s5 _ _ ho
    conv=>lhs;whnf
    refine(hD _).2 ⟨hT5.room (o:=1) (n:=1) (by show 1+1≤2;omega),fun A6 hP=> ?_⟩;have hP:A5.Put A6 r 1 [.slice (aD b5) (l.take q++xn::l.drop q).length c5]:=hP;have hend:=hfin A5 A6 _ s5 hG6 hP;conv=>lhs;whnf
    exact(hD _).2 hend
 ·have hqe:q=l.length:=by
    have hlt3:¬(q:Int)<(l.length:Int):=hlt3;omega
  have hfin:=hfinq (fun h=>absurd h (Nat.not_lt.2 (Nat.le_of_eq hqe.symm)));clear hfinq;refine Or.elim hcs (fun e=> ?_) (fun e=> ?_)
  ·have hz9:c=0:=hz1 e
   have hl0:l.length=0:=by
    rcases Nat.eq_zero_or_pos l.length with h9|h9
    ·exact h9
    ·rw [hao h9]at e;cases e
   have hzq:q=0:=by omega
   clear hz3 hao hz1;subst e;subst hz9;subst hzq
   have hs1:(if 0=0 then some []else none)=some ((l.take 0).flatMap br):=by
    rw [if_pos rfl,List.take_zero];rfl
   have hs2:∀A4,A1.Sub A4→(if l.length-0=0 then some []else none)=some ((l.drop 0).flatMap br):=fun A4 h4=>by
    rw [if_pos (by omega),List.length_eq_zero_iff.1 hl0];rfl
   conv=>lhs;whnf
   repeat(refine af htop ?_
          conv=>lhs;whnf)
   clear hz2;refine(hD _).2 ⟨[],(l.take 0).flatMap br,rfl,hs1,hfl1,fun v hv=>hone v (dO (List.take_sublist 0 l) hv),by show 0+0≤9223372036854775807;omega,(hP0 0 24 (by omega) (by omega)).cap,rfl,fun _=>⟨rfl,rfl⟩,fun _ _ h=>(by cases h),fun v A2 hAp=> ?_⟩;obtain⟨hG2,hk2⟩:=hA0 0 _ v A2 hfl1 (fun _ h=>h) hAp;rw [Nat.zero_add,List.nil_append]at hG2;have s2:A1.Sub A2:=fun j o hj=>by rw [hk2 j o hj];exact hj
   obtain⟨b2,c2,hv2,hb2, -⟩:=hG2.ff;subst hv2;conv=>lhs;whnf
   refine(hD _).2 fun gb A3 hNw=> ?_
   have hNx:A2.New A3 gb (br xn).toArray 83:=by rw [hxn];exact hNw
   have s3:A1.Sub A3:=s2.trans hNx.sub;obtain⟨hP3,hA3⟩:=(hG2.sub hNx.sub).fy;have hP3:=hP3 1 24 (by omega) (by omega);have hrow3:A3.rd gb 0 (1*3)=some (br xn):=hNx.rd (o:=0) (n:=1*3) (by rw [List.size_toArray,hxl];omega)
   have hd3:∀j,A3.blk j=none→A1.blk j=none:=fun j hj=>by
    cases h9:A1.blk j with
    |none=>rfl
    |some o=>rw [s3 _ _ h9]at hj;cases hj
   refine Or.elim hb2 (fun hb2=> ?_) (fun hb2=> ?_);rotate_left;obtain⟨g2,hb2⟩:=hb2
   all_goals
    subst hb2;conv=>lhs;whnf
    refine(hD _).2 ⟨(l.take 0).flatMap br,br xn,hP3.rd,?_,rfl,honex,?_,hP3.cap,rfl,hP3.none_,fun g' o' he' hle' _=>hP3.room 3 rfl g' o' he' hle',fun v A4 hAp=> ?_⟩
    ·show(if 1*3=0 then some []else A3.rd gb 0 (1*3))=_
     rw [if_neg (by omega)];exact hrow3
    ·show 0+1≤9223372036854775807
     omega
    obtain⟨hG4,hk4⟩:=hA3 1 _ v A4 rfl hd3 hAp;have s4:A1.Sub A4:=fun j o hj=>by rw [hk4 j o hj];exact s3 _ _ hj
    obtain⟨b4,c4,hv4,hb4, -⟩:=hG4.ff;subst hv4;obtain⟨hP4,hA4⟩:=hG4.fy;have hP4:=hP4 (l.length-0) 24 (by omega) (by omega)
    have hd4:∀j,A4.blk j=none→A1.blk j=none:=fun j hj=>by
     cases h9:A1.blk j with
     |none=>rfl
     |some o=>rw [s4 _ _ h9]at hj;cases hj
    have htop4:=aJ s4 htop;conv=>lhs;whnf
    repeat(refine af htop4 ?_
           conv=>lhs;whnf)
    refine Or.elim hb4 (fun hb4=> ?_) (fun hb4=> ?_);rotate_left;obtain⟨g4,hb4⟩:=hb4
    all_goals
     subst hb4;conv=>lhs;whnf
     refine(hD _).2 ⟨(l.take 0).flatMap br++br xn,(l.drop 0).flatMap br,hP4.rd,hs2 A4 s4,hfl2,fun v hv=>hone v (dO (List.drop_sublist 0 l) hv),by show(0+1)+(l.length-0)≤9223372036854775807;omega,hP4.cap,rfl,hP4.none_,fun g' o' he' hle' _=>hP4.room _ hfl2 g' o' he' hle',fun v A5 hAp=> ?_⟩;obtain⟨hG5,hk5⟩:=hA4 (l.length-0) _ v A5 hfl2 hd4 hAp;have s5:A1.Sub A5:=fun j o hj=>by rw [hk5 j o hj];exact s4 _ _ hj
     have hG6:bq A1 A5 3 83 (l.take 0++xn::l.drop 0).length v ((l.take 0++xn::l.drop 0).flatMap br):=by
      have e1:(l.take 0++xn::l.drop 0).length=(0+1)+(l.length-0):=by
       rw [List.length_append,List.length_cons,List.length_take,List.length_drop];omega
      rw [e1,List.flatMap_append,List.flatMap_cons,←List.append_assoc];exact hG5
     obtain⟨b5,c5,hv5, -, -⟩:=hG6.ff;subst hv5;have hT5:aG A5 r [vn',.slice none l.length 0]:=h.top.sub fun o ho=>s5 _ _ ho
     conv=>lhs;whnf
     refine(hD _).2 ⟨hT5.room (o:=1) (n:=1) (by show 1+1≤2;omega),fun A6 hP=> ?_⟩;have hP:A5.Put A6 r 1 [.slice (aD b5) (l.take 0++xn::l.drop 0).length c5]:=hP;have hend:=hfin A5 A6 _ s5 hG6 hP;conv=>lhs;whnf
     exact(hD _).2 hend
  ·obtain⟨g9,o9,e⟩:=e
   have hra:0<l.length→g9=gs∧o9=0∧A1.rd gs 0 (l.length*3)=some (l.flatMap br):=fun hn=>by
    obtain⟨e1,cc,h8,h9,h10⟩:=hz3 hn;rw [e1]at e;injection e with e
    injection e with e2 e3
    exact⟨e2.symm,e3.symm,by rw [rd_mk h8 (by omega),List.drop_zero,h10]⟩
   have hs1:(if q=0 then some []else A1.rd g9 (o9+bif Nat.beq c 0 then 0 else 0*3) (q*3))=some ((l.take q).flatMap br):=by
    by_cases h0:q=0
    ·rw [if_pos h0,h0,List.take_zero];rfl
    ·obtain⟨e1,e2,e3⟩:=hra (by omega)
     rw [e1,e2];exact ju (enc:=br) he12 e3 (by omega) (by cases Nat.beq c 0<;>rfl)
   have hs2:∀A4,A1.Sub A4→(if l.length-q=0 then some []else A4.rd g9 (o9+bif Nat.beq c q then 0 else q*3) ((l.length-q)*3))=some ((l.drop q).flatMap br):=fun A4 h4=>by
    rw [if_pos (by omega),List.drop_eq_nil_of_le (by omega)];rfl
   subst e;conv=>lhs;whnf
   repeat(refine af htop ?_
          conv=>lhs;whnf)
   clear hz1 hz2 hz3 hao hra;refine cK (lI (k:=q) rfl (show q≤c by omega)) ?_;conv=>lhs;whnf
   refine(hD _).2 ⟨[],(l.take q).flatMap br,rfl,hs1,hfl1,fun v hv=>hone v (dO (List.take_sublist q l) hv),by show 0+q≤9223372036854775807;omega,(hP0 q 24 (by omega) (by omega)).cap,rfl,fun _=>⟨rfl,rfl⟩,fun _ _ h=>(by cases h),fun v A2 hAp=> ?_⟩;obtain⟨hG2,hk2⟩:=hA0 q _ v A2 hfl1 (fun _ h=>h) hAp;rw [Nat.zero_add,List.nil_append]at hG2;have s2:A1.Sub A2:=fun j o hj=>by rw [hk2 j o hj];exact hj
   obtain⟨b2,c2,hv2,hb2, -⟩:=hG2.ff;subst hv2;conv=>lhs;whnf
   refine(hD _).2 fun gb A3 hNw=> ?_
   have hNx:A2.New A3 gb (br xn).toArray 83:=by rw [hxn];exact hNw
   have s3:A1.Sub A3:=s2.trans hNx.sub;obtain⟨hP3,hA3⟩:=(hG2.sub hNx.sub).fy;have hP3:=hP3 1 24 (by omega) (by omega);have hrow3:A3.rd gb 0 (1*3)=some (br xn):=hNx.rd (o:=0) (n:=1*3) (by rw [List.size_toArray,hxl];omega)
   have hd3:∀j,A3.blk j=none→A1.blk j=none:=fun j hj=>by
    cases h9:A1.blk j with
    |none=>rfl
    |some o=>rw [s3 _ _ h9]at hj;cases hj
   refine Or.elim hb2 (fun hb2=> ?_) (fun hb2=> ?_);rotate_left;obtain⟨g2,hb2⟩:=hb2
   all_goals
    subst hb2;conv=>lhs;whnf
    refine(hD _).2 ⟨(l.take q).flatMap br,br xn,hP3.rd,?_,rfl,honex,?_,hP3.cap,rfl,hP3.none_,fun g' o' he' hle' _=>hP3.room 3 rfl g' o' he' hle',fun v A4 hAp=> ?_⟩
    ·show(if 1*3=0 then some []else A3.rd gb 0 (1*3))=_
     rw [if_neg (by omega)];exact hrow3
    ·show q+1≤9223372036854775807
     omega
    obtain⟨hG4,hk4⟩:=hA3 1 _ v A4 rfl hd3 hAp;have s4:A1.Sub A4:=fun j o hj=>by rw [hk4 j o hj];exact s3 _ _ hj
    obtain⟨b4,c4,hv4,hb4, -⟩:=hG4.ff;subst hv4;obtain⟨hP4,hA4⟩:=hG4.fy;have hP4:=hP4 (l.length-q) 24 (by omega) (by omega)
    have hd4:∀j,A4.blk j=none→A1.blk j=none:=fun j hj=>by
     cases h9:A1.blk j with
     |none=>rfl
     |some o=>rw [s4 _ _ h9]at hj;cases hj
    have htop4:=aJ s4 htop;conv=>lhs;whnf
    repeat(refine af htop4 ?_
           conv=>lhs;whnf)
    refine cK (iL (k:=q) rfl (show q≤l.length by omega)) ?_;refine Or.elim hb4 (fun hb4=> ?_) (fun hb4=> ?_);rotate_left;obtain⟨g4,hb4⟩:=hb4
    all_goals
     subst hb4;conv=>lhs;whnf
     refine(hD _).2 ⟨(l.take q).flatMap br++br xn,(l.drop q).flatMap br,hP4.rd,hs2 A4 s4,hfl2,fun v hv=>hone v (dO (List.drop_sublist q l) hv),by show(q+1)+(l.length-q)≤9223372036854775807;omega,hP4.cap,rfl,hP4.none_,fun g' o' he' hle' _=>hP4.room _ hfl2 g' o' he' hle',fun v A5 hAp=> ?_⟩;obtain⟨hG5,hk5⟩:=hA4 (l.length-q) _ v A5 hfl2 hd4 hAp;have s5:A1.Sub A5:=fun j o hj=>by rw [hk5 j o hj];exact s4 _ _ hj
     have hG6:bq A1 A5 3 83 (l.take q++xn::l.drop q).length v ((l.take q++xn::l.drop q).flatMap br):=by
      have e1:(l.take q++xn::l.drop q).length=(q+1)+(l.length-q):=by
       rw [List.length_append,List.length_cons,List.length_take,List.length_drop];omega
      rw [e1,List.flatMap_append,List.flatMap_cons,←List.append_assoc];exact hG5
     obtain⟨b5,c5,hv5, -, -⟩:=hG6.ff;subst hv5;have hT5:aG A5 r [vn',.slice (some ⟨g9,o9,none⟩) l.length c]:=h.top.sub fun o ho=>s5 _ _ ho
     conv=>lhs;whnf
     refine(hD _).2 ⟨hT5.room (o:=1) (n:=1) (by show 1+1≤2;omega),fun A6 hP=> ?_⟩;have hP:A5.Put A6 r 1 [.slice (aD b5) (l.take q++xn::l.drop q).length c5]:=hP;have hend:=hfin A5 A6 _ s5 hG6 hP;conv=>lhs;whnf
     exact(hD _).2 hend
end
end Go.Proofs.YtphigpccfbfnoaaGreatDoor
namespace Go.Proofs.YtphigpccfbfnoaaGreatDoor
open Go.Sx Go.RowKit
noncomputable section
open Classical
section
variable {κ α : Type} [BEq κ] [LawfulBEq κ]
theorem fJ{q:κ}{x:α}{l:List (κ×α)}(hn:(l.map (·.1)).Nodup):aM q l=some x↔(q,x)∈l:=
 ⟨fun h=>iK (fun _ h=>(eq_of_beq h).symm) h,fun h=>lz (fun _=>BEq.rfl) (fun _ _ h=>(eq_of_beq h).symm) hn h⟩
theorem DD{l l':List (κ×α)}(h:l.Perm l')(hn:(l.map (·.1)).Nodup)(q:κ):aM q l=aM q l':=by
 have hn':(l'.map (·.1)).Nodup:=(h.map (·.1)).nodup_iff.1 hn
 cases hk:aM q l with
 |some x=>exact((fJ hn').2 (h.mem_iff.1 ((fJ hn).1 hk))).symm
 |none=>
  refine(jK fun hm=> ?_).symm;exact iz BEq.rfl hk ((h.map (·.1)).mem_iff.2 hm)
theorem pD [DecidableEq κ](q:κ):∀(l m:List (κ×α)),(l.map (·.1)).Nodup→aM q (l.foldl (fun m e=>cH e.1 e.2 m) m)=match aM q l with|some x=>some x|none=>aM q m
 | [],m,_=>rfl
 |(r,y)::l,m,hn=>by
  rw [List.map_cons,List.nodup_cons]at hn;rw [List.foldl_cons,pD q l _ hn.2,jJ]
  by_cases e:q=r
  ·subst e
   simp only [aM,BEq.rfl,cond_true,if_true];rw [jK hn.1]
  ·have hb:(q==r)=false:=by simpa using e
   simp only [aM,hb,cond_false,if_neg e]
theorem keys_perm{l l':List (κ×α)}(h:∀q,aM q l=aM q l')(hn:(l.map (·.1)).Nodup)(hn':(l'.map (·.1)).Nodup):(l.map (·.1)).Perm (l'.map (·.1)):=
 (List.perm_ext_iff_of_nodup hn hn').2 fun q=>by rw [←lB,←lB,h q]
end
theorem zP{T U:aT}(h:TEq T U)(hT:ND T)(hU:ND U):cq T=cq U:=by
 have hp:=(keys_perm h.1 hT.1 hU.1).map eC;rw [List.map_map,List.map_map]at hp;exact mergeSort_of_perm hp
theorem Cv{T U:aT}(h:TEq T U)(hT:ND T)(hU:ND U)(p:ByteArray):toldOf T p=toldOf U p:=by
 have hk:mI T p=mI U p:=(keys_perm h.1 hT.1 hU.1).countP_eq _;unfold toldOf;rw [h.1 p,hk]
theorem TEq.same{T U:aT}(h:TEq T U)(hT:ND T)(hU:ND U):Ck T U:=by
 constructor
 ·rw [ez,ez,zP h hT hU]
  exact List.map_congr_left fun x _=>Cv h hT hU _
 ·have hs:fq T.aK=fq U.aK:=by
    funext s
    unfold fq;rw [h.2 s]
  rw [aU,aU,hs,ja (keys_perm h.2 hT.2 hU.2)]
theorem bz.nd{A B:aa}{O:Nat→Prop}{t:Nat}{T:aT}(h:bz A B O t T):ND T:=by
 obtain⟨m,s,E,h⟩:=h;exact⟨by rw [h.nodes,pC];exact h.keys,h.skeys⟩
structure TOk(T:aT):Prop where
 nd:ND T
 ses:∀s x,aM s T.aK=some x→x.ses=s∧1≤s
 root:aM fR T.nodes≠none
theorem TOk.qK{T:aT}(h:TOk T):kC T:=fun e he=>(h.ses e.1 e.2 ((fJ h.nd.2).2 he)).1
theorem tok_new:TOk cg:=⟨⟨by simp [cg],by simp [cg]⟩,fun s x h=>by simp [cg,aM]at h,by simp [cg,aM]⟩
theorem yV{h:bJ}(hf:h.kind=1∨h.kind=2→h.path.data.toList≠ [47])(z time:Int){o:Option bn}(ho:o≠none):oz h z time fR o≠none:=by
 have hm:∀ {o:Option bn},o≠none→mG h z fR o≠none:=fun {o} ho=>by
  unfold mG
  split
  ·cases o with
   |none=>exact absurd rfl ho
   |some x=>simp
  ·exact ho
 unfold oz
 split
 ·split
  ·cases o with
   |none=>exact absurd rfl ho
   |some x=>simp
  ·exact ho
 ·split
  ·refine hm ?_
   split
   ·simp
   ·exact ho
  ·split
   ·rename_i h2
    refine hm ?_;rw [if_neg fun e=>hf (.inr h2) (by rw [←e];rfl)];exact ho
   ·exact hm ho
theorem uO{h:bJ}{np:Nat}(hf:cu h np):h.kind=1∨h.kind=2→h.path.data.toList≠ [47]:=by
 obtain⟨_,_,_,_,_,_,_,_,_,_,_,_,_,_,_,h9,_⟩:=hf;exact h9
theorem rO(z time:Int):∀(ps:List aB),(∀p∈ps,cu p.h p.parts.length)→∀ {o:Option bn},o≠none→rP ps z time fR o≠none
 | [],_,o,ho=>ho
 |p::ps,hp,o,ho=>rO z time ps (fun q hq=>hp q (List.mem_cons_of_mem _ hq)) (yV (uO (hp p (by simp))) z time ho)
theorem TOk.apply{T:aT}(h:TOk T)(d:aB):TOk (aN T d):=by
 obtain⟨k0,k1,k2⟩:=uX h.nd d;refine⟨k0,fun s x hx=> ?_,?_⟩
 ·rw [k2]at hx
  by_cases hr:cJ d
  ·rw [if_pos hr]at hx
   have hz:1≤d.h.zxid:=hr.1
   have key:∀o:Option bb,(∀y,o=some y→y.ses=s∧1≤s)→mQ d s o=some x→x.ses=s∧1≤s:=fun o ho hx=>by
    unfold mQ at hx
    split at hx
    ·cases o with
     |none=>cases hx
     |some y=>
      injection hx with hx
      subst hx;exact ho y rfl
    ·exact ho x hx
   refine key _ (fun y hy=> ?_) hx
   split at hy
   ·split at hy
    ·rename_i e
     injection hy with hy
     subst hy;rw [e];exact⟨rfl,hz⟩
    ·exact h.ses s y hy
   ·split at hy
    ·split at hy
     ·cases hy
     ·exact h.ses s y hy
    ·exact h.ses s y hy
  ·rw [if_neg hr]at hx
   exact h.ses s x hx
 ·rw [k1]
  by_cases hr:cJ d
  ·rw [if_pos hr]
   unfold doF
   split
   ·exact yV (uO hr.2.2.2.2.2.2.1) _ _ h.root
   ·split
    ·rename_i h58
     refine rO _ _ _ (fun p hp=> ?_) h.root;rcases h58 with h5|h8
     ·exact((hr.2.2.2.2.2.2.2.1 h5).2.2 p hp).2.2.2.2.2.1
     ·exact((hr.2.2.2.2.2.2.2.2.2 h8).2.2 p hp).2.2.2.2.2.1
    ·exact h.root
  ·rw [if_neg hr];exact h.root
theorem FR{κ α:Type} [BEq κ] [LawfulBEq κ](p:κ)(l:List (κ×α)):(eJ p l).length≤l.length:=(fX p l).length_le
theorem lf(z time:Int):∀(ps:List aB) (T:aT),(bU T ps z time).aK=T.aK
 | [],_=>rfl
 |p::ps,T=>(lf z time ps _).trans (iv T p.h z time)
theorem AP(T:aT)(d:aB):(aN T d).aK.length≤T.aK.length+2:=by
 have h1:(cX T d).aK.length≤T.aK.length+1:=by
  unfold cX
  split
  ·rw [iv];omega
  ·split
   ·exact jI _ _ _
   ·split
    ·rw [lf]
     have:=FR d.h.owner T.aK;show(eJ d.h.owner T.aK).length≤_
     omega
    ·split
     ·rw [lf];omega
     ·omega
 unfold aN
 split
 ·unfold bc
  split
  ·have:=jI d.h.ses ⟨‹bb›.ses, ‹bb›.tmo,max ‹bb›.ah d.h.ah⟩ (cX T d).aK
   show(cH _ _ (cX T d).aK).length≤_
   omega
  ·omega
 ·omega
theorem copy_eq{T:aT}(h:TOk T){E sk:List (ByteArray×Nat×bn)}(hE:T.nodes=dv (·.2) E)(hp:sk.Perm E):TEq T ⟨bY sk,cC (aU T)⟩:=by
 constructor
 ·intro q
  have h1:bY sk=(dv (·.2) sk).foldl (fun m e=>cH e.1 e.2 m) cg.nodes:=by
   unfold bY dv;rw [List.foldl_map]
  have hpm:T.nodes.Perm (dv (·.2) sk):=by
   rw [hE];exact(hp.map _).symm
  have hn:((dv (·.2) sk).map (·.1)).Nodup:=(hpm.map (·.1)).nodup_iff.1 h.nd.1;show aM q T.nodes=aM q (bY sk)
  rw [h1,pD q _ _ hn,←DD hpm h.nd.1 q]
  cases hk:aM q T.nodes with
  |some x=>rfl
  |none=>
   by_cases e:q=fR
   ·subst e;exact absurd hk h.root
   ·have hb:(q==fR)=false:=by simpa using e
    simp [cg,aM,hb]
 ·intro s
  have hpos:∀x∈aU T,1≤x.ses∧aM x.ses T.aK=some x:=fun x hx=>by
   obtain⟨k,hk,rfl⟩:=List.mem_map.1 hx;have hk:=(jZ _).mem_iff.1 hk;obtain⟨e,he,rfl⟩:=List.mem_map.1 hk;have hg:=(fJ h.nd.2).2 (show(e.1,e.2)∈T.aK from he);have hs:=h.ses _ _ hg;have hso:fq T.aK e.1=e.2:=oM h.nd.2 h.qK he;rw [hso,hs.1];exact⟨hs.2,hg⟩
  have h1:∀(l:List bb) (m:List (Int×bb)),(∀x∈l,1≤x.ses)→l.foldl fO m=(l.map fun x=>(x.ses,x)).foldl (fun m e=>cH e.1 e.2 m) m:=fun l=>by
   induction l with
   |nil=>exact fun m _=>rfl
   |cons x l ih=>
    intro m hl;rw [List.foldl_cons,List.map_cons,List.foldl_cons,ih _ fun y hy=>hl y (List.mem_cons_of_mem _ hy)];have:=hl x (by simp);rw [fO,if_neg (by omega)]
  have hkeys:((aU T).map fun x=>(x.ses,x)).map (·.1)=fH (T.aK.map (·.1)):=by
   rw [List.map_map,aU,List.map_map];refine(List.map_congr_left fun k _=> ?_).trans (List.map_id _);exact lT _ _
  have hn:(((aU T).map fun x=>(x.ses,x)).map (·.1)).Nodup:=by
   rw [hkeys];exact(jZ _).nodup_iff.2 h.nd.2
  show aM s T.aK=aM s (cC (aU T))
  unfold cC;rw [h1 _ _ fun x hx=>(hpos x hx).1,pD s _ _ hn]
  cases hk:aM s T.aK with
  |some x=>
   have hx:(s,x)∈(aU T).map fun x=>(x.ses,x):=by
    have hm:=(fJ h.nd.2).1 hk;refine List.mem_map.2 ⟨x,List.mem_map.2 ⟨s,(jZ _).mem_iff.2 (List.mem_map.2 ⟨_,hm,rfl⟩),oM h.nd.2 h.qK hm⟩,?_⟩;rw [(h.ses s x hk).1]
   rw [(fJ hn).2 hx]
  |none=>
   rw [jK (l:=(aU T).map fun x=>(x.ses,x)) fun hm=> ?_]
   ·rfl
   ·rw [hkeys]at hm
    exact iz (by simp) hk ((jZ _).mem_iff.1 hm)
end
end Go.Proofs.YtphigpccfbfnoaaGreatDoor
namespace Go.Proofs.YtphigpccfbfnoaaGreatDoor
open Go.Sx Go.RowKit
noncomputable section
open Classical
theorem nX:∀(l m:List UInt8),ltL l m=true↔l<m
 | [], []=>by simp [ltL]
 |_::_, []=>by simp [ltL]
 | [],_::_=>by simp [ltL]
 |a::l,b::m=>by
  rw [List.cons_lt_cons_iff,←nX l m];simp only [ltL]
  by_cases h:a<b
  ·have h':a.toNat<b.toNat:=UInt8.lt_iff_toNat_lt.1 h
   have hb:Nat.blt a.toNat b.toNat=true:=Nat.ble_eq.mpr h';simp [hb,h]
  ·have h':¬a.toNat<b.toNat:=fun x=>h (UInt8.lt_iff_toNat_lt.2 x)
   have hb:Nat.blt a.toNat b.toNat=false:=by
    cases hx:Nat.blt a.toNat b.toNat with
    |false=>rfl
    |true=>exact absurd (Nat.le_of_ble_eq_true hx) h'
   by_cases e:a=b
   ·subst e
    simp [hb,h]
   ·have he:Nat.beq a.toNat b.toNat=false:=by
      cases hx:Nat.beq a.toNat b.toNat with
      |false=>rfl
      |true=>exact absurd (UInt8.toNat_inj.1 (Nat.eq_of_beq_eq_true hx)) e
    simp [hb,he,h,e]
theorem BB:∀ {l m:List UInt8},ltL l m=false→ltL m l=false→l=m
 | [], [],_,_=>rfl
 |_::_, [],_,h=>by simp [ltL]at h
 | [],_::_,h,_=>by simp [ltL]at h
 |a::l,b::m,h1,h2=>by
  simp only [ltL]at h1 h2
  cases hab:Nat.blt a.toNat b.toNat with
  |true=>rw [hab]at h1;cases h1
  |false=>
   cases hba:Nat.blt b.toNat a.toNat with
   |true=>rw [hba]at h2;cases h2
   |false=>
    have h3:¬a.toNat<b.toNat:=fun h=>by
     have:Nat.blt a.toNat b.toNat=true:=Nat.ble_eq.mpr h;rw [hab]at this;cases this
    have h4:¬b.toNat<a.toNat:=fun h=>by
     have:Nat.blt b.toNat a.toNat=true:=Nat.ble_eq.mpr h;rw [hba]at this;cases this
    have e:a.toNat=b.toNat:=by omega
    have hb1:Nat.beq a.toNat b.toNat=true:=by rw [e];exact Nat.beq_refl _
    have hb2:Nat.beq b.toNat a.toNat=true:=by rw [e];exact Nat.beq_refl _
    rw [hab,hb1]at h1;rw [hba,hb2]at h2;rw [UInt8.toNat_inj.1 e,BB h1 h2]
theorem Da{p q:ByteArray}(h:eC p=eC q):p=q:=jN h
theorem FP(T:aT)(p:ByteArray):(cZ T p).length=mI T p:=by
 rw [cZ,dK,bQ,List.length_map,mI,List.countP_eq_length_filter]
end
end Go.Proofs.YtphigpccfbfnoaaGreatDoor
