/-
  Parts of the proof: RbD RkD
-/
import Derived.Test.YtphigpccfbfnoaaGreatDoorG34
import Derived.Test.YtphigpccfbfnoaaGreatDoorG28
set_option maxRecDepth 100000
set_option maxHeartbeats 0
namespace Go.Proofs.YtphigpccfbfnoaaGreatDoor
open Go.Sx Go.RowKit
noncomputable section
open Classical
def cY(l:List UInt8):List (List UInt8):=if bO l=true∧l≠ [47]then aZ (l.drop 1)else []
theorem kO:∀(l y:List UInt8),y∈aZ l→y.length≤l.length
 | [],y,h=>by
   simp only [aZ,List.mem_singleton]at h;subst h;simp
 |b::l,y,h=>by
  have ih:=kO l;simp only [aZ]at h
  cases hb:b==47 with
  |true=>
   rw [hb]at h;simp only [cond_true]at h;rcases List.mem_cons.1 h with e|h
   ·subst e;simp
   ·have:=ih y h;simp;omega
  |false=>
   rw [hb]at h;simp only [cond_false]at h
   cases hs:aZ l with
   |nil=>exact absurd hs (iw l)
   |cons x xs=>
    rw [hs]at h;simp only at h;rcases List.mem_cons.1 h with e|h
    ·subst e
     have:=ih x (by rw [hs];simp);simp;omega
    ·have:=ih y (by rw [hs];simp [h])
     simp;omega
def jz:aL:=⟨ByteArray,fun s vs _=>vs= [.string s]∧s.data.toList.length≤140737488351232,
 fun s _ A v A'=>A.Sub A'∧∃x,v= .tuple #[x,.bool (bO s.data.toList)]∧Sl (A'.minus A) 1 (cY s.data.toList).length x ((cY s.data.toList).map cj)⟩
theorem xH:FOk Tryz.prog 162 jz:=by
 refine aS mixed fun(s:ByteArray) vs A hp=> ?_
 obtain⟨rfl,hsz⟩:vs= [.string s]∧s.data.toList.length≤140737488351232:=hp
 have hC:aF Tryz.prog (bu [aE 187 zp,aE 188 nI] noC):=az (aj _) (fun x hx=>by
  simp only [List.mem_cons,List.not_mem_nil,or_false]at hx;rcases hx with rfl|rfl
  ·exact ai Ex
  ·exact ai zC)
 refine⟨_,da Tryz.prog _ noL 60 [(162,0)],60,hC,aH mixed hC (ak _) _ _,fun blk os out tape D hD=> ?_⟩;obtain⟨l,hl⟩:∃l,l=s.data.toList:=⟨_,rfl⟩
 have hbad2:∀A2,A.Sub A2→bO l=false→jz.post s [.string s] A (.tuple #[.slice none 0 0,.bool false]) A2:=fun A2 h2 hb=>by
  refine⟨h2,.slice none 0 0,by rw [←hl,hb],?_⟩;have e:cY s.data.toList= []:=by rw [←hl,cY,if_neg (by rw [hb];simp)]
  rw [e];exact Sl.nil _ _
 have hbad:=hbad2 A (aa.Sub.refl _);conv=>lhs;whnf
 refine ab (fun h1=> ?_) (fun h1=> ?_)<;>(conv=>lhs;whnf)
 ·have h1:(200:Int)<(s.data.toList.length:Int):=h1
  exact(hD _).2 (hbad (lX fun q e=>by
   have:=congrArg List.length e;rw [List.length_cons,hl]at this
   omega))
 refine ab (fun h2=> ?_) (fun h2=> ?_)<;>(conv=>lhs;whnf)
 ·have h2:(s.data.toList.length:Int)=0:=h2
  exact(hD _).2 (hbad (lX fun q e=>by
   have:=congrArg List.length e;rw [List.length_cons,hl]at this
   omega))
 have hlen:s.data.toList.length≤200:=by
  have h1:¬(200:Int)<(s.data.toList.length:Int):=h1;omega
 have hpos:0<s.data.toList.length:=by
  have h2:¬(s.data.toList.length:Int)=0:=h2;omega
 have i00:(0:Int)≤(0:Int)∧(0:Int)<(s.data.toList.length:Int):=by omega
 refine aq i00 ?_;conv=>lhs;whnf
 obtain⟨b,q,hbq⟩:∃b q,s.data.toList=b::q:=by
  cases h:s.data.toList with
  |nil=>rw [h]at hpos;exact absurd hpos (Nat.lt_irrefl _)
  |cons b q=>exact⟨b,q,rfl⟩
 have hg0:s.data.toList.getD (Int.toNat 0) 0=b:=by rw [hbq];rfl
 refine aQ (fun h3=> ?_) (fun h3=> ?_)<;>(conv=>lhs;whnf)
 ·have h3:(!decide (((s.data.toList.getD (Int.toNat 0) 0).toNat:Int)=47))=true:=h3
  rw [hg0]at h3;refine(hD _).2 (hbad (lX fun q' e=> ?_));rw [hl,hbq]at e;injection e with e
  rw [e]at h3;exact absurd h3 (by decide)
 have hb:b=47:=by
  have h3:(!decide (((s.data.toList.getD (Int.toNat 0) 0).toNat:Int)=47))=false:=h3;rw [hg0]at h3;have h4:((b.toNat:Nat):Int)=47:=by simpa using h3
  exact UInt8.toNat_inj.1 (Int.ofNat.inj h4)
 rw [hb]at hbq;refine aQ (fun h4=> ?_) (fun h4=> ?_)<;>(conv=>lhs;whnf)
 ·have h4:s.data.toList= [47]:=bh.1 h4
  have hend:jz.post s [.string s] A (.tuple #[.slice none 0 0,.bool true]) A:=by
   refine⟨aa.Sub.refl _,.slice none 0 0,by rw [h4];rfl,?_⟩;have e:cY s.data.toList= []:=by rw [cY,if_neg (by simp [h4])]
   rw [e];exact Sl.nil _ _
  exact(hD _).2 hend
 have hq0:q≠ []:=fun e=>by
  have h4:¬s.data.toList= [47]:=cr.1 h4;exact h4 (by rw [hbq,e])
 have hqe:(s.data.toList.drop 1).take (s.data.toList.length-1)=q:=by
  rw [hbq];simp
 have hql:q.length≤199:=by
  rw [hbq,List.length_cons]at hlen;omega
 refine cK (iL (x:=1) (k:=1) rfl (show 1≤s.data.toList.length by omega)) ?_;conv=>lhs;whnf
 refine(hD _).2 ⟨(s.data.toList.drop 1).take (s.data.toList.length-1),⟨rfl,by rw [hqe];omega⟩,fun v A1 hq=> ?_⟩;have hq:A.Sub A1∧Sl (A1.minus A) 1 (aZ ((s.data.toList.drop 1).take (s.data.toList.length-1))).length v ((aZ ((s.data.toList.drop 1).take (s.data.toList.length-1))).map cj):=hq;rw [hqe]at hq;obtain⟨ps,hps⟩:∃ps,ps=aZ q:=⟨_,rfl⟩
 have hpl:ps.length≤200:=by
  rw [hps,iC];have:=List.count_le_length (a:=(47:UInt8)) (l:=q);omega
 rw [←hps]at hq;obtain⟨s1,hS⟩:=hq;have hS0:=hS;obtain⟨ao,c,rfl,hc,hsl,ha1,ha2,ha3⟩:=hS;conv=>lhs;whnf
 have hpk:bO l=ps.all cE:=by
  have e:q.isEmpty=false:=by
   cases q with
   |nil=>exact absurd rfl hq0
   |cons x xs=>rfl
  rw [hl,hbq];show(decide (q.length<200)&&dr q)=_
  rw [decide_eq_true (by omega),dr,e,hps];rfl
 refine(hD _).2 ⟨cnt A1 5 [0,4] [] ps.length fun k=>(ps.take k).all cE=true,⟨(0:Nat),⟨Nat.zero_le _,by simp⟩,⟨rfl,trivial⟩,trivial,rfl⟩,fun(k:Nat) hk=>⟨⟨trivial,trivial⟩,trivial,?_⟩⟩;simp only [cnt]at hk;obtain⟨hkl,hall⟩:=hk;conv=>lhs;whnf
 refine ab (fun hlt=> ?_) (fun hlt=> ?_)<;>(conv=>lhs;whnf)
 ·have hkl2:k<ps.length:=by
    have hlt:(k:Int)<(ps.length:Int):=hlt;omega
  obtain⟨g,o,rfl,hra⟩:=Sl.at_ hc ha1 ha2 ha3 (by omega);have r1:=aJ (eo A A1) (nu hra k hkl2 rfl);have i0:(0:Int)≤(k:Int)∧(k:Int)<(ps.length:Int):=by omega
  repeat(first|refine aq i0 ?_|refine af r1 ?_
         conv=>lhs;whnf)
  have hpkl:ps[k].length≤1000:=by
   have h1:∀(l:List UInt8) (y:List UInt8),y∈aZ l→y.length≤l.length:=kO;have:=h1 q ps[k] (by rw [←hps];exact List.getElem_mem _);omega
  refine(hD _).2 ⟨(⟨ps[k].toArray⟩:ByteArray),⟨rfl,by show ps[k].length≤_;omega⟩,fun v A9 hq=> ?_⟩;have hq:A9=A1∧v= .bool (cE ps[k]):=hq;have h9:=hq.1.symm;have hv:=hq.2;subst h9
  by_cases hok:cE ps[k]=true
  rotate_left
  ·have hok:cE ps[k]=false:=by simpa using hok
   rw [hok]at hv;subst hv
   have hend:=hbad2 A1 s1 (by
    rw [hpk,List.all_eq_false]
    exact⟨ps[k],List.getElem_mem _,by simp [hok]⟩)
   conv=>lhs;whnf
   exact(hD _).2 hend
  rw [hok]at hv;subst hv;conv=>lhs;whnf
  refine(hD _).2 ⟨(k+1:Nat),⟨⟨by omega,?_⟩,⟨av (by omega),trivial⟩,trivial,rfl⟩,by show ps.length-(k+1)<ps.length-k;omega,⟨an rfl rfl,an rfl rfl,trivial⟩,trivial⟩;show(ps.take (k+1)).all cE=true
  rw [List.take_succ_eq_append_getElem hkl2,List.all_append,hall];simpa using hok
 ·have e:k=ps.length:=by
    have hlt:¬(k:Int)<(ps.length:Int):=hlt;omega
  rw [e,List.take_length]at hall
  have hend:jz.post s [.string s] A (.tuple #[.slice ao ps.length c,.bool true]) A1:=by
   have hk1:bO s.data.toList=true:=by rw [←hl,hpk];exact hall
   have e2:cY s.data.toList=ps:=by
    rw [cY,if_pos ⟨hk1,by rw [hbq];intro e;injection e with _ e;exact hq0 e⟩,hbq,hps];rfl
   refine⟨s1,.slice ao ps.length c,by rw [hk1],?_⟩;rw [e2];exact hS0
  exact(hD _).2 hend
theorem uo:aF Tryz.prog (bu [aE 162 jz,aE 189 joinS] noC):=az (aj _) (fun x hx=>by
 simp only [List.mem_cons,List.not_mem_nil,or_false]at hx;rcases hx with rfl|rfl
 ·exact ai xH
 ·exact ai join_ok)
def oW:aL:=⟨ByteArray,fun s vs _=>vs= [.string s]∧s.data.toList.length≤140737488351232,fun s _ A v A'=>A.Sub A'∧v= .bool (bO s.data.toList)⟩
def iF:aL:=⟨ByteArray,fun s vs _=>vs= [.string s]∧s.data.toList.length≤140737488351232,fun s _ A v A'=>A.Sub A'∧v= .string (aR s)⟩
theorem xI:FOk Tryz.prog 126 oW:=by
 refine aS mixed fun(s:ByteArray) vs A hp=> ?_
 obtain⟨rfl,hsz⟩:vs= [.string s]∧s.data.toList.length≤140737488351232:=hp;refine⟨_,noL,60,uo,ak _,fun blk os out tape D hD=> ?_⟩;conv=>lhs;whnf
 refine(hD _).2 ⟨s,⟨rfl,hsz⟩,fun v A' hq=> ?_⟩;have hq:A.Sub A'∧∃x,v= .tuple #[x,.bool (bO s.data.toList)]∧Sl (A'.minus A) 1 (cY s.data.toList).length x ((cY s.data.toList).map cj):=hq;obtain⟨s1,x,hv,hS⟩:=hq;subst hv;have hend:oW.post s [.string s] A (.bool (bO s.data.toList)) A':=⟨s1,rfl⟩;conv=>lhs;whnf
 exact(hD _).2 hend
theorem xR(s:ByteArray):(cY s.data.toList= []→aR s=⟨#[]⟩∧oB s=⟨#[]⟩)∧(∀h:cY s.data.toList≠ [],aR s=⟨(47::Lib.join ((cY s.data.toList).take ((cY s.data.toList).length-1)) [47]).toArray⟩∧oB s=⟨((cY s.data.toList).getLast h).toArray⟩)∧(cY s.data.toList).length≤200∧(Lib.join ((cY s.data.toList).take ((cY s.data.toList).length-1)) [47]).length≤200:=by
 by_cases hk:bO s.data.toList=true∧s.data.toList≠ [47]
 ·obtain⟨q,hq,hl,_⟩:=kZ hk.1
  have hq0:q≠ []:=fun e=>hk.2 (by rw [hq,e])
  have e:cY s.data.toList=aZ q:=by rw [cY,if_pos hk,hq];rfl
  have hpp:=vL (by rw [←hq];exact hk.1) hq0;rw [←hq]at hpp
  have hlen:(aZ q).length≤200:=by
   rw [iC];have:=List.count_le_length (a:=(47:UInt8)) (l:=q);omega
  rw [e];have hdl:(aZ q).take ((aZ q).length-1)=(aZ q).dropLast:=by rw [List.dropLast_eq_take]
  rw [hdl];refine⟨fun h=>absurd h (iw q),fun h=>⟨?_,?_⟩,hlen,?_⟩
  ·unfold aR
   rw [hpp.1]
  ·unfold oB
   have h2:=hpp.2;rw [List.getLast?_eq_some_getLast h]at h2;injection h2 with h2
   rw [h2]
  ·have h1:=hpp.1
   have h3:(jk s.data.toList).1.length≤s.data.toList.length:=by
    rw [jk,if_pos hk];exact List.length_take_le' _ _
   rw [h1,List.length_cons,hq,List.length_cons]at h3;omega
 ·have e:cY s.data.toList= []:=by rw [cY,if_neg hk]
  rw [e];refine⟨fun _=> ?_,fun h=>absurd rfl h,by simp,by simp [Lib.join_nil]⟩;unfold aR oB;rw [jk,if_neg hk];exact⟨rfl,rfl⟩
theorem nJ:FOk Tryz.prog 128 iF:=by
 refine aS mixed fun(s:ByteArray) vs A hp=> ?_
 obtain⟨rfl,hsz⟩:vs= [.string s]∧s.data.toList.length≤140737488351232:=hp;refine⟨_,noL,60,uo,ak _,fun blk os out tape D hD=> ?_⟩;conv=>lhs;whnf
 refine(hD _).2 ⟨s,⟨rfl,hsz⟩,fun v A' hq=> ?_⟩;have hq:A.Sub A'∧∃x,v= .tuple #[x,.bool (bO s.data.toList)]∧Sl (A'.minus A) 1 (cY s.data.toList).length x ((cY s.data.toList).map cj):=hq;obtain⟨hf1,hf2,hf3,hf4⟩:=xR s;obtain⟨ps,hps⟩:∃ps,ps=cY s.data.toList:=⟨_,rfl⟩;rw [←hps]at hq hf1 hf2 hf3 hf4;obtain⟨s1,x,hv,ao,c,rfl,hc,hsl,ha1,ha2,ha3⟩:=hq;subst hv;conv=>lhs;whnf
 refine ab (fun h0=> ?_) (fun h0=> ?_)<;>(conv=>lhs;whnf)
 ·have h0:(ps.length:Int)=0:=h0
  have e:ps= []:=List.length_eq_zero_iff.1 (by omega);have hend:iF.post s [.string s] A (.string ⟨#[]⟩) A':=⟨s1,by rw [(hf1 e).1]⟩;exact(hD _).2 hend
 have hpos:0<ps.length:=by
  have h0:¬(ps.length:Int)=0:=h0;omega
 have hne:ps≠ []:=fun e=>by rw [e]at hpos;exact absurd hpos (Nat.lt_irrefl _)
 obtain⟨g,o,rfl,hra⟩:=Sl.at_ hc ha1 ha2 ha3 hpos
 have hx:IntKind.i64.wrap ((ps.length:Int)-1)=((ps.length-1:Nat):Int):=by
  rw [Sx.wrap_i64 (by omega) (by omega)];omega
 conv=>lhs;whnf
 refine cK (lI hx (show ps.length-1≤c by omega)) ?_
 have hJ:Sl A' 1 (ps.take (ps.length-1)).length (.slice (some ⟨g,o+bif Nat.beq c 0 then 0 else 0*1,none⟩) ((IntKind.i64.wrap ((ps.length:Int)-1)).toNat-0) (c-0)) ((ps.take (ps.length-1)).map cj):=by
  have e0:(o+bif Nat.beq c 0 then 0 else 0*1)=o:=by cases Nat.beq c 0<;>rfl
  have e1:(ps.take (ps.length-1)).length=ps.length-1:=by rw [List.length_take];omega
  rw [hx,Int.toNat_natCast,Nat.sub_zero,e0,e1,Nat.sub_zero];refine Sl.row (by omega) ?_;have:=cU (aJ (eo A A') hra) (i:=0) (m:=(ps.length-1)*1) (by omega);rw [Nat.add_zero,List.drop_zero,←List.map_take]at this;rw [Nat.mul_one]at this ⊢;exact this
 have hJl:(ps.take (ps.length-1)).length≤1000:=by rw [List.length_take];omega
 conv=>lhs;whnf
 refine(hD _).2 ⟨ps.take (ps.length-1),⟨_,rfl,hJ,hJl,by omega⟩,fun v A9 hq=> ?_⟩;have hq:A9=A'∧v= .string ⟨(Lib.join (ps.take (ps.length-1)) [47]).toArray⟩:=hq;have h9:=hq.1.symm;have hv:=hq.2;subst h9;subst hv;have hend:iF.post s [.string s] A (.string ⟨(47::Lib.join (ps.take (ps.length-1)) [47]).toArray⟩) A':=⟨s1,by rw [(hf2 hne).1]⟩;conv=>lhs;whnf
 refine cK (Nat.ble_eq_true_of_le (show 1+(Lib.join (ps.take (ps.length-1)) [47]).length≤9223372036854775807 by omega)) ?_;conv=>lhs;whnf
 exact(hD _).2 hend
theorem row_set{F1 E F2:List Value}(i:Nat)(v:Value)(hi:i<E.length):(F1++(E++F2)).take (F1.length+i)++ [v]++(F1++(E++F2)).drop (F1.length+i+1)=F1++(E.set i v++F2):=by
 have h1:(F1++(E++F2)).take (F1.length+i)=F1++E.take i:=by
  rw [List.take_append,List.take_of_length_le (by omega),Nat.add_sub_cancel_left,List.take_append_of_le_length (by omega)]
 have h2:(F1++(E++F2)).drop (F1.length+i+1)=E.drop (i+1)++F2:=by
  rw [List.drop_append,List.drop_eq_nil_of_le (by omega),List.nil_append,show F1.length+i+1-F1.length=i+1 by omega,List.drop_append_of_le_length (by omega)]
 rw [h1,h2,List.set_eq_take_append_cons_drop,if_pos hi];simp
theorem fA.ah{α:Type}{enc:α→List Value}{es:Nat}(he:∀x,(enc x).length=es){A A':aa}{g:Nat}{e:TypeId}{l:List α}{v:Value}(h:fA A g es e l.length v (l.flatMap enc)){k i:Nat}(hk:k<l.length)(hi:i<es){w:Value}{x':α}(hx:enc x'=(enc l[k]).set i w)(hP:A.Put A' g (0+k*es+i) [w]):fA A' g es e (l.set k x').length v ((l.set k x').flatMap enc):=by
 obtain⟨h1,ao,c,h2,h3,h4,h5,h6⟩:=h;have hkl:=hk;obtain⟨h7,cc,h8,h9,h10⟩:=h6 (by omega);obtain⟨c0,t0,fz0,c1,k1,k2,k3⟩:=hP.at_;rw [h8]at k1;injection k1 with k1
 injection k1 with k1 k1' k1''
 subst k1;subst k1';subst k1''
 have hl:l=l.take k++l[k]::l.drop (k+1):=by
  rw [←List.drop_eq_getElem_cons hk,List.take_append_drop]
 have hs:l.set k x'=l.take k++x'::l.drop (k+1):=by
  rw [List.set_eq_take_append_cons_drop,if_pos hk]
 have hf:l.flatMap enc=(l.take k).flatMap enc++(enc l[k]++(l.drop (k+1)).flatMap enc):=by
  conv=>lhs;rw [hl]
  rw [List.flatMap_append,List.flatMap_cons]
 have hfs:(l.set k x').flatMap enc=(l.take k).flatMap enc++((enc l[k]).set i w++(l.drop (k+1)).flatMap enc):=by
  rw [hs,List.flatMap_append,List.flatMap_cons,hx]
 have hF1:((l.take k).flatMap enc).length=k*es:=by rw [eT (enc:=enc) he,List.length_take,Nat.min_eq_left (by omega)]
 have hfl:((l.set k x').flatMap enc).length=(l.set k x').length*es:=by
  rw [hfs,List.length_append,List.length_append,List.length_set,←List.length_append,←List.length_append,←hf,List.length_set];exact h1
 have hkn:k*es+es≤l.length*es:=by rw [←Nat.succ_mul];exact Nat.mul_le_mul_right _ hk
 refine⟨hfl,ao,c,by rw [List.length_set];exact h2,by rw [List.length_set];exact h3,h4,h5,fun _=>⟨h7,c1,k2,?_,?_⟩⟩
 ·rw [List.length_set,←Array.length_toList,k3]
  simp only [List.length_append,List.length_take,List.length_drop,Array.length_toList,List.length_singleton];omega
 ·rw [List.length_set,k3,hfs]
  have hrow:=row_set (F1:=(l.take k).flatMap enc) (E:=enc l[k]) (F2:=(l.drop (k+1)).flatMap enc) i w (by rw [he];exact hi);rw [←hf,hF1,←h10]at hrow;rw [←hrow];have e1:(0+k*es+i)=k*es+i:=by omega
  rw [e1,List.length_singleton]
  have hlen:(cc.toList.take (k*es+i)++ [w]).length=k*es+i+1:=by
   rw [List.length_append,List.length_take,Array.length_toList,List.length_singleton];omega
  rw [List.take_append,List.take_of_length_le (by rw [hlen];omega),hlen,List.take_take,Nat.min_eq_left (by omega),List.drop_take]
theorem fB.AZ{A A' B B':aa}{O:Nat→Prop}{r:Nat}{l:List (aC×Value)}{S:List bb}{vn vs:Value}{gn gs:Nat}(h:fB A B O r l S vn vs gn gs)(hBB:B.Sub B')(hB2:B'.Sub A)(hoff:∀k,O k→B'.blk k=none){k i:Nat}(hk:k<l.length)(hi:i<12){w:Value}{x':aC×Value}(hx:aP x'=(aP l[k]).set i w)(hd:SlB B' x'.2 x'.1.data)(hP:A.Put A' gn (0+k*12+i) [w]):
  fB A' B' O r (l.set k x') S vn vs gn gs∧Kept A O A' O:=by
 have hpos:0<l.length:=by omega
 have hgn:=h.own.2.1 hpos;have hoth:=hP.other;refine⟨⟨h.top.sub fun o ho=>by rw [hoth r (Ne.symm (h.ne.1 hpos))];exact ho,fA.ah (enc:=aP) (fun _=>rfl) h.nrow hk hi hx hP,h.srow.bk fun hs=>hoth gs (Ne.symm (h.ne.2.2 hpos hs)),fun x hx2=> ?_,fun j o hj=> ?_,⟨h.own.1,fun _=>hgn,h.own.2.2⟩,hoff,fun j hj=> ?_,⟨fun _=>h.ne.1 hpos,h.ne.2.1,fun _ hs=>h.ne.2.2 hpos hs⟩⟩,fun j o hj hO=> ?_,fun j hj=>(hP.dom j).1 hj,fun j hj=> .inl hj⟩
 ·rcases List.mem_or_eq_of_mem_set hx2 with h1|h1
  ·exact(h.data x h1).sub hBB
  ·rw [h1]
   exact hd
 ·rw [hoth j fun e=>by rw [e,hoff gn hgn]at hj;cases hj]
  exact hB2 j o hj
 ·by_cases e:j=gn
  ·obtain⟨c0,t0,fz0,c1,k1,k2,_⟩:=hP.at_
   rw [e];exact⟨_,k2⟩
  ·rw [hoth j e];exact h.live j hj
 ·rw [hoth j fun e=>hO (e▸hgn)]
  exact hj
theorem fB.ah{A A' B:aa}{O:Nat→Prop}{r:Nat}{l:List (aC×Value)}{S:List bb}{vn vs:Value}{gn gs:Nat}(h:fB A B O r l S vn vs gn gs){k i:Nat}(hk:k<l.length)(hi:i<12){w:Value}{x':aC×Value}(hx:aP x'=(aP l[k]).set i w)(hv:x'.2=l[k].2)(hd:x'.1.data=l[k].1.data)(hP:A.Put A' gn (0+k*12+i) [w]):
  fB A' B O r (l.set k x') S vn vs gn gs∧Kept A O A' O:=
 h.AZ (aa.Sub.refl _) h.sub h.off hk hi hx (by rw [hv,hd];exact h.data l[k] (List.getElem_mem hk)) hP
theorem fB.room{A B:aa}{O:Nat→Prop}{r:Nat}{l:List (aC×Value)}{S:List bb}{vn vs:Value}{gn gs:Nat}(h:fB A B O r l S vn vs gn gs){k i o:Nat}(hk:k<l.length)(hi:i<12)(ho:o=0+k*12+i):A.Room gn o 1:=by
 obtain⟨_,ao,c,_,_,_,_,h6⟩:=h.nrow;obtain⟨_,cc,h8,h9,_⟩:=h6 (by omega);exact⟨cc,_,_,h8,by omega,.inl rfl⟩
theorem Kept.trans{A A1 A2:aa}{O O1 O2:Nat→Prop}(h:Kept A O A1 O1)(k:Kept A1 O1 A2 O2):Kept A O A2 O2:=by
 refine⟨fun j o hj hO=>k.bk j o (h.bk j o hj hO) fun h1=> ?_,fun j hj=>h.dom j (k.dom j hj),fun j hj=> ?_⟩
 ·rcases h.own j h1 with h2|h2
  ·exact hO h2
  ·rw [hj]at h2;cases h2
 ·rcases k.own j hj with h1|h1
  ·exact h.own j h1
  ·exact .inr (h.dom j h1)
theorem Kept.more{A A1:aa}{O:Nat→Prop}(h:A.Sub A1):Kept A O A1 O:=by
 refine⟨fun j o hj _=>h j o hj,fun j hj=> ?_,fun _ hj=> .inl hj⟩
 cases hb:A.blk j with
 |none=>rfl
 |some o=>rw [h j o hb]at hj;cases hj
def Fy(z cv:Int)(x:aC):aC:=⟨x.path,x.data, { x.stat with cver:=cv,pzxid:=z }⟩
def fj(N:List aC)(p:ByteArray)(z cv:Int):List aC:=if cM N (aR p)<0 then N else match N[(cM N (aR p)).toNat]? with
 |some x=>N.set (cM N (aR p)).toNat (Fy z cv x)
 |none=>N
def vy:aL:=⟨RG×ByteArray×Int×Int,fun g vs A=>vs= [.pointer (some ⟨g.1.r,0,none⟩),.string g.2.1,.int .i64 g.2.2.1,.int .i64 g.2.2.2]∧bC A g.1.B g.1.O g.1.r g.1.N g.1.S∧g.1.N.length≤1000000∧g.2.1.data.toList.length≤140737488351232,
 fun g _ A _ A'=>∃O',bC A' g.1.B O' g.1.r (fj g.1.N g.2.1 g.2.2.1 g.2.2.2) g.1.S∧Kept A g.1.O A' O'⟩
theorem EK:FOk Tryz.prog 83 vy:=by
 refine aS mixed fun⟨⟨N,S,B,O,r⟩,p,z,cv⟩ vs A hp=> ?_
 obtain⟨rfl,hRef,hN,hpl⟩:vs= [.pointer (some ⟨r,0,none⟩),.string p,.int .i64 z,.int .i64 cv]∧bC A B O r N S∧N.length≤1000000∧p.data.toList.length≤140737488351232:=hp
 have hC:aF Tryz.prog (bu [aE 85 sX,aE 128 iF] noC):=az (aj _) (fun x hx=>by
  simp only [List.mem_cons,List.not_mem_nil,or_false]at hx;rcases hx with rfl|rfl
  ·exact ai qT
  ·exact ai nJ)
 refine⟨_,noL,60,hC,ak _,fun blk os out tape D hD=> ?_⟩;conv=>lhs;whnf
 refine(hD _).2 ⟨p,⟨rfl,hpl⟩,fun v A1 hq=> ?_⟩;have hq:A.Sub A1∧v= .string (aR p):=hq;obtain⟨s1,hv⟩:=hq;subst hv;have hRef1:=hRef.more s1;conv=>lhs;whnf
 refine(hD _).2 ⟨(⟨N,S,B,O,r⟩,aR p),⟨rfl,hRef1,hN⟩,fun v A9 hq=> ?_⟩;have hq:A9=A1∧v= .int .i64 (cM N (aR p)):=hq;have h9:=hq.1.symm;have hv:=hq.2;subst h9
 by_cases hf:cM N (aR p)<0
 ·subst hv
  have hend:vy.post (⟨N,S,B,O,r⟩,p,z,cv) [] A (.tuple #[]) A1:=by
   show ∃O',bC A1 B O' r (fj N p z cv) S∧Kept A O A1 O'
   rw [fj,if_pos hf];exact⟨O,hRef1,Kept.more s1⟩
  conv=>lhs;whnf
  refine aI (by omega) ?_;conv=>lhs;whnf
  exact(hD _).2 hend
 obtain⟨k,hk,hfk⟩:=sY hf;rw [hfk]at hv;subst hv;obtain⟨l,vn,vs',gn,gs,hl,h⟩:=hRef1;have hll:l.length=N.length:=by rw [←hl,List.length_map]
 have hkl:k<l.length:=by omega
 have hpos:0<l.length:=by omega
 obtain⟨_,ao,c,hvn,hc,hz1,hz2,hz3⟩:=h.nrow;obtain⟨e,cc,h8,h9,h10⟩:=hz3 hpos;subst e;subst hvn;have htop:A1.rd r 0 1=some [.slice (some ⟨gn,0,none⟩) l.length c]:=h.top.rd (o:=0) (n:=1) (by show 0+1≤2;omega);have i0:(0:Int)≤(k:Int)∧(k:Int)<(l.length:Int):=by omega
 have hkn:k*12+12≤l.length*12:=by omega
 conv=>lhs;whnf
 repeat(first|refine af htop ?_|refine aq i0 ?_
        conv=>lhs;whnf)
 obtain⟨⟨⟨xp,xd,⟨q1,q2,q3,q4,q5,q6,q7,q8,q9,q10⟩⟩,xv⟩,hx⟩:∃x,x=l[k]:=⟨_,rfl⟩;have hroom:A1.Room gn (0+k*12+2+6) 1:=⟨cc,_,_,h8,by omega,.inl rfl⟩;refine(hD _).2 ⟨hroom,fun A2 hP=> ?_⟩;have hP:A1.Put A2 gn (0+k*12+8) [.int .i64 cv]:=hP;obtain⟨hT2,hK2⟩:=h.ah hkl (i:=8) (by omega) (w:= .int .i64 cv) (x':=(⟨xp,xd,⟨q1,q2,q3,q4,q5,q6,cv,q8,q9,q10⟩⟩,xv)) (by rw [←hx];rfl) (by rw [←hx]) (by rw [←hx]) hP;have htop2:A2.rd r 0 1=some [.slice (some ⟨gn,0,none⟩) l.length c]:=hT2.top.rd (o:=0) (n:=1) (by show 0+1≤2;omega)
 obtain⟨cc2,t2,fz2,hroom2⟩:A2.Room gn (0+k*12+2+2) 1:=by
  obtain⟨c0,t0,fz0,c1,k1,k2,k3⟩:=hP.at_;rw [h8]at k1;injection k1 with k1
  injection k1 with k1 k1' k1''
  subst k1;subst k1';subst k1''
  refine⟨c1,_,_,k2,?_,.inl rfl⟩;rw [←Array.length_toList,k3];simp only [List.length_append,List.length_take,List.length_drop,Array.length_toList,List.length_singleton];omega
 conv=>lhs;whnf
 repeat(first|refine af htop2 ?_|refine aq i0 ?_
        conv=>lhs;whnf)
 refine(hD _).2 ⟨⟨cc2,t2,fz2,hroom2⟩,fun A3 hP2=> ?_⟩;have hP2:A2.Put A3 gn (0+k*12+4) [.int .i64 z]:=hP2;have hk2:k<(l.set k ((⟨xp,xd,⟨q1,q2,q3,q4,q5,q6,cv,q8,q9,q10⟩⟩:aC),xv)).length:=by rw [List.length_set];exact hkl
 obtain⟨hT3,hK3⟩:=hT2.ah hk2 (i:=4) (by omega) (w:= .int .i64 z) (x':=(⟨xp,xd,⟨q1,q2,z,q4,q5,q6,cv,q8,q9,q10⟩⟩,xv)) (by rw [List.getElem_set_self];rfl) (by rw [List.getElem_set_self]) (by rw [List.getElem_set_self]) hP2
 have hend:vy.post (⟨N,S,B,O,r⟩,p,z,cv) [] A (.tuple #[]) A3:=by
  show ∃O',bC A3 B O' r (fj N p z cv) S∧Kept A O A3 O'
  refine⟨O,⟨_,_,_,_,_,?_,hT3⟩,(Kept.more s1).trans (hK2.trans hK3)⟩;rw [fj,if_neg hf,hfk,Int.toNat_natCast,List.set_set,List.map_set,hl]
  have e2:N[k]? =some ⟨xp,xd,⟨q1,q2,q3,q4,q5,q6,q7,q8,q9,q10⟩⟩:=by
   rw [←hl,List.getElem?_map,List.getElem?_eq_getElem hkl,←hx];rfl
  rw [e2];rfl
 conv=>lhs;whnf
 exact(hD _).2 hend
end
end Go.Proofs.YtphigpccfbfnoaaGreatDoor
