/-
  Parts of the proof: RkB RkC RbB RbC
-/
import Derived.Test.YtphigpccfbfnoaaGreatDoorG33
import Derived.Shelf.Strings.OnBuilder
set_option maxRecDepth 100000
set_option maxHeartbeats 0
namespace Go.Proofs.YtphigpccfbfnoaaGreatDoor
open Go.Sx Go.RowKit
noncomputable section
open Classical
def dh(N:List aC)(p:ByteArray):List aC:=if cM N p<0 then N else N.take (cM N p).toNat++N.drop ((cM N p).toNat+1)
theorem sY{N:List aC}{p:ByteArray}(h:¬cM N p<0):∃k:Nat,k<N.length∧cM N p=(k:Nat):=by
 unfold cM at h ⊢
 cases hf:N.findIdx? fun x=>decide (x.path=p)with
 |none=>rw [hf]at h;exact absurd (by decide) h
 |some i=>
  rw [List.findIdx?_eq_some_iff_getElem]at hf;exact⟨i,hf.1,rfl⟩
theorem Kept.refl(A:aa)(O:Nat→Prop):Kept A O A O:=⟨fun _ _ h _=>h,fun _ h=>h,fun _ h=> .inl h⟩
theorem uw{B:aa}{l:List (aC×Value)}(h:∀x∈l,SlB B x.2 x.1.data):∀v∈l.flatMap aP,v.oneCell'=true:=fun v hv=>by
 obtain⟨x,hx,hv⟩:=List.mem_flatMap.1 hv;obtain⟨a,c,hf⟩:=(h x hx).1.form;simp only [aP,ec.cells,List.mem_cons,List.not_mem_nil,or_false]at hv;rcases hv with rfl|rfl|rfl|rfl|rfl|rfl|rfl|rfl|rfl|rfl|rfl|rfl<;>first|rfl|(rw [hf];rfl)
theorem dO{α:Type}{enc:α→List Value}{l l':List α}(h:l'.Sublist l){v:Value}(hv:v∈l'.flatMap enc):v∈l.flatMap enc:=by
 obtain⟨x,hx,hv⟩:=List.mem_flatMap.1 hv;exact List.mem_flatMap.2 ⟨x,h.subset hx,hv⟩
theorem wQ{m n:Nat}(h:n<m):Nat.beq m n=false:=by
 cases hb:Nat.beq m n with
 |false=>rfl
 |true=>have:=Nat.eq_of_beq_eq_true hb;omega
def yN:aL:=⟨RG×ByteArray,fun g vs A=>vs= [.pointer (some ⟨g.1.r,0,none⟩),.string g.2]∧bC A g.1.B g.1.O g.1.r g.1.N g.1.S∧g.1.N.length≤1000000,
 fun g _ A _ A'=>∃O',bC A' g.1.B O' g.1.r (dh g.1.N g.2) g.1.S∧Kept A g.1.O A' O'⟩
theorem Ca:FOk Tryz.prog 84 yN:=by
 refine aS mixed fun⟨⟨N,S,B,O,r⟩,p⟩ vs A hp=> ?_
 obtain⟨rfl,hRef,hN⟩:vs= [.pointer (some ⟨r,0,none⟩),.string p]∧bC A B O r N S∧N.length≤1000000:=hp
 have hC:aF Tryz.prog (bu [aE 85 sX] noC):=az (aj _) (fun x hx=>by
  simp only [List.mem_singleton]at hx
  subst hx;exact ai qT)
 refine⟨_,noL,60,hC,ak _,fun blk os out tape D hD=> ?_⟩;conv=>lhs;whnf
 refine(hD _).2 ⟨(⟨N,S,B,O,r⟩,p),⟨rfl,hRef,hN⟩,fun v A9 hq=> ?_⟩;have hq:A9=A∧v= .int .i64 (cM N p):=hq;have h9:=hq.1.symm;have hv:=hq.2;subst h9
 by_cases hf:cM N p<0
 ·subst hv
  have hend:yN.post (⟨N,S,B,O,r⟩,p) [] A (.tuple #[]) A:=by
   show ∃O',bC A B O' r (dh N p) S∧Kept A O A O'
   rw [dh,if_pos hf];exact⟨O,hRef,Kept.refl _ _⟩
  conv=>lhs;whnf
  refine bP hf ?_;conv=>lhs;whnf
  exact(hD _).2 hend
 obtain⟨k,hk,hfk⟩:=sY hf;have hdrop:dh N p=N.take k++N.drop (k+1):=by rw [dh,if_neg hf,hfk,Int.toNat_natCast]
 rw [hfk]at hv;subst hv;obtain⟨l,vn,vs',gn,gs,hl,h⟩:=hRef;have hll:l.length=N.length:=by rw [←hl,List.length_map]
 obtain⟨ao,c,hvn,hc,hao⟩:=h.nrow.form;have e:=hao (by omega);subst e;subst hvn;have htop:A.rd r 0 1=some [.slice (some ⟨gn,0,none⟩) l.length c]:=h.top.rd (o:=0) (n:=1) (by show 0+1≤2;omega)
 have hra:A.rd gn 0 (l.length*12)=some (l.flatMap aP):=by
  obtain⟨_,ao2,c2,e2,_,_,_,h6⟩:=h.nrow;obtain⟨_,cc,h8,h9,h10⟩:=h6 (by omega);rw [rd_mk h8 (by omega),List.drop_zero,h10]
 have hx:IntKind.i64.wrap ((k:Int)+1)=((k+1:Nat):Int):=qX k (by omega);conv=>lhs;whnf
 repeat(refine af htop ?_
        conv=>lhs;whnf)
 refine cK (lI rfl (show k≤c by omega)) ?_;conv=>lhs;whnf
 have hn0:bq A A 12 63 0 (.slice (aD none) 0 0) []:=bq.nil _ _ _ _;obtain⟨hP0,hA0⟩:=hn0.fy;have hP0:=hP0 k 120 (by omega) (by omega);have he12:∀x:aC×Value,(aP x).length=12:=fun _=>rfl
 have hs1:(if k=0 then some []else A.rd gn (0+bif Nat.beq c 0 then 0 else 0*12) (k*12))=some ((l.take k).flatMap aP):=ju (enc:=aP) he12 hra (by omega) (by cases Nat.beq c 0<;>rfl);have hlk:(l.take k).length=k:=by rw [List.length_take];omega
 have hfl1:((l.take k).flatMap aP).length=k*12:=by rw [eT (enc:=aP) he12,hlk]
 have hld:(l.drop (k+1)).length=l.length-(k+1):=List.length_drop;have hone:∀v∈l.flatMap aP,v.oneCell'=true:=uw h.data;refine(hD _).2 ⟨[],(l.take k).flatMap aP,rfl,hs1,hfl1,fun v hv=>hone v (dO (List.take_sublist k l) hv),by show 0+k≤9223372036854775807;omega,hP0.cap,rfl,fun _=>⟨rfl,rfl⟩,fun _ _ h=>(by cases h),fun v A2 hAp=> ?_⟩;obtain⟨hG2,hk2⟩:=hA0 k _ v A2 hfl1 (fun _ h=>h) hAp;rw [Nat.zero_add,List.nil_append]at hG2;have s2:A.Sub A2:=fun j o hj=>by rw [hk2 j o hj];exact hj
 have htop2:=aJ s2 htop;obtain⟨b2,c2,hv2,hb2, -⟩:=hG2.ff;subst hv2;obtain⟨hP3,hA3⟩:=hG2.fy;have hP3:=hP3 (l.length-(k+1)) 120 (by omega) (by omega)
 have hd2:∀j,A2.blk j=none→A.blk j=none:=fun j hj=>by
  cases h9:A.blk j with
  |none=>rfl
  |some o=>rw [s2 _ _ h9]at hj;cases hj
 have hs2:(if l.length-(k+1)=0 then some []else A2.rd gn (0+bif Nat.beq c (k+1)then 0 else(k+1)*12) ((l.length-(k+1))*12))=some ((l.drop (k+1)).flatMap aP):=oL (enc:=aP) he12 (aJ s2 hra) rfl fun hlt=>by
  rw [wQ (by omega)];show 0+(k+1)*12=_
  omega
 have hs3:(if l.length-(IntKind.i64.wrap ((k:Int)+1)).toNat=0 then some []else A2.rd gn (0+bif Nat.beq c (IntKind.i64.wrap ((k:Int)+1)).toNat then 0 else(IntKind.i64.wrap ((k:Int)+1)).toNat*12) ((l.length-(IntKind.i64.wrap ((k:Int)+1)).toNat)*12))=some ((l.drop (k+1)).flatMap aP):=by
  rw [hx,Int.toNat_natCast];exact hs2
 have hnx:l.length-(IntKind.i64.wrap ((k:Int)+1)).toNat=l.length-(k+1):=by rw [hx,Int.toNat_natCast]
 have hfl2:((l.drop (k+1)).flatMap aP).length=(l.length-(IntKind.i64.wrap ((k:Int)+1)).toNat)*12:=by rw [eT (enc:=aP) he12,hld,hnx]
 have hle3:k+(l.length-(IntKind.i64.wrap ((k:Int)+1)).toNat)≤9223372036854775807:=by rw [hnx];omega
 have hcap3:c2<k+(l.length-(IntKind.i64.wrap ((k:Int)+1)).toNat)→Builtin.nextslicecap (k+(l.length-(IntKind.i64.wrap ((k:Int)+1)).toNat)) c2*120≤281474976710656:=by rw [hnx];exact hP3.cap
 have hroom3:∀g o,b2=some (g,o)→k+(l.length-(IntKind.i64.wrap ((k:Int)+1)).toNat)≤c2→(l.drop (k+1)).flatMap aP≠ []→A2.Room g (o+k*12) ((l.drop (k+1)).flatMap aP).length:=by
  rw [hnx];exact fun g o h1 h2 _=>hP3.room _ (by rw [hfl2,hnx]) g o h1 h2
 have hAp3:∀v A3,dC A2 b2 k c2 12 63 ((l.take k).flatMap aP) ((l.drop (k+1)).flatMap aP) (l.length-(IntKind.i64.wrap ((k:Int)+1)).toNat) v A3→bq A A3 12 63 (l.take k++l.drop (k+1)).length v ((l.take k++l.drop (k+1)).flatMap aP)∧A.Sub A3:=fun v A3 hAp=>by
  rw [hnx]at hAp;obtain⟨h1,h2⟩:=hA3 _ _ v A3 (by rw [hfl2,hnx]) hd2 hAp;rw [List.length_append,hlk,hld,List.flatMap_append];exact⟨h1,fun j o hj=>by rw [h2 j o hj];exact s2 _ _ hj⟩
 conv=>lhs;whnf
 repeat(refine af htop2 ?_
        conv=>lhs;whnf)
 refine cK (iL hx (show k+1≤l.length by omega)) ?_;refine Or.elim hb2 (fun hb2=> ?_) (fun hb2=> ?_);rotate_left;obtain⟨g2,hb2⟩:=hb2
 all_goals
  subst hb2;conv=>lhs;whnf
  refine(hD _).2 ⟨(l.take k).flatMap aP,(l.drop (k+1)).flatMap aP,hP3.rd,hs3,hfl2,fun v hv=>hone v (dO (List.drop_sublist _ l) hv),hle3,hcap3,rfl,hP3.none_,hroom3,fun v A3 hAp=> ?_⟩;obtain⟨hG3,s3⟩:=hAp3 v A3 hAp;obtain⟨b3,c3,hv3, -, -⟩:=hG3.ff;subst hv3;have hT3:aG A3 r [.slice (some ⟨gn,0,none⟩) l.length c,vs']:=h.top.sub fun o ho=>s3 _ _ ho
  conv=>lhs;whnf
  refine(hD _).2 ⟨hT3.room (o:=0) (n:=1) (by show 0+1≤2;omega),fun A4 hP=> ?_⟩;have hP:A3.Put A4 r 0 [.slice (aD b3) (l.take k++l.drop (k+1)).length c3]:=hP
  have hend:yN.post (⟨N,S,B,O,r⟩,p) [] A (.tuple #[]) A4:=by
   show ∃O',bC A4 B O' r (dh N p) S∧Kept A O A4 O'
   have h1:=h.nodes s3 hG3 (fun x hx=>h.data x (by
    rcases List.mem_append.1 hx with hx|hx
    ·exact List.take_subset _ _ hx
    ·exact List.drop_subset _ _ hx)) hP
   rw [hdrop,←hl];rw [List.map_append,List.map_take,List.map_drop]at h1;exact h1
  conv=>lhs;whnf
  exact(hD _).2 hend
def ql(p:ByteArray)(x:aC):Bool:=ltL (eC x.path) (eC p)
def mU(N:List aC)(p:ByteArray):Nat:=(N.takeWhile (ql p)).length
def cA(N:List aC)(n:aC):List aC:=(dh N n.path).take (mU (dh N n.path) n.path)++n::(dh N n.path).drop (mU (dh N n.path) n.path)
theorem Ff{N:List aC}{p:ByteArray}{k:Nat}(hk:k≤N.length)(h0:∀i (h:i<N.length),i<k→ql p N[i]=true)(h1:∀h:k<N.length,ql p N[k]=false):mU N p=k:=by
 induction N generalizing k with
 |nil=>
  have:k=0:=by simpa using hk
  rw [this];rfl
 |cons x N ih=>
  cases k with
  |zero=>
   have:=h1 (by simp);unfold mU;rw [List.takeWhile_cons,if_neg (by simpa using this)];rfl
  |succ k=>
   have hx:=h0 0 (by simp) (by omega);have:=ih (k:=k) (by simpa using hk) (fun i hi hik=>h0 (i+1) (by simpa using hi) (by omega)) (fun h=>h1 (by simpa using h));unfold mU at this ⊢;rw [List.takeWhile_cons,if_pos (by simpa using hx),List.length_cons,this]
def CU:aL:=⟨RG×(aC×Value)×aa,fun g vs A=>vs= [.pointer (some ⟨g.1.r,0,none⟩),.agg (aP g.2.1).toArray]∧bC A g.1.B g.1.O g.1.r g.1.N g.1.S∧g.1.N.length≤1000000∧SlB g.2.2 g.2.1.2 g.2.1.1.data∧Aside A g.2.2 g.1.O,
 fun g _ A _ A'=>∃O',bC A' (g.1.B.plus g.2.2) O' g.1.r (cA g.1.N g.2.1.1) g.1.S∧Kept A g.1.O A' O'⟩
theorem mi(N:List aC)(p:ByteArray):(dh N p).length≤N.length:=by
 unfold dh
 split
 ·omega
 ·rw [List.length_append,List.length_take,List.length_drop];omega
theorem put_ok:FOk Tryz.prog 82 CU:=by
 refine aS mixed fun⟨⟨N,S,B,O,r⟩,⟨⟨p,d,⟨q1,q2,q3,q4,q5,q6,q7,q8,q9,q10⟩⟩,vd⟩,C⟩ vs A hp=> ?_
 obtain⟨rfl,hRef,hN,hd,hAs⟩:vs= [.pointer (some ⟨r,0,none⟩),.agg #[.string p,vd,.int .i64 q1,.int .i64 q2,.int .i64 q3,.int .i64 q4,.int .i64 q5,.int .i64 q6,.int .i64 q7,.int .i64 q8,.int .i64 q9,.int .i64 q10]]∧bC A B O r N S∧N.length≤1000000∧SlB C vd d∧Aside A C O:=hp;obtain⟨ad,cd,rfl⟩:=hd.1.form
 have hC:aF Tryz.prog (bu [aE 84 yN] noC):=az (aj _) (fun x hx=>by
  simp only [List.mem_singleton]at hx
  subst hx;exact ai Ca)
 refine⟨_,da Tryz.prog _ noL 60 [(82,0)],60,hC,aH mixed hC (ak _) _ _,fun blk os out tape D hD=> ?_⟩;conv=>lhs;whnf
 refine(hD _).2 ⟨(⟨N,S,B,O,r⟩,p),⟨rfl,hRef,hN⟩,fun v A1 hq=> ?_⟩;have hq:∃O',bC A1 B O' r (dh N p) S∧Kept A O A1 O':=hq;obtain⟨O1,⟨l,vn,vs',gn,gs,hl,h⟩,hK⟩:=hq;have hdl:=mi N p;have hll:l.length=(dh N p).length:=by rw [←hl,List.length_map]
 obtain⟨_,ao,c,hvn,hc,hz1,hz2,hz3⟩:=h.nrow;have hao:0<l.length→ao=some ⟨gn,0,none⟩:=fun hn=>(hz3 hn).1
 have hcs:ao=none∨∃g9 o9,ao=some ⟨g9,o9,none⟩:=by
  cases ao with
  |none=>exact .inl rfl
  |some a=>
   obtain⟨g9,o9,sp⟩:=a;have:=hz2 _ rfl;dsimp only at this;subst this;exact .inr ⟨g9,o9,rfl⟩
 subst hvn;have htop:A1.rd r 0 1=some [.slice ao l.length c]:=h.top.rd (o:=0) (n:=1) (by show 0+1≤2;omega);obtain⟨xn,hxn⟩:∃xn:aC×Value,xn=(⟨p,d,⟨q1,q2,q3,q4,q5,q6,q7,q8,q9,q10⟩⟩,.slice ad d.length cd):=⟨_,rfl⟩;have hxl:(aP xn).length=12:=rfl;have he12:∀x:aC×Value,(aP x).length=12:=fun _=>rfl
 have hone:∀v∈l.flatMap aP,v.oneCell'=true:=uw h.data
 have honex:∀v∈aP xn,v.oneCell'=true:=fun v hv=>by
  rw [hxn]at hv;simp only [aP,ec.cells,List.mem_cons,List.not_mem_nil,or_false]at hv;rcases hv with rfl|rfl|rfl|rfl|rfl|rfl|rfl|rfl|rfl|rfl|rfl|rfl<;>rfl
 have hn0:bq A1 A1 12 63 0 (.slice (aD none) 0 0) []:=bq.nil _ _ _ _;obtain⟨hP0,hA0⟩:=hn0.fy;have hC1:C.Sub A1:=fun j o hj=>hK.bk j o (hAs.1 j o hj) (hAs.2 j o hj)
 have hCO:∀k,O1 k→C.blk k=none:=fun k hk=>by
  cases hc9:C.blk k with
  |none=>rfl
  |some o=>
   rcases hK.own k hk with h1|h1
   ·exact absurd h1 (hAs.2 k o hc9)
   ·have:=hAs.1 k o hc9
    rw [h1]at this;cases this
 have hBA:B.Sub A:=by
  obtain⟨l0,vn0,vs0,gn0,gs0,_,h0⟩:=hRef;exact h0.sub
 have hCP:C.Sub (B.plus C):=fun j o hj=>by
  rw [jC]
  cases hb:B.blk j with
  |none=>exact hj
  |some o'=>
   have h1:=hBA _ _ hb;rw [hAs.1 _ _ hj]at h1;exact h1.symm
 have hpc:∀j o,(B.plus C).blk j=some o→B.blk j=some o∨C.blk j=some o:=fun j o hj=>(bL hj).imp id And.right
 have hfinq:∀q,q≤l.length→(∀i (h:i<l.length),i<q→ql p l[i].1=true)→(∀h:q<l.length,ql p l[q].1=false)→∀A5 A6 v,A1.Sub A5→bq A1 A5 12 63 (l.take q++xn::l.drop q).length v ((l.take q++xn::l.drop q).flatMap aP)→A5.Put A6 r 0 [v]→
   CU.post (⟨N,S,B,O,r⟩,(⟨p,d,⟨q1,q2,q3,q4,q5,q6,q7,q8,q9,q10⟩⟩,.slice ad d.length cd),C) [] A (.tuple #[]) A6:=fun q hq h0 h1 A5 A6 v s5 hG hP=>by
  have hpl:mU (dh N p) p=q:=by
   rw [←hl];exact Ff (by rw [List.length_map];exact hq) (fun i hi hik=>by rw [List.getElem_map];exact h0 i (by rw [List.length_map]at hi;exact hi) hik) (fun hi=>by rw [List.getElem_map];exact h1 (by rw [List.length_map]at hi;exact hi))
  obtain⟨O2,hR2,hK2⟩:=h.Fp (B':=B.plus C) s5 hG (fun j o hj=>by
   rcases hpc j o hj with h2|h2
   ·exact s5 _ _ (h.sub _ _ h2)
   ·exact s5 _ _ (hC1 _ _ h2)) (fun k hk=>by
   cases hb:(B.plus C).blk k with
   |none=>rfl
   |some o=>
    rcases hpc k o hb with h2|h2
    ·rw [h.off k hk]at h2;cases h2
    ·rw [hCO k hk]at h2;cases h2) (fun g hg _ _=>by
   cases hb:(B.plus C).blk g with
   |none=>rfl
   |some o=>
    rcases hpc g o hb with h2|h2
    ·have:=h.sub _ _ h2;rw [hg]at this;cases this
    ·have:=hC1 _ _ h2;rw [hg]at this;cases this) (fun x hx=>by
   rcases List.mem_append.1 hx with hx|hx
   ·exact(h.data x (List.take_subset _ _ hx)).sub (fk _ _)
   ·rcases List.mem_cons.1 hx with hx|hx
    ·rw [hx,hxn]
     exact hd.sub hCP
    ·exact(h.data x (List.drop_subset _ _ hx)).sub (fk _ _)) hP
  refine⟨O2,?_,fun k o hk hO=>hK2.bk k o (hK.bk k o hk hO) fun h1=> ?_,fun k hk=>hK.dom k (hK2.dom k hk),fun k hk=> ?_⟩
  ·show bC A6 (B.plus C) O2 r (cA N ⟨p,d,⟨q1,q2,q3,q4,q5,q6,q7,q8,q9,q10⟩⟩) S
   unfold cA;dsimp only;rw [hpl,←hl];rw [List.map_append,List.map_cons,List.map_take,List.map_drop,hxn]at hR2;exact hR2
  ·rcases hK.own k h1 with h2|h2
   ·exact hO h2
   ·rw [hk]at h2;cases h2
  ·rcases hK2.own k hk with h1|h1
   ·exact hK.own k h1
   ·exact .inr (hK.dom k h1)
 conv=>lhs;whnf
 refine(hD _).2 ⟨⟨Nat,fun q=>q≤l.length∧∀i (h:i<l.length),i<q→ql p l[i].1=true, [0,3], [0],fun q=> [(4,.v (.int .i64 q))],fun _=> [],fun _=>A1,fun q=>l.length-q⟩,⟨(0:Nat),⟨Nat.zero_le _,fun i _ h=>absurd h (Nat.not_lt_zero i)⟩,⟨rfl,trivial⟩,trivial,rfl⟩,fun(q:Nat) hq=>⟨⟨trivial,trivial⟩,trivial,?_⟩⟩;obtain⟨hql,hqlt⟩:=hq;have hfl1:((l.take q).flatMap aP).length=q*12:=by rw [eT (enc:=aP) he12,List.length_take,Nat.min_eq_left hql]
 have hfl2:((l.drop q).flatMap aP).length=(l.length-q)*12:=by rw [eT (enc:=aP) he12,List.length_drop]
 have hfinq:=hfinq q hql hqlt;conv=>lhs;whnf
 repeat(refine af htop ?_
        conv=>lhs;whnf)
 refine ab (fun hlt3=> ?_) (fun hlt3=> ?_)
 ·have hqo:q<l.length:=by
    have hlt3:(q:Int)<(l.length:Int):=hlt3;omega
  have q0:(0:Int)≤(q:Int)∧(q:Int)<(l.length:Int):=by omega
  have e:=hao (by omega);subst e
  have hra:A1.rd gn 0 (l.length*12)=some (l.flatMap aP):=by
   obtain⟨_,cc,h8,h9,h10⟩:=hz3 (by omega);rw [rd_mk h8 (by omega),List.drop_zero,h10]
  have r1:=cU (fQ (enc:=aP) (fun _=>rfl) hra q hqo rfl) (i:=0) (m:=1) (by omega);have r1:A1.rd gn (0+q*12) 1=some [.string l[q].1.path]:=r1;conv=>lhs;whnf
  repeat(first|refine aq q0 ?_|refine af htop ?_|refine af r1 ?_
         conv=>lhs;whnf)
  refine aQ (fun hb=> ?_) (fun hb=> ?_)<;>(conv=>lhs;whnf)
  ·have hb:ql p l[q].1=true:=hb
   refine(hD _).2 ⟨(q+1:Nat),⟨⟨hqo,fun i hi hik=> ?_⟩,⟨av (by omega),trivial⟩,trivial,rfl⟩,by show l.length-(q+1)<l.length-q;omega,⟨an rfl rfl,an rfl rfl,trivial⟩,⟨an rfl rfl,trivial⟩⟩
   by_cases e2:i=q
   ·subst e2;exact hb
   ·exact hqlt i hi (by omega)
  have hb:ql p l[q].1=false:=hb;have hfin:=hfinq (fun _=>hb);clear hfinq;have hs1:(if q=0 then some []else A1.rd gn (0+bif Nat.beq c 0 then 0 else 0*12) (q*12))=some ((l.take q).flatMap aP):=ju (enc:=aP) he12 hra (by omega) (by cases Nat.beq c 0<;>rfl)
  have hs2:∀A4,A1.Sub A4→(if l.length-q=0 then some []else A4.rd gn (0+bif Nat.beq c q then 0 else q*12) ((l.length-q)*12))=some ((l.drop q).flatMap aP):=fun A4 h4=>oL (enc:=aP) he12 (aJ h4 hra) rfl fun hlt=>by
   rw [wQ (by omega)];show 0+q*12=_
   omega
  repeat(refine af htop ?_
         conv=>lhs;whnf)
  refine cK (lI (k:=q) rfl (show q≤c by omega)) ?_;conv=>lhs;whnf
  refine(hD _).2 ⟨[],(l.take q).flatMap aP,rfl,hs1,hfl1,fun v hv=>hone v (dO (List.take_sublist q l) hv),by show 0+q≤9223372036854775807;omega,(hP0 q 120 (by omega) (by omega)).cap,rfl,fun _=>⟨rfl,rfl⟩,fun _ _ h=>(by cases h),fun v A2 hAp=> ?_⟩;obtain⟨hG2,hk2⟩:=hA0 q _ v A2 hfl1 (fun _ h=>h) hAp;rw [Nat.zero_add,List.nil_append]at hG2;have s2:A1.Sub A2:=fun j o hj=>by rw [hk2 j o hj];exact hj
  obtain⟨b2,c2,hv2,hb2, -⟩:=hG2.ff;subst hv2;conv=>lhs;whnf
  refine(hD _).2 fun gb A3 hNw=> ?_
  have hNx:A2.New A3 gb (aP xn).toArray 63:=by rw [hxn];exact hNw
  have s3:A1.Sub A3:=s2.trans hNx.sub;obtain⟨hP3,hA3⟩:=(hG2.sub hNx.sub).fy;have hP3:=hP3 1 120 (by omega) (by omega);have hrow3:A3.rd gb 0 (1*12)=some (aP xn):=hNx.rd (o:=0) (n:=1*12) (by rw [List.size_toArray,hxl];omega)
  have hd3:∀j,A3.blk j=none→A1.blk j=none:=fun j hj=>by
   cases h9:A1.blk j with
   |none=>rfl
   |some o=>rw [s3 _ _ h9]at hj;cases hj
  refine Or.elim hb2 (fun hb2=> ?_) (fun hb2=> ?_);rotate_left;obtain⟨g2,hb2⟩:=hb2
  all_goals
   subst hb2;conv=>lhs;whnf
   refine(hD _).2 ⟨(l.take q).flatMap aP,aP xn,hP3.rd,?_,rfl,honex,?_,hP3.cap,rfl,hP3.none_,fun g' o' he' hle' _=>hP3.room 12 rfl g' o' he' hle',fun v A4 hAp=> ?_⟩
   ·show(if 1*12=0 then some []else A3.rd gb 0 (1*12))=_
    rw [if_neg (by omega)];exact hrow3
   ·show q+1≤9223372036854775807
    omega
   obtain⟨hG4,hk4⟩:=hA3 1 _ v A4 rfl hd3 hAp;have s4:A1.Sub A4:=fun j o hj=>by rw [hk4 j o hj];exact s3 _ _ hj
   obtain⟨b4,c4,hv4,hb4, -⟩:=hG4.ff;subst hv4;obtain⟨hP4,hA4⟩:=hG4.fy;have hP4:=hP4 (l.length-q) 120 (by omega) (by omega)
   have hd4:∀j,A4.blk j=none→A1.blk j=none:=fun j hj=>by
    cases h9:A1.blk j with
    |none=>rfl
    |some o=>rw [s4 _ _ h9]at hj;cases hj
   have htop4:=aJ s4 htop;conv=>lhs;whnf
   repeat(refine af htop4 ?_
          conv=>lhs;whnf)
   refine cK (iL (k:=q) rfl (show q≤l.length by omega)) ?_;refine Or.elim hb4 (fun hb4=> ?_) (fun hb4=> ?_);rotate_left;obtain⟨g4,hb4⟩:=hb4
   all_goals
    subst hb4;conv=>lhs;whnf
    refine(hD _).2 ⟨(l.take q).flatMap aP++aP xn,(l.drop q).flatMap aP,hP4.rd,hs2 A4 s4,hfl2,fun v hv=>hone v (dO (List.drop_sublist q l) hv),by show(q+1)+(l.length-q)≤9223372036854775807;omega,hP4.cap,rfl,hP4.none_,fun g' o' he' hle' _=>hP4.room _ hfl2 g' o' he' hle',fun v A5 hAp=> ?_⟩;obtain⟨hG5,hk5⟩:=hA4 (l.length-q) _ v A5 hfl2 hd4 hAp;have s5:A1.Sub A5:=fun j o hj=>by rw [hk5 j o hj];exact s4 _ _ hj
    have hG6:bq A1 A5 12 63 (l.take q++xn::l.drop q).length v ((l.take q++xn::l.drop q).flatMap aP):=by
     have e1:(l.take q++xn::l.drop q).length=(q+1)+(l.length-q):=by
      rw [List.length_append,List.length_cons,List.length_take,List.length_drop];omega
     rw [e1,List.flatMap_append,List.flatMap_cons,←List.append_assoc];exact hG5
    obtain⟨b5,c5,hv5, -, -⟩:=hG6.ff;subst hv5;have hT5:aG A5 r [.slice (some ⟨gn,0,none⟩) l.length c,vs']:=h.top.sub fun o ho=>s5 _ _ ho
    conv=>lhs;whnf
    refine(hD _).2 ⟨hT5.room (o:=0) (n:=1) (by show 0+1≤2;omega),fun A6 hP=> ?_⟩;have hP:A5.Put A6 r 0 [.slice (aD b5) (l.take q++xn::l.drop q).length c5]:=hP;have hend:=hfin A5 A6 _ s5 hG6 hP;conv=>lhs;whnf
    exact(hD _).2 hend
 ·have hqe:q=l.length:=by
    have hlt3:¬(q:Int)<(l.length:Int):=hlt3;omega
  have hfin:=hfinq (fun h=>absurd h (Nat.not_lt.2 (Nat.le_of_eq hqe.symm)));clear hfinq;refine Or.elim hcs (fun e=> ?_) (fun e=> ?_)
  ·have hz9:c=0:=hz1 e
   have hl0:l.length=0:=by
    rcases Nat.eq_zero_or_pos l.length with h9|h9
    ·exact h9
    ·rw [hao h9]at e;cases e
   have hzq:q=0:=by omega
   clear hz3 hao hz1;subst e;subst hz9;subst hzq
   have hs1:(if 0=0 then some []else none)=some ((l.take 0).flatMap aP):=by
    rw [if_pos rfl,List.take_zero];rfl
   have hs2:∀A4,A1.Sub A4→(if l.length-0=0 then some []else none)=some ((l.drop 0).flatMap aP):=fun A4 h4=>by
    rw [if_pos (by omega),List.length_eq_zero_iff.1 hl0];rfl
   conv=>lhs;whnf
   repeat(refine af htop ?_
          conv=>lhs;whnf)
   clear hz2;refine(hD _).2 ⟨[],(l.take 0).flatMap aP,rfl,hs1,hfl1,fun v hv=>hone v (dO (List.take_sublist 0 l) hv),by show 0+0≤9223372036854775807;omega,(hP0 0 120 (by omega) (by omega)).cap,rfl,fun _=>⟨rfl,rfl⟩,fun _ _ h=>(by cases h),fun v A2 hAp=> ?_⟩;obtain⟨hG2,hk2⟩:=hA0 0 _ v A2 hfl1 (fun _ h=>h) hAp;rw [Nat.zero_add,List.nil_append]at hG2;have s2:A1.Sub A2:=fun j o hj=>by rw [hk2 j o hj];exact hj
   obtain⟨b2,c2,hv2,hb2, -⟩:=hG2.ff;subst hv2;conv=>lhs;whnf
   refine(hD _).2 fun gb A3 hNw=> ?_
   have hNx:A2.New A3 gb (aP xn).toArray 63:=by rw [hxn];exact hNw
   have s3:A1.Sub A3:=s2.trans hNx.sub;obtain⟨hP3,hA3⟩:=(hG2.sub hNx.sub).fy;have hP3:=hP3 1 120 (by omega) (by omega);have hrow3:A3.rd gb 0 (1*12)=some (aP xn):=hNx.rd (o:=0) (n:=1*12) (by rw [List.size_toArray,hxl];omega)
   have hd3:∀j,A3.blk j=none→A1.blk j=none:=fun j hj=>by
    cases h9:A1.blk j with
    |none=>rfl
    |some o=>rw [s3 _ _ h9]at hj;cases hj
   refine Or.elim hb2 (fun hb2=> ?_) (fun hb2=> ?_);rotate_left;obtain⟨g2,hb2⟩:=hb2
   all_goals
    subst hb2;conv=>lhs;whnf
    refine(hD _).2 ⟨(l.take 0).flatMap aP,aP xn,hP3.rd,?_,rfl,honex,?_,hP3.cap,rfl,hP3.none_,fun g' o' he' hle' _=>hP3.room 12 rfl g' o' he' hle',fun v A4 hAp=> ?_⟩
    ·show(if 1*12=0 then some []else A3.rd gb 0 (1*12))=_
     rw [if_neg (by omega)];exact hrow3
    ·show 0+1≤9223372036854775807
     omega
    obtain⟨hG4,hk4⟩:=hA3 1 _ v A4 rfl hd3 hAp;have s4:A1.Sub A4:=fun j o hj=>by rw [hk4 j o hj];exact s3 _ _ hj
    obtain⟨b4,c4,hv4,hb4, -⟩:=hG4.ff;subst hv4;obtain⟨hP4,hA4⟩:=hG4.fy;have hP4:=hP4 (l.length-0) 120 (by omega) (by omega)
    have hd4:∀j,A4.blk j=none→A1.blk j=none:=fun j hj=>by
     cases h9:A1.blk j with
     |none=>rfl
     |some o=>rw [s4 _ _ h9]at hj;cases hj
    have htop4:=aJ s4 htop;conv=>lhs;whnf
    repeat(refine af htop4 ?_
           conv=>lhs;whnf)
    refine Or.elim hb4 (fun hb4=> ?_) (fun hb4=> ?_);rotate_left;obtain⟨g4,hb4⟩:=hb4
    all_goals
     subst hb4;conv=>lhs;whnf
     refine(hD _).2 ⟨(l.take 0).flatMap aP++aP xn,(l.drop 0).flatMap aP,hP4.rd,hs2 A4 s4,hfl2,fun v hv=>hone v (dO (List.drop_sublist 0 l) hv),by show(0+1)+(l.length-0)≤9223372036854775807;omega,hP4.cap,rfl,hP4.none_,fun g' o' he' hle' _=>hP4.room _ hfl2 g' o' he' hle',fun v A5 hAp=> ?_⟩;obtain⟨hG5,hk5⟩:=hA4 (l.length-0) _ v A5 hfl2 hd4 hAp;have s5:A1.Sub A5:=fun j o hj=>by rw [hk5 j o hj];exact s4 _ _ hj
     have hG6:bq A1 A5 12 63 (l.take 0++xn::l.drop 0).length v ((l.take 0++xn::l.drop 0).flatMap aP):=by
      have e1:(l.take 0++xn::l.drop 0).length=(0+1)+(l.length-0):=by
       rw [List.length_append,List.length_cons,List.length_take,List.length_drop];omega
      rw [e1,List.flatMap_append,List.flatMap_cons,←List.append_assoc];exact hG5
     obtain⟨b5,c5,hv5, -, -⟩:=hG6.ff;subst hv5;have hT5:aG A5 r [.slice none l.length 0,vs']:=h.top.sub fun o ho=>s5 _ _ ho
     conv=>lhs;whnf
     refine(hD _).2 ⟨hT5.room (o:=0) (n:=1) (by show 0+1≤2;omega),fun A6 hP=> ?_⟩;have hP:A5.Put A6 r 0 [.slice (aD b5) (l.take 0++xn::l.drop 0).length c5]:=hP;have hend:=hfin A5 A6 _ s5 hG6 hP;conv=>lhs;whnf
     exact(hD _).2 hend
  ·obtain⟨g9,o9,e⟩:=e
   have hra:0<l.length→g9=gn∧o9=0∧A1.rd gn 0 (l.length*12)=some (l.flatMap aP):=fun hn=>by
    obtain⟨e1,cc,h8,h9,h10⟩:=hz3 hn;rw [e1]at e;injection e with e
    injection e with e2 e3
    exact⟨e2.symm,e3.symm,by rw [rd_mk h8 (by omega),List.drop_zero,h10]⟩
   have hs1:(if q=0 then some []else A1.rd g9 (o9+bif Nat.beq c 0 then 0 else 0*12) (q*12))=some ((l.take q).flatMap aP):=by
    by_cases h0:q=0
    ·rw [if_pos h0,h0,List.take_zero];rfl
    ·obtain⟨e1,e2,e3⟩:=hra (by omega)
     rw [e1,e2];exact ju (enc:=aP) he12 e3 (by omega) (by cases Nat.beq c 0<;>rfl)
   have hs2:∀A4,A1.Sub A4→(if l.length-q=0 then some []else A4.rd g9 (o9+bif Nat.beq c q then 0 else q*12) ((l.length-q)*12))=some ((l.drop q).flatMap aP):=fun A4 h4=>by
    rw [if_pos (by omega),List.drop_eq_nil_of_le (by omega)];rfl
   subst e;conv=>lhs;whnf
   repeat(refine af htop ?_
          conv=>lhs;whnf)
   clear hz1 hz2 hz3 hao hra;refine cK (lI (k:=q) rfl (show q≤c by omega)) ?_;conv=>lhs;whnf
   refine(hD _).2 ⟨[],(l.take q).flatMap aP,rfl,hs1,hfl1,fun v hv=>hone v (dO (List.take_sublist q l) hv),by show 0+q≤9223372036854775807;omega,(hP0 q 120 (by omega) (by omega)).cap,rfl,fun _=>⟨rfl,rfl⟩,fun _ _ h=>(by cases h),fun v A2 hAp=> ?_⟩;obtain⟨hG2,hk2⟩:=hA0 q _ v A2 hfl1 (fun _ h=>h) hAp;rw [Nat.zero_add,List.nil_append]at hG2;have s2:A1.Sub A2:=fun j o hj=>by rw [hk2 j o hj];exact hj
   obtain⟨b2,c2,hv2,hb2, -⟩:=hG2.ff;subst hv2;conv=>lhs;whnf
   refine(hD _).2 fun gb A3 hNw=> ?_
   have hNx:A2.New A3 gb (aP xn).toArray 63:=by rw [hxn];exact hNw
   have s3:A1.Sub A3:=s2.trans hNx.sub;obtain⟨hP3,hA3⟩:=(hG2.sub hNx.sub).fy;have hP3:=hP3 1 120 (by omega) (by omega);have hrow3:A3.rd gb 0 (1*12)=some (aP xn):=hNx.rd (o:=0) (n:=1*12) (by rw [List.size_toArray,hxl];omega)
   have hd3:∀j,A3.blk j=none→A1.blk j=none:=fun j hj=>by
    cases h9:A1.blk j with
    |none=>rfl
    |some o=>rw [s3 _ _ h9]at hj;cases hj
   refine Or.elim hb2 (fun hb2=> ?_) (fun hb2=> ?_);rotate_left;obtain⟨g2,hb2⟩:=hb2
   all_goals
    subst hb2;conv=>lhs;whnf
    refine(hD _).2 ⟨(l.take q).flatMap aP,aP xn,hP3.rd,?_,rfl,honex,?_,hP3.cap,rfl,hP3.none_,fun g' o' he' hle' _=>hP3.room 12 rfl g' o' he' hle',fun v A4 hAp=> ?_⟩
    ·show(if 1*12=0 then some []else A3.rd gb 0 (1*12))=_
     rw [if_neg (by omega)];exact hrow3
    ·show q+1≤9223372036854775807
     omega
    obtain⟨hG4,hk4⟩:=hA3 1 _ v A4 rfl hd3 hAp;have s4:A1.Sub A4:=fun j o hj=>by rw [hk4 j o hj];exact s3 _ _ hj
    obtain⟨b4,c4,hv4,hb4, -⟩:=hG4.ff;subst hv4;obtain⟨hP4,hA4⟩:=hG4.fy;have hP4:=hP4 (l.length-q) 120 (by omega) (by omega)
    have hd4:∀j,A4.blk j=none→A1.blk j=none:=fun j hj=>by
     cases h9:A1.blk j with
     |none=>rfl
     |some o=>rw [s4 _ _ h9]at hj;cases hj
    have htop4:=aJ s4 htop;conv=>lhs;whnf
    repeat(refine af htop4 ?_
           conv=>lhs;whnf)
    refine cK (iL (k:=q) rfl (show q≤l.length by omega)) ?_;refine Or.elim hb4 (fun hb4=> ?_) (fun hb4=> ?_);rotate_left;obtain⟨g4,hb4⟩:=hb4
    all_goals
     subst hb4;conv=>lhs;whnf
     refine(hD _).2 ⟨(l.take q).flatMap aP++aP xn,(l.drop q).flatMap aP,hP4.rd,hs2 A4 s4,hfl2,fun v hv=>hone v (dO (List.drop_sublist q l) hv),by show(q+1)+(l.length-q)≤9223372036854775807;omega,hP4.cap,rfl,hP4.none_,fun g' o' he' hle' _=>hP4.room _ hfl2 g' o' he' hle',fun v A5 hAp=> ?_⟩;obtain⟨hG5,hk5⟩:=hA4 (l.length-q) _ v A5 hfl2 hd4 hAp;have s5:A1.Sub A5:=fun j o hj=>by rw [hk5 j o hj];exact s4 _ _ hj
     have hG6:bq A1 A5 12 63 (l.take q++xn::l.drop q).length v ((l.take q++xn::l.drop q).flatMap aP):=by
      have e1:(l.take q++xn::l.drop q).length=(q+1)+(l.length-q):=by
       rw [List.length_append,List.length_cons,List.length_take,List.length_drop];omega
      rw [e1,List.flatMap_append,List.flatMap_cons,←List.append_assoc];exact hG5
     obtain⟨b5,c5,hv5, -, -⟩:=hG6.ff;subst hv5;have hT5:aG A5 r [.slice (some ⟨g9,o9,none⟩) l.length c,vs']:=h.top.sub fun o ho=>s5 _ _ ho
     conv=>lhs;whnf
     refine(hD _).2 ⟨hT5.room (o:=0) (n:=1) (by show 0+1≤2;omega),fun A6 hP=> ?_⟩;have hP:A5.Put A6 r 0 [.slice (aD b5) (l.take q++xn::l.drop q).length c5]:=hP;have hend:=hfin A5 A6 _ s5 hG6 hP;conv=>lhs;whnf
     exact(hD _).2 hend
end
end Go.Proofs.YtphigpccfbfnoaaGreatDoor
namespace Go.Proofs.YtphigpccfbfnoaaGreatDoor
open Go.Sx Go.RowKit Go.Shelf
noncomputable section
def BK:Go.Shelf.Ren:=⟨fun|156=>189|165=>202|166=>203|169=>204|240=>214|241=>215|276=>221|277=>222|n=>n,fun|31=>43|9=>9|3=>3|4=>4|0=>0|20=>20|72=>288|76=>292|70=>286|37=>26|75=>291|127=>301|164=>306|5=>5|80=>294|n=>n,fun|n=>n⟩
theorem sE:Lays.n156 Tryz.prog BK where
 mixed:=by kernel_rfl
 f156:=Tryz.func189.trans (congrArg some (by kernel_rfl))
 f165:=Tryz.func202.trans (congrArg some (by kernel_rfl))
 f166:=Tryz.func203.trans (congrArg some (by kernel_rfl))
 f169:=Tryz.func204.trans (congrArg some (by kernel_rfl))
 f240:=Tryz.func214.trans (congrArg some (by kernel_rfl))
 f241:=Tryz.func215.trans (congrArg some (by kernel_rfl))
 f276:=Tryz.func221.trans (congrArg some (by kernel_rfl))
 f277:=Tryz.func222.trans (congrArg some (by kernel_rfl))
 t0:=Tryz.underlying0
 a0:=Tryz.isAgg0
 z0:=Tryz.sizeOf0
 v0:=Tryz.zeroValue0
 t3:=Tryz.underlying3
 a3:=Tryz.isAgg3
 z3:=Tryz.sizeOf3
 v3:=Tryz.zeroValue3
 t4:=Tryz.underlying4
 a4:=Tryz.isAgg4
 z4:=Tryz.sizeOf4
 v4:=Tryz.zeroValue4
 t9:=Tryz.underlying9
 a9:=Tryz.isAgg9
 z9:=Tryz.sizeOf9
 v9:=Tryz.zeroValue9
 t20:=Tryz.underlying20
 a20:=Tryz.isAgg20
 z20:=Tryz.sizeOf20
 v20:=Tryz.zeroValue20
 t31:=Tryz.underlying43
 a31:=Tryz.isAgg43
 z31:=Tryz.sizeOf43
 v31:=Tryz.zeroValue43
 t37:=Tryz.underlying26
 a37:=Tryz.isAgg26
 z37:=Tryz.sizeOf26
 v37:=Tryz.zeroValue26
 t70:=Tryz.underlying286
 a70:=Tryz.isAgg286
 z70:=Tryz.sizeOf286
 v70:=Tryz.zeroValue286
 t72:=Tryz.underlying288
 a72:=Tryz.isAgg288
 z72:=Tryz.sizeOf288
 v72:=Tryz.zeroValue288
 t75:=Tryz.underlying291
 a75:=Tryz.isAgg291
 z75:=Tryz.sizeOf291
 v75:=Tryz.zeroValue291
 t76:=Tryz.underlying292
 a76:=Tryz.isAgg292
 z76:=Tryz.sizeOf292
 v76:=Tryz.zeroValue292
 t127:=Tryz.underlying301
 a127:=Tryz.isAgg301
 z127:=Tryz.sizeOf301
 v127:=Tryz.zeroValue301
 t164:=Tryz.underlying306
 a164:=Tryz.isAgg306
 z164:=Tryz.sizeOf306
 v164:=Tryz.zeroValue306
theorem uM:Builder.Extra Tryz.prog BK where
 sizeBuilder:=by kernel_rfl
 liesBuilder:=by kernel_rfl
 t5:=Tryz.underlying5
 a5:=Tryz.isAgg5
 z5:=Tryz.sizeOf5
 v5:=Tryz.zeroValue5
 infoByte:=by kernel_rfl
 cellsByte:=by kernel_rfl
 sizeByte:=by kernel_rfl
 neB5:=by decide
def joinS:aL:=⟨List (List UInt8),fun ls vs A=>∃x,vs= [x,cj [47]]∧Sl A 1 ls.length x (ls.map cj)∧ls.length≤1000∧(Lib.join ls [47]).length≤1000,fun ls _ A v A'=>A'=A∧v=cj (Lib.join ls [47])⟩
theorem mo{A:aa}{w:World}(hA:∀k o,A.blk k=some o→w.heap[k]? =some o){g o n:Nat}{cs:List Value}(h:A.rd g o n=some cs){j:Nat}{v:Value}(hj:cs[j]? =some v):w.cell? ⟨g,o+j,none⟩=some v∧g<w.heap.size:=by
 obtain⟨c,t,fz,hb,hle,rfl⟩:=rd_some h;have hw:=hA _ _ hb
 have hjn:j<n:=by
  have:=(List.getElem?_eq_some_iff.1 hj).1;simp at this;omega
 rw [List.getElem?_take_of_lt hjn,List.getElem?_drop,Array.getElem?_toList]at hj;refine⟨?_,(Array.getElem?_eq_some_iff.1 hw).1⟩;unfold World.cell?;rw [hw];simp only [Option.isSome_none,Bool.false_eq_true,if_false];rw [hj]
theorem join_ok:FOk Tryz.prog 189 joinS:=by
 intro(ls:List (List UInt8)) vs A w hA hp;obtain⟨x,rfl,⟨ao,c,rfl,hc,hl,ha1,ha2,ha3⟩,hN,hlen⟩:∃x,vs= [x,cj [47]]∧Sl A 1 ls.length x (ls.map cj)∧ls.length≤1000∧(Lib.join ls [47]).length≤1000:=hp;refine fx sE.f156 ⟨by kernel_rfl,by kernel_rfl⟩ ?_;have hlt:∀k o,A.blk k=some o→k<w.heap.size:=fun k o hk=>(Array.getElem?_eq_some_iff.1 (hA k o hk)).1
 by_cases h0:ls= []
 ·subst h0
  intro cs;obtain⟨e,w',fr,⟨k1,k2⟩,k3⟩:=Any.strings_Join_none sE uM ao c ⟨#[47]⟩ w cs;subst k2;exact⟨e,w',fr,⟨_,k1,A,⟨rfl,rfl⟩,rfl,rfl,rfl,fun _ _ _=>rfl,hA,fun k o ho=> .inl ⟨o,ho⟩⟩,k3⟩
 ·have hpos:0<ls.length:=by
    cases ls with
    |nil=>exact absurd rfl h0
    |cons y ys=>simp
  obtain⟨g,o,rfl,hr⟩:=Sl.at_ hc ha1 ha2 ha3 hpos
  have hm:(ls.map fun l=>(⟨l.toArray⟩:ByteArray)).map (·.data.toList)=ls:=by
   rw [List.map_map]
   conv=>rhs;rw [←List.map_id ls]
   exact List.map_congr_left fun l _=>by simp
  have hcells:∀(j:Nat) x,(ls.map fun l=>(⟨l.toArray⟩:ByteArray))[j]? =some x→w.cell? ⟨g,o+j,none⟩=some (.string x):=fun j x hx=>by
   refine(mo hA hr (j:=j) (v:= .string x) ?_).1;rw [List.getElem?_map]at hx ⊢
   cases h:ls[j]? with
   |none=>rw [h]at hx;cases hx
   |some l=>
    rw [h]at hx;injection hx with hx
    rw [←hx];rfl
  have hg:g<w.heap.size:=by
   have h1:(ls.map cj)[0]? =some (cj ls[0]):=by rw [List.getElem?_map,List.getElem?_eq_getElem hpos];rfl
   exact(mo hA hr h1).2
  have key:=Any.strings_Join sE uM g o c (ls.map fun l=>(⟨l.toArray⟩:ByteArray)) ⟨#[47]⟩ w hcells hg (by rw [List.length_map];omega) (by rw [List.length_map];exact hc) (by rw [hm];show(Lib.join ls [47]).length≤_;omega);rw [hm,List.length_map]at key;intro cs;obtain⟨e,w',fr,⟨k1,b1,b2,b3,_,b5⟩,k3⟩:=key cs;exact⟨e,w',fr,⟨_,k1,A,⟨rfl,rfl⟩,b1,b3,b2,fun k _ hk=>b5 k hk,fun k o hk=>(b5 k (hlt k o hk)).trans (hA k o hk),fun k o ho=> .inl ⟨o,ho⟩⟩,k3⟩
end
end Go.Proofs.YtphigpccfbfnoaaGreatDoor
namespace Go.Proofs.YtphigpccfbfnoaaGreatDoor
open Go.Sx Go.RowKit
noncomputable section
open Classical
theorem Db{l:List UInt8}{k:Nat}(hk:k<l.length)(h:dS l[k]=false):cE l=false:=by
 have:l.all dS=false:=by
  rw [List.all_eq_false];exact⟨l[k],List.getElem_mem hk,by simp [h]⟩
 unfold cE;rw [this];rfl
def nI:aL:=⟨ByteArray,fun s vs _=>vs= [.string s]∧s.data.toList.length≤140737488351232,fun s _ A v A'=>A'=A∧v= .bool (cE s.data.toList)⟩
theorem zC:FOk Tryz.prog 188 nI:=by
 refine aS mixed fun(s:ByteArray) vs A hp=> ?_
 obtain⟨rfl,hsz⟩:vs= [.string s]∧s.data.toList.length≤140737488351232:=hp;refine⟨noC,da Tryz.prog noC noL 60 [(188,0)],60,aj _,aH mixed (aj _) (ak _) _ _,fun blk os out tape D hD=> ?_⟩;conv=>lhs;whnf
 refine(hD _).2 ⟨cnt A 3 [0] [] s.data.toList.length fun k=>(s.data.toList.take k).all dS=true,⟨(0:Nat),⟨Nat.zero_le _,by simp⟩,⟨rfl,trivial⟩,trivial,rfl⟩,fun(k:Nat) hk=>⟨⟨trivial,trivial⟩,trivial,?_⟩⟩;simp only [cnt]at hk;obtain⟨hkl,hall⟩:=hk;conv=>lhs;whnf
 refine ab (fun hlt=> ?_) (fun hlt=> ?_)<;>(conv=>lhs;whnf)
 ·have hkl2:k<s.data.toList.length:=by
    have hlt:(k:Int)<(s.data.toList.length:Int):=hlt;omega
  have i0:(0:Int)≤(k:Int)∧(k:Int)<(s.data.toList.length:Int):=by omega
  refine aq i0 ?_;conv=>lhs;whnf
  have hg:s.data.toList.getD ((k:Nat):Int).toNat 0=s.data.toList[k]:=by
   rw [Int.toNat_natCast,List.getD_eq_getElem?_getD,List.getElem?_eq_getElem hkl2];rfl
  have hbad:dS s.data.toList[k]=false→nI.post s [.string s] A (.bool false) A:=fun hb=>⟨rfl,by rw [Db hkl2 hb]⟩
  refine ab (fun h1=> ?_) (fun h1=> ?_)<;>(conv=>lhs;whnf)
  ·rw [hg]at h1
   exact(hD _).2 (hbad (by unfold dS;rw [decide_eq_false (by omega)];rfl))
  repeat(refine aq i0 ?_
         conv=>lhs;whnf)
  refine ab (fun h2=> ?_) (fun h2=> ?_)<;>(conv=>lhs;whnf)
  ·rw [hg]at h2
   exact(hD _).2 (hbad (by unfold dS;rw [decide_eq_false (p:=(s.data.toList[k]).toNat≤126) (by omega),Bool.and_false];rfl))
  repeat(refine aq i0 ?_
         conv=>lhs;whnf)
  refine ab (fun h3=> ?_) (fun h3=> ?_)<;>(conv=>lhs;whnf)
  ·rw [hg]at h3
   have e:s.data.toList[k]=47:=UInt8.toNat_inj.1 (Int.ofNat.inj h3);exact(hD _).2 (hbad (by rw [e];rfl))
  rw [hg]at h1 h2 h3
  have hok:dS s.data.toList[k]=true:=by
   have e:s.data.toList[k]≠47:=fun e=>h3 (by rw [e];rfl)
   unfold dS;rw [decide_eq_true (by omega),decide_eq_true (by omega)];simpa using e
  refine(hD _).2 ⟨(k+1:Nat),⟨⟨by omega,?_⟩,⟨av (by omega),trivial⟩,trivial,rfl⟩,by show s.data.toList.length-(k+1)<s.data.toList.length-k;omega,⟨an rfl rfl,trivial⟩,trivial⟩;show(s.data.toList.take (k+1)).all dS=true
  rw [List.take_succ_eq_append_getElem hkl2,List.all_append,hall];simpa using hok
 ·have e:k=s.data.toList.length:=by
    have hlt:¬(k:Int)<(s.data.toList.length:Int):=hlt;omega
  rw [e,List.take_length]at hall;have hend:∀b,b=(!s.data.toList.isEmpty&& !(s.data.toList== [46])&& !(s.data.toList== [46,46]))→nI.post s [.string s] A (.bool b) A:=fun b hb=>⟨rfl,by rw [hb,cE,hall,Bool.true_and]⟩
  refine aQ (fun h1=> ?_) (fun h1=> ?_)<;>(conv=>lhs;whnf)
  rotate_left
  ·have h1:(!eW s.data.toList [])=false:=h1
   have e:s.data.toList= []:=bh.1 (by simpa using h1);exact(hD _).2 (hend false (by rw [e];rfl))
  have h1:(!eW s.data.toList [])=true:=h1
  have e1:s.data.toList.isEmpty=false:=by
   cases h:s.data.toList with
   |nil=>rw [h]at h1;exact absurd h1 (by decide)
   |cons x xs=>rfl
  refine aQ (fun h2=> ?_) (fun h2=> ?_)<;>(conv=>lhs;whnf)
  rotate_left
  ·have h2:(!eW s.data.toList [46])=false:=h2
   have e:s.data.toList= [46]:=bh.1 (by simpa using h2);exact(hD _).2 (hend false (by rw [e];rfl))
  have h2:(!eW s.data.toList [46])=true:=h2;rw [cP]at h2;have hfin:=hend (!eW s.data.toList [46,46]) (by rw [cP,e1,h2];rfl);exact(hD _).2 hfin
end
end Go.Proofs.YtphigpccfbfnoaaGreatDoor
