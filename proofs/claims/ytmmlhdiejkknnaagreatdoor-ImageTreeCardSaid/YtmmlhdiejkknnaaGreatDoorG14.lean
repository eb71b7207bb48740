/-
  Parts of the proof: IgE IhR IeA IeB InA IsA IuX PcA
-/
import Derived.Test.YtmmlhdiejkknnaaGreatDoorG13
import Derived.Test.YtmmlhdiejkknnaaGreatDoorG12
import Derived.Test.YtmmlhdiejkknnaaGreatDoorG11
import Derived.Test.YtmmlhdiejkknnaaGreatDoorG06
set_option maxRecDepth 100000
set_option maxHeartbeats 0
namespace Go.Proofs.YtmmlhdiejkknnaaGreatDoor
open Go.Sx Go.RowKit
noncomputable section
open Classical
theorem br.DX{A1 A A':aa}{es r:Nat}{e:TypeId}{n:Nat}{v:Value}{cs:List Value}(h:br A1 A es e n v cs)(hk:aB A A' r)(hr:A1.blk r≠none):br A1 A' es e n v cs:=by
 obtain⟨h1,h2|⟨g,nc,c,h3,h4,h4',h5,h6,h7,h8⟩⟩:=h
 ·exact⟨h1,.inl h2⟩
 ·exact⟨h1,.inr ⟨g,nc,c,h3,h4,h4',h5,hk g _ h6 fun e=>hr (by rw [←e];exact h5),h7,h8⟩⟩
theorem br.slM{A0 A1 A:aa}{es:Nat}{e:TypeId}{n:Nat}{v:Value}{cs:List Value}(h:br A1 A es e n v cs)(hg:∀g,A1.blk g=none→A0.blk g=none):Sl (A.minus A0) es n v cs:=by
 obtain⟨h1,⟨rfl,rfl⟩|⟨g,nc,c,rfl,h4,h4',h5,h6,h7,rfl⟩⟩:=h
 ·have:cs= []:=List.length_eq_zero_iff.1 (by rw [h1];simp)
  subst this;exact Sl.nil _ _
 ·refine Sl.row h4 (iU ?_ (hg g h5))
  have hle:n*es≤nc*es:=Nat.mul_le_mul_right _ h4;rw [rd_mk h6 (by omega)];rfl
def GetER(l:List UInt8)(A:aa)(v:Value)(A':aa):Prop:=A.Sub A'∧(nS l=none→v= .tuple #[.agg #[.int .i64 0,.slice none 0 0],.int .i64 4])∧
 ∀ver ms,nS l=some (ver,ms)→∃x,v= .tuple #[.agg #[.int .i64 ver,x],.int .i64 0]∧gq (A'.minus A) x ms
def mT:aY:=⟨List UInt8,fun l vs A=>∃x,vs= [x]∧SlB A x l∧l.length≤900000000,fun l _ A v A'=>GetER l A v A'⟩
def BJ(_A0 A1:aa)(r:Nat)(B:aa)(ver:Int)(n:Nat)(st:bt)(sl:List (Nat×SV)):fj:=
 { γ:=Nat×aa×(Option (Nat×Nat)×Nat),G:=fun s=>s.1≤n∧aB A1 s.2.1 r∧RdG aH B s.2.1 r (bP s.1 st).2∧br A1 s.2.1 4 127 s.1 (.slice (cq s.2.2.1) s.1 s.2.2.2) (eB (bP s.1 st).1),
   keepS:= [],keepB:= [0],sl:=fun s=>(16,.v (.int .i64 s.1))::sl,bl:=fun s=> [(1,.cells [.v (.int .i64 ver),.v (.slice (cq s.2.2.1) s.1 s.2.2.2)] 0 (32+1))],ar:=fun s=>s.2.1,mu:=fun s=>n-s.1 }
theorem zQ:aI Tryz.prog (bQ [aM 204 yV,aM 209 jJ,aM 206 ij,aM 119 BG] noC):=aD (aA _) (fun x hx=>by
 simp only [List.mem_cons,List.not_mem_nil,or_false]at hx;rcases hx with rfl|rfl|rfl|rfl
 ·exact au yU
 ·exact au sY
 ·exact au ni
 ·exact au ue)
theorem BI:FOk Tryz.prog 211 mT:=by
 refine bG mixed fun(l:List UInt8) vs A hp=> ?_
 obtain⟨x,rfl,hX,hlen⟩:∃x,vs= [x]∧SlB A x l∧l.length≤900000000:=hp;obtain⟨ax,cx,hxf⟩:=hX.1.form;subst hxf;refine⟨_,ic Tryz.prog _ noL 60 [(211,0)],60,zQ,bg mixed zQ (az _) _ _,fun blk os out tape D hD=> ?_⟩;conv=>lhs;whnf
 refine(hD _).2 ⟨l,⟨_,rfl,hX⟩,fun v A1 hq=> ?_⟩;obtain⟨s1,r,hv,hr,B,hR⟩:A.Sub A1∧∃r,v= .pointer (some ⟨r,0,none⟩)∧A.blk r=none∧∃D,RdG aH D A1 r (some l):=hq;subst hv;conv=>lhs;whnf
 refine(hD _).2 ⟨(⟨r,some l,B⟩:RxG),⟨rfl,hR,hlen⟩,fun v A2 hq=> ?_⟩;obtain⟨hv,k2,hR2⟩:v= .int .i64 (bA (some l)).1∧aB A1 A2 r∧RdG aH B A2 r (bA (some l)).2:=hq;have hl2:bd (bA (some l)).2≤l.length:=qu (some l);have hgE:∀st:bt,st=(bA (some l)).2→nS l=if (bP (ah 7 st).1.toNat (ah 7 st).2).2=some []∧fL (bA (some l)).1 (bP (ah 7 st).1.toNat (ah 7 st).2).1=0 then some ((bA (some l)).1,(bP (ah 7 st).1.toNat (ah 7 st).2).1)else none:=fun st h=>by rw [h];rfl
 have hgE:=hgE _ rfl;generalize (bA (some l)).1=ver at*;generalize (bA (some l)).2=s2 at*;subst hv;conv=>lhs;whnf
 refine(hD _).2 ⟨((⟨r,s2,B⟩,7):RxG×Int),⟨rfl,hR2,by show bd s2≤_;omega,by show(0:Int)≤7;decide,by show(7:Int)≤_;decide⟩,fun v A3 hq=> ?_⟩;obtain⟨hv,k3,hR3⟩:v= .int .i64 (ah 7 s2).1∧aB A2 A3 r∧RdG aH B A3 r (ah 7 s2).2:=hq;have hn7:=ej (s:=s2) (show(0:Int)≤7 by decide);have hl3:=bU 7 s2;obtain⟨n,hn⟩:∃n:Nat,(ah 7 s2).1=n:=⟨(ah 7 s2).1.toNat,by omega⟩;rw [hn]at hv hn7 hgE;rw [Int.toNat_natCast]at hgE;generalize (ah 7 s2).2=s3 at*;subst hv;conv=>lhs;whnf
 have hG0:n≤n∧True:=⟨Nat.le_refl _,trivial⟩;have hK0:aB A3 A3 r:=aB.refl _ _;have hn8:n≤7:=by omega
 refine(hD _).2 ⟨BJ A A3 r B ver n s3 [(15,.v (.int .i64 n)),(5,.ptr 1 0),(4,.v (.pointer (some ⟨r,0,none⟩))),(2,.ptr 0 0)],⟨((0,A3,none,0):Nat×aa×(Option (Nat×Nat)×Nat)),⟨Nat.zero_le _,hK0,hR3,br.nil _ _ _ _⟩,⟨rfl,rfl,rfl,rfl,rfl,trivial⟩,⟨rfl,trivial⟩,rfl⟩,fun(s:Nat×aa×(Option (Nat×Nat)×Nat)) hG=>⟨⟨trivial,trivial,Nat.lt_succ_self 1,trivial,Nat.succ_pos 1,trivial⟩,⟨Nat.lt_succ_self 1,⟨trivial,trivial,trivial⟩,trivial⟩,?_⟩⟩;obtain⟨k,A4,base,c⟩:=s;obtain⟨hk,hK,hR4,hrow⟩:k≤n∧aB A3 A4 r∧RdG aH B A4 r (bP k s3).2∧br A3 A4 4 127 k (.slice (cq base) k c) (eB (bP k s3).1):=hG;have hsl:=oI s3 k;conv=>lhs;whnf
 refine af (fun hlt=> ?_) (fun hlt=> ?_)
 ·have hkn:k<n:=by
    have hlt:(k:Int)<(n:Int):=hlt;omega
  have hnext:bP (k+1) s3=((bP k s3).1++ [(nC (bP k s3).2).1],(nC (bP k s3).2).2):=rfl;generalize (bP k s3).1=ms0 at*;generalize (bP k s3).2=t0 at*;conv=>lhs;whnf
  repeat(first|refine aj hD rfl ?_
         conv=>lhs;whnf)
  refine(hD _).2 ⟨((⟨r,t0,B⟩,7):RxG×Int),⟨rfl,hR4,by show bd t0≤_;omega,by show(0:Int)≤7;decide,by show(7:Int)≤_;decide⟩,fun v A5 hq=> ?_⟩;obtain⟨hv,j5,R5⟩:v= .int .i64 (ah 7 t0).1∧aB A4 A5 r∧RdG aH B A5 r (ah 7 t0).2:=hq;have hin5:=ej (s:=t0) (show(0:Int)≤7 by decide);have hsl5:=bU 7 t0;subst hv;conv=>lhs;whnf
  repeat(first|refine aj hD rfl ?_
         conv=>lhs;whnf)
  refine(hD _).2 ⟨((⟨r,(ah 7 t0).2,B⟩,2):RxG×Int),⟨rfl,R5,by show bd (ah 7 t0).2≤_;omega,by show(0:Int)≤2;decide,by show(2:Int)≤_;decide⟩,fun v A6 hq=> ?_⟩;obtain⟨hv,j6,R6⟩:v= .int .i64 (ah 2 (ah 7 t0).2).1∧aB A5 A6 r∧RdG aH B A6 r (ah 2 (ah 7 t0).2).2:=hq;have hin6:=ej (s:=(ah 7 t0).2) (show(0:Int)≤2 by decide);have hsl6:=bU 2 (ah 7 t0).2;subst hv;conv=>lhs;whnf
  repeat(first|refine aj hD rfl ?_
         conv=>lhs;whnf)
  refine(hD _).2 ⟨((⟨r,(ah 2 (ah 7 t0).2).2,B⟩,1000):RxG×Int),⟨rfl,R6,by show bd (ah 2 (ah 7 t0).2).2≤_;omega,by show(0:Int)≤1000;decide,by show(1000:Int)≤_;decide⟩,fun v A7 hq=> ?_⟩;obtain⟨hv,j7,R7⟩:v= .int .i64 (ah 1000 (ah 2 (ah 7 t0).2).2).1∧aB A6 A7 r∧RdG aH B A7 r (ah 1000 (ah 2 (ah 7 t0).2).2).2:=hq;have hin7:=ej (s:=(ah 2 (ah 7 t0).2).2) (show(0:Int)≤1000 by decide);have hsl7:=bU 1000 (ah 2 (ah 7 t0).2).2;subst hv;conv=>lhs;whnf
  repeat(first|refine aj hD rfl ?_
         conv=>lhs;whnf)
  refine(hD _).2 ⟨((⟨r,(ah 1000 (ah 2 (ah 7 t0).2).2).2,B⟩,7):RxG×Int),⟨rfl,R7,by show bd (ah 1000 (ah 2 (ah 7 t0).2).2).2≤_;omega,by show(0:Int)≤7;decide,by show(7:Int)≤_;decide⟩,fun v A8 hq=> ?_⟩;obtain⟨hv,j8,R8⟩:v= .int .i64 (ah 7 (ah 1000 (ah 2 (ah 7 t0).2).2).2).1∧aB A7 A8 r∧RdG aH B A8 r (ah 7 (ah 1000 (ah 2 (ah 7 t0).2).2).2).2:=hq;have hin8:=ej (s:=(ah 1000 (ah 2 (ah 7 t0).2).2).2) (show(0:Int)≤7 by decide);have hsl8:=bU 7 (ah 1000 (ah 2 (ah 7 t0).2).2).2;subst hv;have hm:nC t0=(⟨(ah 7 t0).1,(ah 2 (ah 7 t0).2).1,(ah 1000 (ah 2 (ah 7 t0).2).2).1,(ah 7 (ah 1000 (ah 2 (ah 7 t0).2).2).2).1⟩,(ah 7 (ah 1000 (ah 2 (ah 7 t0).2).2).2).2):=rfl;rw [hm]at hnext;generalize (ah 7 t0).1=id at*;generalize (ah 2 (ah 7 t0).2).1=role at*;generalize (ah 1000 (ah 2 (ah 7 t0).2).2).1=weight at*;generalize (ah 7 (ah 1000 (ah 2 (ah 7 t0).2).2).2).1=group at*;generalize (ah 7 (ah 1000 (ah 2 (ah 7 t0).2).2).2).2=t8 at*;have hK8:aB A4 A8 r:=j5.trans (j6.trans (j7.trans j8));have hK38:aB A3 A8 r:=hK.trans hK8;obtain⟨or3,hor3⟩:=hR3.jM;have hrow8:=br.DX hrow hK8 (by rw [hor3];simp);have hf:=hrow8.sJ;obtain⟨base',c',hvb,hbase,hP,hA⟩:=hf;injection hvb with e1 e2 e3
  have e1:=fO e1;subst e1;subst e3
  have hrole:IntKind.u8.wrap role=role:=by
   have h:IntKind.u8.wrap role=role%256:=rfl;rw [h];omega
  conv=>lhs;whnf
  repeat(first|refine aj hD rfl ?_
         conv=>lhs;whnf)
  refine(hD _).2 fun ge A9 hN=> ?_
  have hN:A8.New A9 ge #[.int .i64 id,.int .u8 (IntKind.u8.wrap role),.int .i64 weight,.int .i64 group] 127:=hN;rw [hrole]at hN;have hrow9:=hrow8.sub hN.sub;have hf9:=hrow9.sJ;obtain⟨base'',c'',hvb, -,hP,hA⟩:=hf9;injection hvb with e1 e2 e3
  have e1:=fO e1;subst e1;subst e3
  have hPd:=hP 1 32 (by omega) (by omega);have hy9:A9.rd ge 0 (1*4)=some [.int .i64 id,.int .u8 role,.int .i64 weight,.int .i64 group]:=hN.rd (o:=0) (n:=1*4) (by show 0+1*4≤4;omega)
  have hlive9:∀j,A9.blk j=none→A3.blk j=none:=fun j hj=>by
   cases h3:A3.blk j with
   |none=>rfl
   |some o=>
    by_cases e:j=r
    ·obtain⟨o',ho⟩:=R8.jM
     rw [e,hN.sub r o' ho]at hj;cases hj
    ·rw [hN.sub j o (hK38 j o h3 e)]at hj;cases hj
  rcases hbase with rfl|⟨gx,rfl⟩<;>(conv=>lhs;whnf)
  all_goals
   repeat(first|refine aj hD rfl ?_
          conv=>lhs;whnf)
   refine(hD _).2 ⟨_, [.int .i64 id,.int .u8 role,.int .i64 weight,.int .i64 group],hPd.rd,hy9,rfl,fun v hv=>by
    simp only [List.mem_cons,List.not_mem_nil,or_false]at hv
    rcases hv with rfl|rfl|rfl|rfl<;>rfl,?_,hPd.cap,rfl,hPd.none_,fun g' o' he' hle' _=>hPd.room 4 rfl g' o' he' hle',fun v9 A10 hAp=> ?_⟩
   ·show k+1≤9223372036854775807
    omega
   ·have hc9:=hA 1 [.int .i64 id,.int .u8 role,.int .i64 weight,.int .i64 group] v9 A10 rfl hlive9 hAp
    obtain⟨hrow10,hsame⟩:=hc9;have hf10:=hrow10.sJ;obtain⟨b10,c10,hv10, -⟩:=hf10;subst hv10;have hr10:A10.blk r=A9.blk r:=hsame r or3 hor3
    have hB10:B.Sub A10:=fun j o hj=>by
     rw [hsame j o (hR3.jT j o hj)];exact hN.sub j o (R8.jT j o hj)
    have hR10:=(R8.ck hN.sub).other hB10 hr10
    have hK10:aB A3 A10 r:=fun j o hj hjr=>by
     rw [hsame j o hj];exact hN.sub j o (hK38 j o hj hjr)
    have hrow10:br A3 A10 4 127 (k+1) (.slice (cq b10) (k+1) c10) (eB (bP (k+1) s3).1):=by
     rw [hnext];show br A3 A10 4 _ (k+1) _ (eB (ms0++ [⟨id,role,weight,group⟩]))
     have e:eB (ms0++ [⟨id,role,weight,group⟩])=eB ms0++ [.int .i64 id,.int .u8 role,.int .i64 weight,.int .i64 group]:=by
      unfold eB;rw [List.map_append,List.flatten_append];rfl
     rw [e];exact hrow10
    have hR10:RdG aH B A10 r (bP (k+1) s3).2:=by rw [hnext];exact hR10
    conv=>lhs;whnf
    repeat(first|refine aj hD rfl ?_
           conv=>lhs;whnf)
    exact(hD _).2 ⟨((k+1,A10,b10,c10):Nat×aa×(Option (Nat×Nat)×Nat)),⟨⟨hkn,hK10,hR10,hrow10⟩,⟨bf (by omega),rfl,rfl,rfl,rfl,trivial⟩,⟨rfl,trivial⟩,rfl⟩,by show n-(k+1)<n-k;omega,trivial,⟨dr rfl rfl,trivial⟩⟩
 ·have hkn:k=n:=by
    have hlt:¬(k:Int)<(n:Int):=hlt;omega
  subst hkn;have hA04:A.Sub A4:=fun j o hj=>hK j o (k3 j o (k2 j o (s1 j o hj) fun e=>(by rw [e,hr]at hj;cases hj)) fun e=>(by rw [e,hr]at hj;cases hj)) fun e=>(by rw [e,hr]at hj;cases hj)
  have hbadE:nS l=none→mT.post l [] A (.tuple #[.agg #[.int .i64 0,.slice none 0 0],.int .i64 4]) A4:=fun h=>⟨hA04,fun _=>rfl,fun ver ms h2=>(by rw [h]at h2;cases h2)⟩
  have hrowS:=hrow.sl;have hml:(bP k s3).1.length=k:=sq s3 k;have hR40:=hR4;obtain⟨v4,htop,hDs,hDr,hSl4,hnil4⟩:=hR40;have r1:A4.rd r 1 1=some [.bool (aH (bP k s3).2)]:=htop.rd (o:=1) (n:=1) (by show 1+1≤2;omega);have hgood:(bP k s3).2=some []→aH (bP k s3).2=true:=fun h=>by rw [h];rfl
  cases hst:(bP k s3).2 with
  |none=>
   rw [hst]at r1;have hend:=hbadE (by rw [hgE,if_neg (by rw [hst];rintro⟨h,_⟩;cases h)]);conv=>lhs;whnf
   repeat(first|refine ai r1 ?_|refine aj hD rfl ?_
          conv=>lhs;whnf)
   exact(hD _).2 hend
  |some l4=>
   rw [hst]at r1 htop hSl4;have hSl4:Sl B 1 l4.length v4 (l4.map bv):=hSl4;obtain⟨a4,c4,hf4⟩:=hSl4.form;subst hf4;have r1:A4.rd r 1 1=some [.bool true]:=r1;have r0:A4.rd r 0 1=some [.slice a4 l4.length c4]:=htop.rd (o:=0) (n:=1) (by show 0+1≤2;omega);conv=>lhs;whnf
   repeat(first|refine ai r1 ?_|refine ai r0 ?_|refine aj hD rfl ?_
          conv=>lhs;whnf)
   refine dS (fun q0=> ?_) (fun q0=> ?_);rotate_left
   ·have hend:=hbadE (by
      rw [hgE,if_neg]
      rintro⟨h,_⟩
      rw [hst]at h;injection h with h
      rw [h]at q0
      exact q0 rfl)
    conv=>lhs;whnf
    exact(hD _).2 hend
   have hl40:l4= []:=by
    have q0:(l4.length:Int)=0:=q0;exact List.length_eq_zero_iff.1 (by omega)
   subst hl40;have hM:gq A4 (.slice (cq base) k c) (bP k s3).1:=⟨by rw [hml];exact hrowS,by rw [hml];omega⟩
   have hnew:∀g,A3.blk g=none→A.blk g=none:=fun g hg=>by
    cases hA:A.blk g with
    |none=>rfl
    |some o=>
     have hgr:g≠r:=fun e=>by rw [e,hr]at hA;cases hA
     have:=k3 g o (k2 g o (s1 g o hA) hgr) hgr;rw [hg]at this;cases this
   have hMm:gq (A4.minus A) (.slice (cq base) k c) (bP k s3).1:=⟨by rw [hml];exact br.slM hrow hnew,by rw [hml];omega⟩
   have hyes:fL ver (bP k s3).1=0→mT.post l [] A (.tuple #[.agg #[.int .i64 ver,.slice (cq base) k c],.int .i64 0]) A4:=fun h=>by
    have hgE2:nS l=some (ver,(bP k s3).1):=by rw [hgE,if_pos ⟨hst,h⟩]
    refine⟨hA04,fun h2=>(by rw [hgE2]at h2;cases h2),fun ver' ms' h2=> ?_⟩;rw [hgE2]at h2;injection h2 with h2
    injection h2 with e1 e2
    subst e1;subst e2
    exact⟨_,rfl,hMm⟩
   have hno:fL ver (bP k s3).1≠0→mT.post l [] A (.tuple #[.agg #[.int .i64 0,.slice none 0 0],.int .i64 4]) A4:=fun h=>hbadE (by
    rw [hgE,if_neg]
    rintro⟨_,h2⟩
    exact h h2)
   generalize (bP k s3).1=ms at*;conv=>lhs;whnf
   repeat(first|refine aj hD rfl ?_
          conv=>lhs;whnf)
   refine(hD _).2 ⟨((ver,ms):Int×List bC),⟨_,rfl,hM⟩,fun v A5 hq=> ?_⟩;have hq:A5=A4∧v= .int .i64 (fL ver ms):=hq;have h9:=hq.1.symm;have hv:=hq.2;subst h9;subst hv;conv=>lhs;whnf
   refine dS (fun q1=> ?_) (fun q1=> ?_)
   ·have hend:=hyes q1
    conv=>lhs;whnf
    exact(hD _).2 hend
   ·have hend:=hno q1
    conv=>lhs;whnf
    exact(hD _).2 hend
def E3(l:List UInt8)(A:aa)(v:Value)(A':aa):Prop:=A.Sub A'∧
 (ja l=none→v= .tuple #[.slice none 0 0,.slice none 0 0,.agg #[.int .i64 0,.slice none 0 0],.int .i64 0,.int .i64 0,.int .i64 4])∧
 ∀ns ss ver ms f t,ja l=some (ns,ss,ver,ms,f,t)→∃(xs:List (aO×Value)) (x y z:Value),xs.map (·.1)=ns∧v= .tuple #[x,y,.agg #[.int .i64 ver,z],.int .i64 f,.int .i64 t,.int .i64 0]∧eL (A'.minus A) x xs∧SlS (A'.minus A) y ss∧gq (A'.minus A) z ms
def zE:aY:=⟨List UInt8,fun l vs A=>∃x,vs= [x]∧SlB A x l∧l.length≤900000000,fun l _ A v A'=>E3 l A v A'⟩
structure IhG where
 k:Nat
 A:aa
 base:Option (Nat×Nat)
 c:Nat
 g:Option Nat
 xs:List (aO×Value)
def IhG.L(s:IhG):LsD:=⟨.slice (cq s.base) s.k s.c,s.k,s.c,s.g⟩
theorem fk.then{A A' A'':aa}{w:Nat}{L L':LsD}{l:List UInt8}(h1:∀k o,A.blk k=some o→k≠w→L.g≠some k→A'.blk k=some o)(h2:∀g,L'.g=some g→L.g=some g∨A.blk g=none)(h:fk A' w L' l A''):fk A w L l A'':=by
 obtain⟨L9,k1,k2,k3⟩:=h;refine⟨L9,k1,fun k o hk hw hL=>k2 k o (h1 k o hk hw hL) hw fun e=> ?_,fun g hg=> ?_⟩
 ·rcases h2 k e with h|h
  ·exact hL h
  ·rw [h]at hk;cases hk
 ·rcases k3 g hg with h|h
  ·exact h2 g h
  ·cases hA:A.blk g with
   |none=>exact .inr rfl
   |some o=>
    by_cases hw:g=w
    ·subst hw
     exact absurd hg k1.ne
    ·by_cases hL:L.g=some g
     ·exact .inl hL
     ·rw [h1 g o hA hw hL]at h;cases h
def yX:aY:=⟨BbG,fun g vs A=>vs= [.pointer (some ⟨g.w,0,none⟩),.int .u8 g.b.toNat]∧BfR A g.w g.L g.l∧g.l.length≤890000000,fun g _ A v A'=>v= .tuple #[]∧fk A g.w g.L (g.l++ [g.b]) A'⟩
theorem Ab:FOk Tryz.prog 65 yX:=by
 refine bG mixed fun⟨w,L,l,b⟩ vs A hp=> ?_
 obtain⟨rfl,hW,hlen⟩:vs= [.pointer (some ⟨w,0,none⟩),.int .u8 b.toNat]∧BfR A w L l∧l.length≤890000000:=hp
 have hC:aI Tryz.prog (bQ [aM 125 lp] noC):=aD (aA _) (fun x hx=>by
  simp only [List.mem_singleton]at hx;subst hx
  exact au sR)
 refine⟨_,noL,60,hC,az _,fun blk os out tape D hD=> ?_⟩;conv=>lhs;whnf
 repeat(first|refine aj hD rfl ?_
        conv=>lhs;whnf)
 refine(hD _).2 ⟨(⟨w,L,l,b⟩:BbG),⟨rfl,hW,hlen⟩,fun v A1 hq=> ?_⟩;obtain⟨hv,hq⟩:v= .nilIface∧fk A w L (l++ [b]) A1:=hq;subst hv;have hend:yX.post ⟨w,L,l,b⟩ [] A (.tuple #[]) A1:=⟨rfl,hq⟩;conv=>lhs;whnf
 repeat(first|refine aj hD rfl ?_
        conv=>lhs;whnf)
 exact(hD _).2 hend
structure WiG where
 w:Nat
 L:LsD
 l:List UInt8
 n:Int
structure WiS where
 A:aa
 L:LsD
 l:List UInt8
 u:Nat
 f:Nat
def Cn(A0:aa)(w:Nat)(L0:LsD)(T:List UInt8):fj:=
 { γ:=WiS,G:=fun s=>BfR s.A w s.L s.l∧VI T s.l s.u s.f∧(∀k o,A0.blk k=some o→k≠w→L0.g≠some k→s.A.blk k=some o)∧∀g,s.L.g=some g→L0.g=some g∨A0.blk g=none,
   keepS:= [0],keepB:= [],sl:=fun s=> [(4,.v (.int .u64 s.u))],bl:=fun _=> [],ar:=fun s=>s.A,mu:=fun s=>s.u }
def ta:aY:=⟨WiG,fun g vs A=>vs= [.pointer (some ⟨g.w,0,none⟩),.int .i64 g.n]∧BfR A g.w g.L g.l∧g.l.length≤880000000∧ -9223372036854775808≤g.n∧g.n≤9223372036854775807,fun g _ A v A'=>v= .tuple #[]∧fk A g.w g.L (g.l++ab g.n) A'⟩
theorem pG:FOk Tryz.prog 66 ta:=by
 refine bG mixed fun⟨w,L,l,n⟩ vs A hp=> ?_
 obtain⟨rfl,hW,hlen,hn1,hn2⟩:vs= [.pointer (some ⟨w,0,none⟩),.int .i64 n]∧BfR A w L l∧l.length≤880000000∧ -9223372036854775808≤n∧n≤9223372036854775807:=hp
 have hC:aI Tryz.prog (bQ [aM 125 lp] noC):=aD (aA _) (fun x hx=>by
  simp only [List.mem_singleton]at hx;subst hx
  exact au sR)
 refine⟨_,ic Tryz.prog _ noL 60 [(66,0)],60,hC,bg mixed hC (az _) _ _,fun blk os out tape D hD=> ?_⟩;have hz:=Ch hn1 hn2;conv=>lhs;whnf
 repeat(first|refine aj hD rfl ?_
        conv=>lhs;whnf)
 have hG0:(Cn A w L (l++ab n)).G ⟨A,L,l,zig n,9⟩:=⟨hW,VI.start hn1 hn2 l,fun _ _ h _ _=>h,fun _ h=> .inl h⟩;refine(hD _).2 ⟨Cn A w L (l++ab n),⟨(⟨A,L,l,zig n,9⟩:WiS),hG0,⟨congrArg (fun x:Int=>some (SV.v (.int .u64 x))) hz,trivial⟩,trivial,rfl⟩,fun(s:WiS) hG=>⟨⟨trivial,trivial⟩,trivial,?_⟩⟩;clear hG0 hz;obtain⟨A1,L1,l1,u,f⟩:=s;obtain⟨hW1,hV,hk1,hg1⟩:BfR A1 w L1 l1∧VI (l++ab n) l1 u f∧(∀k o,A.blk k=some o→k≠w→L.g≠some k→A1.blk k=some o)∧∀g,L1.g=some g→L.g=some g∨A.blk g=none:=hG
 have hTl:(l++ab n).length≤880000010:=by
  have:=fR 9 (zig n);rw [List.length_append];show l.length+(nj 9 (zig n)).length≤_
  omega
 have hll:=hV.len;conv=>lhs;whnf
 repeat(first|refine aj hD rfl ?_
        conv=>lhs;whnf)
 refine af (fun h=> ?_) (fun h=> ?_)
 ·have h:(127:Int)<(u:Int):=h
  have hu:128≤u:=by omega
  have hb:bitsOf .or .u8 (IntKind.u8.wrap (u:Int)) 128=(((UInt8.ofNat (u%128+128)).toNat:Nat):Int):=by
   rw [pb,or_128,UInt8.toNat_ofNat_of_lt' (by omega:u%128+128<256)]
  have hvs: [Value.pointer (some ⟨w,0,none⟩),.int .u8 (bitsOf .or .u8 (IntKind.u8.wrap (u:Int)) 128)]= [.pointer (some ⟨w,0,none⟩),.int .u8 (UInt8.ofNat (u%128+128)).toNat]:=by rw [hb]
  conv=>lhs;whnf
  repeat(first|refine aj hD rfl ?_
         conv=>lhs;whnf)
  refine(hD _).2 ⟨(⟨w,L1,l1,UInt8.ofNat (u%128+128)⟩:BbG),⟨hvs,hW1,by show l1.length≤890000000;omega⟩,fun v A2 hq=> ?_⟩;obtain⟨hv,L2,hW2,hk2,hg2⟩:v= .nilIface∧fk A1 w L1 (l1++ [UInt8.ofNat (u%128+128)]) A2:=hq;subst hv;have hnx:=hV.next hu;obtain⟨f',hV2⟩:=hnx;have hk3:∀k o,A.blk k=some o→k≠w→L.g≠some k→A2.blk k=some o:=fun k o hk hw hL=>hk2 k o (hk1 k o hk hw hL) hw fun e=>(hg1 k e).elim hL fun h9=>(by rw [h9]at hk;cases hk)
  have hg3:∀g,L2.g=some g→L.g=some g∨A.blk g=none:=fun g hg=>by
   rcases hg2 g hg with h9|h9
   ·exact hg1 g h9
   ·cases hA:A.blk g with
    |none=>exact .inr rfl
    |some o=>
     by_cases hw:g=w
     ·subst hw
      exact absurd hg hW2.ne
     ·by_cases hL:L.g=some g
      ·exact .inl hL
      ·rw [hk1 g o hA hw hL]at h9;cases h9
  have hG2:(Cn A w L (l++ab n)).G ⟨A2,L2,l1++ [UInt8.ofNat (u%128+128)],u/128,f'⟩:=⟨hW2,hV2,hk3,hg3⟩;conv=>lhs;whnf
  repeat(first|refine aj hD rfl ?_
         conv=>lhs;whnf)
  refine(hD _).2 ⟨(⟨A2,L2,l1++ [UInt8.ofNat (u%128+128)],u/128,f'⟩:WiS),⟨hG2,⟨congrArg (fun x:Int=>some (SV.v (.int .u64 x))) (shr_7 u),trivial⟩,trivial,rfl⟩,by show u/128<u;omega,⟨dr rfl rfl,trivial⟩,trivial⟩
 ·have h:¬(127:Int)<(u:Int):=h
  have hu:u<128:=by omega
  have hb:IntKind.u8.wrap (u:Int)=(((UInt8.ofNat u).toNat:Nat):Int):=by
   rw [pb,UInt8.toNat_ofNat_of_lt' (by omega:u<256)];omega
  have hvs: [Value.pointer (some ⟨w,0,none⟩),.int .u8 (IntKind.u8.wrap (u:Int))]= [.pointer (some ⟨w,0,none⟩),.int .u8 (UInt8.ofNat u).toNat]:=by rw [hb]
  conv=>lhs;whnf
  repeat(first|refine aj hD rfl ?_
         conv=>lhs;whnf)
  refine(hD _).2 ⟨(⟨w,L1,l1,UInt8.ofNat u⟩:BbG),⟨hvs,hW1,by show l1.length≤890000000;omega⟩,fun v A2 hq=> ?_⟩;obtain⟨hv,hto⟩:v= .nilIface∧fk A1 w L1 (l1++ [UInt8.ofNat u]) A2:=hq;subst hv;rw [hV.last hu]at hto;have hend:ta.post ⟨w,L,l,n⟩ [] A (.tuple #[]) A2:=⟨rfl,fk.then hk1 hg1 hto⟩;conv=>lhs;whnf
  repeat(first|refine aj hD rfl ?_
         conv=>lhs;whnf)
  exact(hD _).2 hend
theorem rN(n:Int):(ab n).length≤10:=fR 9 (zig n)
def yW:aY:=⟨BsG,fun g vs A=>vs= [.pointer (some ⟨g.w,0,none⟩),.string ⟨g.s.toArray⟩]∧BfR A g.w g.L g.l∧g.l.length+g.s.length≤880000000,fun g _ A v A'=>v= .tuple #[]∧fk A g.w g.L (g.l++ab g.s.length++g.s) A'⟩
theorem Aa:FOk Tryz.prog 67 yW:=by
 refine bG mixed fun⟨w,L,l,s⟩ vs A hp=> ?_
 obtain⟨rfl,hW,hlen⟩:vs= [.pointer (some ⟨w,0,none⟩),.string ⟨s.toArray⟩]∧BfR A w L l∧l.length+s.length≤880000000:=hp
 have hC:aI Tryz.prog (bQ [aM 66 ta,aM 126 lZ] noC):=aD (aA _) (fun x hx=>by
  simp only [List.mem_cons,List.not_mem_nil,or_false]at hx;rcases hx with rfl|rfl
  ·exact au pG
  ·exact au EN)
 refine⟨_,noL,60,hC,az _,fun blk os out tape D hD=> ?_⟩;have hvl:=rN s.length;conv=>lhs;whnf
 repeat(first|refine aj hD rfl ?_
        conv=>lhs;whnf)
 refine(hD _).2 ⟨(⟨w,L,l,(s.length:Int)⟩:WiG),⟨rfl,hW,by show l.length≤880000000;omega,by show-9223372036854775808≤(s.length:Int);omega,by show(s.length:Int)≤9223372036854775807;omega⟩,fun v A1 hq=> ?_⟩;obtain⟨hv,L1,hW1,hk1,hg1⟩:v= .tuple #[]∧fk A w L (l++ab s.length) A1:=hq;subst hv;conv=>lhs;whnf
 repeat(first|refine aj hD rfl ?_
        conv=>lhs;whnf)
 refine(hD _).2 ⟨(⟨w,L1,l++ab s.length,s⟩:BsG),⟨rfl,hW1,by show(l++ab s.length).length+s.length≤890000000;rw [List.length_append];omega⟩,fun v A2 hq=> ?_⟩;obtain⟨hv,hto⟩:v= .tuple #[.int .i64 s.length,.nilIface]∧fk A1 w L1 (l++ab s.length++s) A2:=hq;subst hv;have hend:yW.post ⟨w,L,l,s⟩ [] A (.tuple #[]) A2:=⟨rfl,fk.then hk1 hg1 hto⟩;conv=>lhs;whnf
 repeat(first|refine aj hD rfl ?_
        conv=>lhs;whnf)
 exact(hD _).2 hend
def uC:aY:=⟨BwG,fun g vs A=>∃x,vs= [.pointer (some ⟨g.w,0,none⟩),x]∧BfR A g.w g.L g.l∧g.l.length+g.s.length≤880000000∧Sl g.C 1 g.s.length x (g.s.map bv)∧∀k o,g.C.blk k=some o→A.blk k=some o∧k≠g.w∧g.L.g≠some k,fun g _ A v A'=>v= .tuple #[]∧fk A g.w g.L (g.l++ab g.s.length++g.s) A'⟩
theorem wT:FOk Tryz.prog 68 uC:=by
 refine bG mixed fun⟨w,L,l,s,C⟩ vs A hp=> ?_
 obtain⟨x,rfl,hW,hlen,hX,hCA⟩:∃x,vs= [.pointer (some ⟨w,0,none⟩),x]∧BfR A w L l∧l.length+s.length≤880000000∧Sl C 1 s.length x (s.map bv)∧∀k o,C.blk k=some o→A.blk k=some o∧k≠w∧L.g≠some k:=hp;have hX0:=hX;obtain⟨ao,cx,rfl, -⟩:=hX0
 have hC:aI Tryz.prog (bQ [aM 66 ta,aM 127 rj] noC):=aD (aA _) (fun x hx=>by
  simp only [List.mem_cons,List.not_mem_nil,or_false]at hx;rcases hx with rfl|rfl
  ·exact au pG
  ·exact au bfWr_ok)
 refine⟨_,noL,60,hC,az _,fun blk os out tape D hD=> ?_⟩;have hvl:=rN s.length;conv=>lhs;whnf
 repeat(first|refine aj hD rfl ?_
        conv=>lhs;whnf)
 refine(hD _).2 ⟨(⟨w,L,l,(s.length:Int)⟩:WiG),⟨rfl,hW,by show l.length≤880000000;omega,by show-9223372036854775808≤(s.length:Int);omega,by show(s.length:Int)≤9223372036854775807;omega⟩,fun v A1 hq=> ?_⟩;obtain⟨hv,L1,hW1,hk1,hg1⟩:v= .tuple #[]∧fk A w L (l++ab s.length) A1:=hq;subst hv
 have hC1:∀k o,C.blk k=some o→A1.blk k=some o∧k≠w∧L1.g≠some k:=fun k o hk=>by
  obtain⟨h1,h2,h3⟩:=hCA k o hk;refine⟨hk1 k o h1 h2 h3,h2,fun e=> ?_⟩;rcases hg1 k e with h|h
  ·exact h3 h
  ·rw [h]at h1;cases h1
 conv=>lhs;whnf
 repeat(first|refine aj hD rfl ?_
        conv=>lhs;whnf)
 refine(hD _).2 ⟨(⟨w,L1,l++ab s.length,s,C⟩:BwG),⟨_,rfl,hW1,by show(l++ab s.length).length+s.length≤890000000;rw [List.length_append];omega,hX,hC1⟩,fun v A2 hq=> ?_⟩;obtain⟨hv,hto⟩:v= .tuple #[.int .i64 s.length,.nilIface]∧fk A1 w L1 (l++ab s.length++s) A2:=hq;subst hv;have hend:uC.post ⟨w,L,l,s,C⟩ [] A (.tuple #[]) A2:=⟨rfl,fk.then hk1 hg1 hto⟩;conv=>lhs;whnf
 repeat(first|refine aj hD rfl ?_
        conv=>lhs;whnf)
 exact(hD _).2 hend
theorem mP{P:Program}{f:FuncId}{S S':aY}(h:FOk P f S)(hw:∀g' vs A,S'.pre g' vs A→∃g,S.pre g vs A∧∀v A',S.post g vs A v A'→S'.post g' vs A v A'):FOk P f S':=by
 intro g' vs A w hA hp;obtain⟨g,h1,h2⟩:=hw g' vs A hp;exact(h g vs A w hA h1).mono (fun v w' ⟨A',k1,k2⟩=>⟨A',h2 v A' k1,k2⟩) fun _ _ h=>h
def BfN(A0 A:aa)(w:Nat)(l:List UInt8):Prop:=A0.Sub A∧A0.blk w=none∧∃L,BfR A w L l∧∀g,L.g=some g→A0.blk g=none
theorem BfN.to{A0 A A':aa}{w:Nat}{L:LsD}{l':List UInt8}(hs:A0.Sub A)(hw:A0.blk w=none)(hg:∀g,L.g=some g→A0.blk g=none)(h:fk A w L l' A'):BfN A0 A' w l':=by
 obtain⟨L',h1,h2,h3⟩:=h;refine⟨fun k o hk=>h2 k o (hs k o hk) (fun e=>(by rw [e,hw]at hk;cases hk)) fun e=>(by rw [hg k e]at hk;cases hk),hw,L',h1,fun g hg'=> ?_⟩;rcases h3 g hg' with h|h
 ·exact hg g h
 ·cases hA:A0.blk g with
  |none=>rfl
  |some o=>rw [hs g o hA]at h;cases h
theorem BfN.grow{A0 A A':aa}{w:Nat}{l:List UInt8}(h:BfN A0 A w l)(hs:A.Sub A'):BfN A0 A' w l:=by
 obtain⟨h1,h2,L,⟨⟨lr,k1⟩,k2,k3,k4,k5⟩,h4⟩:=h;exact⟨fun k o hk=>hs k o (h1 k o hk),h2,L,⟨⟨lr,k1.sub fun o ho=>hs w o ho⟩,k2.ck fun g o _ ho=>hs g o ho,k3,k4,k5⟩,h4⟩
theorem BfN.new{A0 A A':aa}{w:Nat}{c:Array Value}{t:TypeId}(h0:A0.Sub A)(h:A.New A' w c t)(hc:c.toList= [.slice none 0 0,.int .i64 0,.int .i8 0]):BfN A0 A' w []:=by
 refine⟨fun k o hk=>h.sub k o (h0 k o hk),?_,⟨.slice none 0 0,0,0,none⟩,⟨⟨0,c,t,(0,0),h.at_,.inl rfl,hc⟩,.inl ⟨rfl,rfl,rfl,rfl,none,rfl⟩,fun e=>(by cases e),fun _=>rfl,by decide⟩,fun g e=>(by cases e)⟩
 cases hA:A0.blk w with
 |none=>rfl
 |some o=>have:=h0 w o hA;rw [h.none_]at this;cases this
structure NwG where
 A0:aa
 w:Nat
 l:List UInt8
def DA:aY:=⟨NwG×UInt8,fun g vs A=>vs= [.pointer (some ⟨g.1.w,0,none⟩),.int .u8 g.2.toNat]∧BfN g.1.A0 A g.1.w g.1.l∧g.1.l.length≤880000000,fun g _ _ v A'=>v= .tuple #[]∧BfN g.1.A0 A' g.1.w (g.1.l++ [g.2])⟩
theorem Dz:FOk Tryz.prog 65 DA:=mP Ab fun⟨⟨_,w,l⟩,b⟩ _ _ ⟨h1,⟨h2,h3,L,h4,h5⟩,h6⟩=>
 ⟨⟨w,L,l,b⟩,⟨h1,h4,by have h6:l.length≤880000000:=h6;show l.length≤890000000;omega⟩,fun _ _ ⟨k1,k2⟩=>⟨k1,BfN.to h2 h3 h5 k2⟩⟩
def Dy:aY:=⟨NwG×Int,fun g vs A=>vs= [.pointer (some ⟨g.1.w,0,none⟩),.int .i64 g.2]∧BfN g.1.A0 A g.1.w g.1.l∧g.1.l.length≤880000000∧ -9223372036854775808≤g.2∧g.2≤9223372036854775807,fun g _ _ v A'=>v= .tuple #[]∧BfN g.1.A0 A' g.1.w (g.1.l++ab g.2)⟩
theorem zo:FOk Tryz.prog 66 Dy:=mP pG fun⟨⟨_,w,l⟩,n⟩ _ _ ⟨h1,⟨h2,h3,L,h4,h5⟩,h6⟩=>
 ⟨⟨w,L,l,n⟩,⟨h1,h4,h6⟩,fun _ _ ⟨k1,k2⟩=>⟨k1,BfN.to h2 h3 h5 k2⟩⟩
def Dx:aY:=⟨NwG×List UInt8,fun g vs A=>vs= [.pointer (some ⟨g.1.w,0,none⟩),.string ⟨g.2.toArray⟩]∧BfN g.1.A0 A g.1.w g.1.l∧g.1.l.length+g.2.length≤880000000,fun g _ _ v A'=>v= .tuple #[]∧BfN g.1.A0 A' g.1.w (g.1.l++ab g.2.length++g.2)⟩
theorem Dw:FOk Tryz.prog 67 Dx:=mP Aa fun⟨⟨_,w,l⟩,s⟩ _ _ ⟨h1,⟨h2,h3,L,h4,h5⟩,h6⟩=>
 ⟨⟨w,L,l,s⟩,⟨h1,h4,h6⟩,fun _ _ ⟨k1,k2⟩=>⟨k1,BfN.to h2 h3 h5 k2⟩⟩
def xX:aY:=⟨NwG,fun g vs A=>vs= [.pointer (some ⟨g.w,0,none⟩)]∧BfN g.A0 A g.w g.l∧g.l.length≤890000000,fun g _ A v A'=>A.Sub A'∧SlB (A'.minus A) v g.l⟩
theorem vx:FOk Tryz.prog 72 xX:=by
 refine bG mixed fun⟨A0,w,l⟩ vs A hp=> ?_
 obtain⟨rfl,⟨h1,h2,L,hW,h5⟩,hlen⟩:vs= [.pointer (some ⟨w,0,none⟩)]∧BfN A0 A w l∧l.length≤890000000:=hp
 have hC:aI Tryz.prog (bQ [aM 76 cX] noC):=aD (aA _) (fun x hx=>by
  simp only [List.mem_singleton]at hx;subst hx
  exact au df)
 refine⟨_,noL,60,hC,az _,fun blk os out tape D hD=> ?_⟩;obtain⟨lr,htop⟩:=hW.top;have hL:=hW.len;have hrow:=hW.row;rcases hrow with⟨k1,k2,k3,k4, -⟩|⟨g,k1,k2,k3,k5⟩
 ·have hv:=hW.nil k1
  rw [hv]at htop;have r1:A.rd w 0 1=some [.slice none 0 0]:=htop.rd (o:=0) (n:=1) (by show 0+1≤3;omega);have r2:A.rd w 1 1=some [.int .i64 0]:=htop.rd (o:=1) (n:=1) (by show 1+1≤3;omega);have hl0:l= []:=List.length_eq_zero_iff.1 (by omega)
  have hS:SlB A (.slice none 0 0) l:=by
   rw [hl0];exact⟨Sl.nil _ _,by decide⟩
  conv=>lhs;whnf
  repeat(first|refine ai r1 ?_|refine ai r2 ?_|refine aj hD rfl ?_
         conv=>lhs;whnf)
  refine(hD _).2 ⟨l,⟨_,rfl,hS⟩,fun v A' hq=> ?_⟩;conv=>lhs;whnf
  repeat(first|refine aj hD rfl ?_
         conv=>lhs;whnf)
  exact(hD _).2 hq
 ·rw [k2]at htop
  have r1:A.rd w 0 1=some [.slice (some ⟨g,0,none⟩) L.n L.c]:=htop.rd (o:=0) (n:=1) (by show 0+1≤3;omega);have r2:A.rd w 1 1=some [.int .i64 0]:=htop.rd (o:=1) (n:=1) (by show 1+1≤3;omega)
  have hS:SlB A (.slice (some ⟨g,0,none⟩) L.n L.c) l:=⟨by
   have h9:Sl A 1 L.n (.slice (some ⟨g,0,none⟩) L.n L.c) (l.map bv):=Sl.row k5.le k5.rd;rw [hL]at h9 ⊢
   exact h9,by omega⟩
  have e5:Value.slice (some ⟨g,0+(bif L.c.beq (Int.toNat 0)then 0 else Int.toNat 0*1),none⟩) ((L.n:Int).toNat-Int.toNat 0) (L.c-Int.toNat 0)= .slice (some ⟨g,0,none⟩) L.n L.c:=by
   have e5:(bif L.c.beq (Int.toNat 0)then 0 else Int.toNat 0*1)=0:=by cases L.c.beq (Int.toNat 0)<;>rfl
   rw [e5];rfl
  have hS2:SlB A (Value.slice (some ⟨g,0+(bif L.c.beq (Int.toNat 0)then 0 else Int.toNat 0*1),none⟩) ((L.n:Int).toNat-Int.toNat 0) (L.c-Int.toNat 0)) l:=by rw [e5];exact hS
  conv=>lhs;whnf
  repeat(first|refine ai r1 ?_|refine ai r2 ?_|refine aj hD rfl ?_
         conv=>lhs;whnf)
  refine(hD _).2 ⟨l,⟨_,rfl,hS2⟩,fun v A' hq=> ?_⟩;conv=>lhs;whnf
  repeat(first|refine aj hD rfl ?_
         conv=>lhs;whnf)
  exact(hD _).2 hq
def alTab:TypeId→Bool:=fun t=>Nat.beq t 266
def Ai(i:Nat):Value:= .int .u32 (dn (lV (BitVec.ofNat 32 i)))
def jl(k:Nat):List Value:=(List.range k).map Ai++List.replicate (16-k) (.int .u32 0)
theorem mi{k:Nat}(h:k≤16):(jl k).length=16:=by
 unfold jl;rw [List.length_append,List.length_map,List.length_range,List.length_replicate];omega
theorem Cu{k:Nat}(_h:k<16):(jl k).take k++ [Ai k]++(jl k).drop (k+1)=jl (k+1):=by
 unfold jl;have hl:((List.range k).map Ai).length=k:=by rw [List.length_map,List.length_range]
 rw [List.take_left' hl,List.drop_append,List.drop_eq_nil_of_le (by omega),List.nil_append,hl,show k+1-k=1 by omega,List.drop_replicate,List.range_succ,List.map_append];rfl
theorem tabL_at{i:Nat}(h:i<16):((jl 16).drop i).take 1= [Ai i]:=by
 have hl:(jl 16).length=16:=mi (Nat.le_refl _);rw [List.drop_eq_getElem_cons (by omega)]
 have:(jl 16)[i]'(by omega)=Ai i:=by
  unfold jl;rw [List.getElem_append_left (by rw [List.length_map,List.length_range];exact h),List.getElem_map,List.getElem_range]
 simp [this]
def w7(A0:aa)(g:Nat):fj:=
 { γ:=Nat×aa,G:=fun s=>s.1≤16∧A0.Sub s.2∧aE s.2 g (jl s.1),
   keepS:= [0,3],keepB:= [],sl:=fun s=> [(9,.v (.int .i64 s.1))],bl:=fun _=> [],ar:=fun s=>s.2,mu:=fun s=>16-s.1 }
def xb(A1:aa)(l:List UInt8):fj:=
 { γ:=Nat,G:=fun k=>k≤l.length,
   keepS:= [3,27,28],keepB:= [],sl:=fun k=> [(29,.v (.int .i64 k)),(6,.v (.int .u32 (dn (iA (l.take k) (BitVec.allOnes 32)))))],bl:=fun _=> [],ar:=fun _=>A1,mu:=fun k=>l.length-k }
theorem vw{A:aa}{g:Nat}(hT:aE A g (jl 16)){X:Int}{d:BitVec 32}(hX:X=dn d):
  bitsOf .and .u32 X 15<((16:Nat):Int)∧A.rd g (0+(bitsOf .and .u32 X 15).toNat*1) 1=some [.int .u32 (dn (lV (BitVec.ofNat 32 (d&&&15#32).toNat)))]∧
  bitsOf .xor .u32 (X.fdiv (2^(min (4:Int).toNat IntKind.u32.bits))) (dn (lV (BitVec.ofNat 32 (d&&&15#32).toNat)))=dn (lW d):=by
 subst hX
 have h15:bitsOf .and .u32 (dn d) 15=(((d&&&15#32).toNat:Nat):Int):=by
  rw [show(15:Int)=dn 15#32 by decide+kernel,and_u32];rfl
 have hlt:=low_lt d;refine⟨by rw [h15];omega,?_,nib_u32 d⟩;rw [h15,Int.toNat_natCast,Nat.mul_one,Nat.zero_add,hT.rd (o:=(d&&&15#32).toNat) (n:=1) (by rw [mi (Nat.le_refl _)];omega),tabL_at hlt];rfl
def sumS:aY:=⟨List UInt8,fun l vs A=>∃x,vs= [x]∧SlB A x l,fun l _ A v A'=>A.Sub A'∧v= .int .u32 (dn (fM l))⟩
theorem Cw:FOk Tryz.prog 129 sumS:=by
 refine oO mixed alTab fun(l:List UInt8) vs A hp=> ?_
 obtain⟨x,rfl,hX⟩:∃x,vs= [x]∧SlB A x l:=hp;obtain⟨⟨ao,c,rfl,hc, -,ha1,ha2,ha3⟩,hxl⟩:=hX;refine⟨_,ic Tryz.prog _ noL 60 [(129,0),(129,4)],60,aA _,bg mixed (aA _) (az _) _ _,fun blk os out tape D hD=> ?_⟩;conv=>lhs;whnf
 refine(hD _).2 fun g A1 hN=> ?_
 have hN:A.New A1 g (List.replicate 16 (Value.int .u32 0)).toArray 266:=hN;have hgA:A.blk g=none:=hN.none_;have hT0:aE A1 g (jl 0):=⟨_,_,_,hN.at_,.inl rfl,rfl⟩;conv=>lhs;whnf
 have hG0:(w7 A g).G (0,A1):=⟨Nat.zero_le _,hN.sub,hT0⟩;refine(hD _).2 ⟨w7 A g,⟨((0,A1):Nat×aa),hG0,⟨rfl,trivial⟩,trivial,rfl⟩,fun(s:Nat×aa) hG=>⟨⟨trivial,trivial⟩,trivial,?_⟩⟩;clear hG0 hT0 hN;obtain⟨k,A2⟩:=s;obtain⟨hk,hs2,hT⟩:k≤16∧A.Sub A2∧aE A2 g (jl k):=hG;conv=>lhs;whnf
 refine af (fun h=> ?_) (fun h=> ?_)
 ·have hk1:k<16:=by
    have h:(k:Int)<16:=h;omega
  conv=>lhs;whnf
  refine fJ (show(k:Int)<16 by omega) ?_;conv=>lhs;whnf
  refine(hD _).2 ⟨hT.room (by rw [mi hk];show 0+k*1+1≤16;omega),fun A3 hP=> ?_⟩;have hP:A2.Put A3 g (0+k*1) [.int .u32 (oY (oY (oY (oY (IntKind.u32.wrap (k:Int))))))]:=hP;rw [tab_eq k hk1,Nat.mul_one,Nat.zero_add]at hP;have hT3:=hT.put hP (by rw [mi hk];show k+1≤16;omega);have hT3:aE A3 g ((jl k).take k++ [Ai k]++(jl k).drop (k+1)):=hT3;rw [Cu hk1]at hT3;have hs3:A.Sub A3:=hP.sub hs2 hgA;have hG3:(w7 A g).G (k+1,A3):=⟨hk1,hs3,hT3⟩;conv=>lhs;whnf
  exact(hD _).2 ⟨((k+1,A3):Nat×aa),⟨hG3,⟨bf (by omega),trivial⟩,trivial,rfl⟩,by show 16-(k+1)<16-k;omega,⟨dr rfl rfl,dr rfl rfl,trivial⟩,trivial⟩
 ·have hk9:k=16:=by
    have h:¬(k:Int)<16:=h;omega
  subst hk9;conv=>lhs;whnf
  have hG0:(xb A2 l).G (0:Nat):=Nat.zero_le _;refine(hD _).2 ⟨xb A2 l,⟨(0:Nat),hG0,⟨rfl,congrArg (fun x:Int=>some (SV.v (.int .u32 x))) (show(4294967295:Int)=dn (BitVec.allOnes 32)by decide+kernel),trivial⟩,trivial,rfl⟩,fun(k:Nat) hk=>⟨⟨trivial,trivial,trivial⟩,trivial,?_⟩⟩;clear hG0;have hk:k≤l.length:=hk;conv=>lhs;whnf
  refine af (fun hlt=> ?_) (fun hlt=> ?_)
  ·have hkl:k<l.length:=by
     have hlt:(k:Int)<(l.length:Int):=hlt;omega
   obtain⟨gx,ox,rfl,hra⟩:=Sl.at_ hc ha1 ha2 ha3 (by omega);have r1:=bI hs2 (jD hra k hkl rfl);have i0:(0:Int)≤(k:Int)∧(k:Int)<(l.length:Int):=by omega
   have x1:bitsOf .xor .u32 (dn (iA (l.take k) (BitVec.allOnes 32))) (IntKind.u32.wrap (l[k].toNat:Int))=dn (iA (l.take k) (BitVec.allOnes 32)^^^l[k].toBitVec.setWidth 32):=by rw [EG,sX]
   obtain⟨d0,hd0⟩:∃d0,d0=iA (l.take k) (BitVec.allOnes 32)^^^l[k].toBitVec.setWidth 32:=⟨_,rfl⟩;rw [←hd0]at x1;have n1:=vw hT x1;obtain⟨lt1,r2,x3⟩:=n1;have n3:=vw hT x3;obtain⟨lt3,r4,x5⟩:=n3;conv=>lhs;whnf
   repeat(first|refine cO i0 ?_|refine ai r1 ?_|refine aj hD rfl ?_
          conv=>lhs;whnf)
   refine fJ lt1 ?_;conv=>lhs;whnf
   repeat(first|refine ai r2 ?_|refine aj hD rfl ?_
          conv=>lhs;whnf)
   refine fJ lt3 ?_;conv=>lhs;whnf
   repeat(first|refine ai r4 ?_|refine aj hD rfl ?_
          conv=>lhs;whnf)
   have hfin:dn (lW (lW d0))=dn (iA (l.take (k+1)) (BitVec.allOnes 32)):=by
    rw [hd0,←wu,List.take_succ_eq_append_getElem hkl];unfold iA;rw [List.foldl_append];rfl
   have hG3:(xb A2 l).G (k+1:Nat):=hkl;exact(hD _).2 ⟨(k+1:Nat),⟨hG3,⟨bf (by omega),congrArg (fun x:Int=>some (SV.v (.int .u32 x))) (x5.trans hfin),trivial⟩,trivial,rfl⟩,by show l.length-(k+1)<l.length-k;omega,⟨dr rfl rfl,dr rfl rfl,dr rfl rfl,trivial⟩,trivial⟩
  ·have hk9:k=l.length:=by
     have hlt:¬(k:Int)<(l.length:Int):=hlt;omega
   have hend:sumS.post l [.slice ao l.length c] A (.int .u32 (bitsOf .xor .u32 4294967295 (dn (iA (l.take k) (BitVec.allOnes 32))))) A2:=by
    refine⟨hs2,congrArg (Value.int .u32) ?_⟩;rw [hk9,List.take_length,show(4294967295:Int)=dn (BitVec.allOnes 32)by decide+kernel,sX,BitVec.xor_comm,BitVec.xor_allOnes];rfl
   conv=>lhs;whnf
   exact(hD _).2 hend
def Cm:aY:=⟨List UInt8,fun l vs A=>∃x,vs= [x]∧Sl A 1 l.length x (l.map bv)∧4≤l.length,fun l _ A v A'=>A'=A∧v= .int .u32 (jS l)⟩
theorem wnum_ok:FOk Tryz.prog 266 Cm:=by
 refine bG mixed fun(l:List UInt8) vs A hp=> ?_
 obtain⟨x,rfl,⟨ao,c,rfl,hc, -,ha1,ha2,ha3⟩,h4⟩:∃x,vs= [x]∧Sl A 1 l.length x (l.map bv)∧4≤l.length:=hp;refine⟨noC,noL,60,aA _,az _,fun blk os out tape D hD=> ?_⟩;obtain⟨g,o,e,hra⟩:=Sl.at_ hc ha1 ha2 ha3 (by omega);subst e;have b0:=jD hra 0 (by omega) rfl;have b1:=jD hra 1 (by omega) rfl;have b2:=jD hra 2 (by omega) rfl;have b3:=jD hra 3 (by omega) rfl;have i0:(0:Int)<((l.length:Nat):Int):=by omega
 have i1:(1:Int)<((l.length:Nat):Int):=by omega
 have i2:(2:Int)<((l.length:Nat):Int):=by omega
 have i3:(3:Int)<((l.length:Nat):Int):=by omega
 have hn:=num_or (l[0]'(by omega)).toNat_lt (l[1]'(by omega)).toNat_lt (l[2]'(by omega)).toNat_lt (l[3]'(by omega)).toNat_lt;have hg:∀(i:Nat) (h:i<l.length),l.getD i 0=l[i]:=fun i h=>by rw [List.getD_eq_getElem?_getD,List.getElem?_eq_getElem h];rfl
 have hL:jS l=(l[0]'(by omega)).toNat+(l[1]'(by omega)).toNat*256+(l[2]'(by omega)).toNat*65536+(l[3]'(by omega)).toNat*16777216:=by
  unfold jS;rw [hg 0 (by omega),hg 1 (by omega),hg 2 (by omega),hg 3 (by omega)]
 rw [←hL]at hn;have hend:∀x:Int,x=(jS l:Int)→Cm.post l [] A (.int .u32 x) A:=fun x hx=>⟨rfl,by rw [hx]⟩
 conv=>lhs;whnf
 repeat(first|refine fJ i0 ?_|refine fJ i1 ?_|refine fJ i2 ?_|refine fJ i3 ?_|refine ai b0 ?_|refine ai b1 ?_|refine ai b2 ?_|refine ai b3 ?_|refine aj hD rfl ?_
        conv=>lhs;whnf)
 exact(hD _).2 (hend _ hn)
def yY:aY:=⟨List UInt8,fun l vs A=>∃x,vs= [x]∧SlB A x l∧l.length≤900000000,fun l _ A v A'=>A.Sub A'∧(il l=none→v= .tuple #[.slice none 0 0,.int .i64 0,.int .i64 4])∧∀p n,il l=some (p,n)→∃y,v= .tuple #[y,.int .i64 (n:Nat),.int .i64 0]∧SlB (A'.minus A) y p⟩
theorem wunf_ok:FOk Tryz.prog 202 yY:=by
 refine bG mixed fun(l:List UInt8) vs A hp=> ?_
 obtain⟨x,rfl,hX,hlen⟩:∃x,vs= [x]∧SlB A x l∧l.length≤900000000:=hp;have hX0:=hX.1;obtain⟨ao,c,rfl,hc,hcl,ha1,ha2,ha3⟩:=hX0
 have hC:aI Tryz.prog (bQ [aM 266 Cm,aM 129 sumS,aM 76 cX] noC):=aD (aA _) (fun x hx=>by
  simp only [List.mem_cons,List.not_mem_nil,or_false]at hx;rcases hx with rfl|rfl|rfl
  ·exact au wnum_ok
  ·exact au Cw
  ·exact au df)
 refine⟨_,noL,60,hC,az _,fun blk os out tape D hD=> ?_⟩;have hbad:∀A1,A.Sub A1→il l=none→yY.post l [] A (.tuple #[.slice none 0 0,.int .i64 0,.int .i64 4]) A1:=fun A1 h1 h2=>⟨h1,fun _=>rfl,fun p n h=>(by rw [h2]at h;cases h)⟩
 conv=>lhs;whnf
 refine af (fun h8=> ?_) (fun h8=> ?_)
 ·have h8:(l.length:Int)<8:=h8
  have hend:=hbad A (aa.Sub.refl _) (if_pos (.inl (by omega)));conv=>lhs;whnf
  exact(hD _).2 hend
 have h8:8≤l.length:=by
  have h8:¬(l.length:Int)<8:=h8;omega
 obtain⟨g,o,e,hra⟩:=Sl.at_ hc ha1 ha2 ha3 (by omega);subst e;conv=>lhs;whnf
 refine(hD _).2 ⟨l,⟨_,rfl,hX.1,by omega⟩,fun v A1 hq=> ?_⟩;have hq:A1=A∧v= .int .u32 (jS l):=hq;have h9:=hq.1.symm;have hv:=hq.2;subst h9;subst hv;have hnl:=numL_lt l;obtain⟨n,hn⟩:∃n,n=jS l:=⟨_,rfl⟩;rw [←hn]at hnl ⊢;have hun:il l=if l.length<8∨1048576<n∨l.length<8+n∨(fM ((l.drop 8).take n)).toNat≠jS (l.drop 4)then none else some ((l.drop 8).take n,8+n):=by rw [hn];rfl
 clear hn;have hnw:IntKind.i64.wrap (n:Int)=(n:Int):=i64_in (by omega) (by omega);have hl8:IntKind.i64.wrap ((l.length:Int)-8)=(l.length:Int)-8:=i64_in (by omega) (by omega);conv=>lhs;whnf
 refine af (fun q1=> ?_) (fun q1=> ?_)
 ·have q1:(1048576:Int)<IntKind.i64.wrap (n:Int):=q1
  rw [hnw]at q1;have hend:=hbad A (aa.Sub.refl _) (by rw [hun];exact if_pos (.inr (.inl (by omega))));conv=>lhs;whnf
  exact(hD _).2 hend
 have q1:n≤1048576:=by
  have q1:¬(1048576:Int)<IntKind.i64.wrap (n:Int):=q1;rw [hnw]at q1;omega
 conv=>lhs;whnf
 refine af (fun q2=> ?_) (fun q2=> ?_)
 ·have q2:IntKind.i64.wrap ((l.length:Int)-8)<IntKind.i64.wrap (n:Int):=q2
  rw [hnw,hl8]at q2;have hend:=hbad A (aa.Sub.refl _) (by rw [hun];exact if_pos (.inr (.inr (.inl (by omega)))));conv=>lhs;whnf
  exact(hD _).2 hend
 have q2:8+n≤l.length:=by
  have q2:¬IntKind.i64.wrap ((l.length:Int)-8)<IntKind.i64.wrap (n:Int):=q2;rw [hnw,hl8]at q2;omega
 have hhi:IntKind.i64.wrap (8+IntKind.i64.wrap (n:Int))=((8+n:Nat):Int):=by rw [hnw,i64_in (by omega) (by omega)];omega
 have hb1:((decide ((0:Int)≤8)&&decide ((8:Int)≤IntKind.i64.wrap (8+IntKind.i64.wrap (n:Int))))&&(false||decide (IntKind.i64.wrap (8+IntKind.i64.wrap (n:Int))≤(c:Int))))=true:=by
  rw [hhi];simp only [Bool.and_eq_true,Bool.or_eq_true,decide_eq_true_iff];omega
 have hb2:((decide ((0:Int)≤4)&&decide ((4:Int)≤(l.length:Int)))&&(true||decide ((l.length:Int)≤(c:Int))))=true:=by
  simp only [Bool.and_eq_true,Bool.or_eq_true,decide_eq_true_iff];omega
 have hP1:=Sl.part (lo:=8) (hi:=8+n) hX.1 (by omega) q2;have hP2:=Sl.part (lo:=4) (hi:=l.length) hX.1 (by omega) (Nat.le_refl _);rw [show 8+n-8=n by omega]at hP1;have htl:((l.drop 8).take n).length=n:=by rw [List.length_take,List.length_drop];omega
 have hdl:(l.drop 4).length=l.length-4:=List.length_drop;rw [show(l.drop 4).take (l.length-4)=l.drop 4 from List.take_of_length_le (by omega)]at hP2;generalize hp:(l.drop 8).take n=p at*;generalize hr:l.drop 4=r4 at*
 have hS1:∀x:Int,x=((8+n:Nat):Int)→SlB A (.slice (some ⟨g,o+(bif c.beq (Int.toNat 8)then 0 else Int.toNat 8*1),none⟩) (x.toNat-Int.toNat 8) (c-Int.toNat 8)) p:=fun x hx=>by
  rw [hx];refine⟨?_,by omega⟩;rw [htl];show Sl A 1 n (.slice _ (8+n-8) (c-8)) _
  rw [show 8+n-8=n by omega];exact hP1
 have hS2:Sl A 1 r4.length (.slice (some ⟨g,o+(bif c.beq (Int.toNat 4)then 0 else Int.toNat 4*1),none⟩) ((l.length:Int).toNat-Int.toNat 4) (c-Int.toNat 4)) (r4.map bv):=by
  rw [hdl];exact hP2
 conv=>lhs;whnf
 refine gB hb1 ?_;conv=>lhs;whnf
 refine gB hb2 ?_;conv=>lhs;whnf
 refine(hD _).2 ⟨p,⟨_,rfl,hS1 _ hhi⟩,fun v A1 hq=> ?_⟩;obtain⟨s1,hv⟩:A.Sub A1∧v= .int .u32 (dn (fM p)):=hq;subst hv;conv=>lhs;whnf
 refine(hD _).2 ⟨r4,⟨_,rfl,hS2.sub s1,by omega⟩,fun v A2 hq=> ?_⟩;have hq:A2=A1∧v= .int .u32 (jS r4):=hq;have h9:=hq.1.symm;have hv:=hq.2;subst h9;subst hv;conv=>lhs;whnf
 refine dS (fun q3=> ?_) (fun q3=> ?_);rotate_left
 ·have hend:=hbad A1 s1 (by rw [hun];exact if_pos (.inr (.inr (.inr fun e=>q3 (uF.2 e)))))
  conv=>lhs;whnf
  exact(hD _).2 hend
 have hun2:il l=some (p,8+n):=by
  rw [hun,if_neg]
  rintro(h|h|h|h)
  ·omega
  ·omega
  ·omega
  ·exact h (uF.1 q3)
 have hS1':∀x:Int,x=((8+n:Nat):Int)→SlB A1 (.slice (some ⟨g,o+(bif c.beq (Int.toNat 8)then 0 else Int.toNat 8*1),none⟩) (x.toNat-Int.toNat 8) (c-Int.toNat 8)) p:=fun x hx=>(hS1 x hx).sub s1
 conv=>lhs;whnf
 refine gB hb1 ?_;conv=>lhs;whnf
 refine(hD _).2 ⟨p,⟨_,rfl,hS1' _ hhi⟩,fun v A3 hq=> ?_⟩;obtain⟨s3,hS3⟩:A1.Sub A3∧SlB (A3.minus A1) v p:=hq;obtain⟨av,cv,hvf⟩:=hS3.1.form;subst hvf
 have hend:∀x:Int,x=((8+n:Nat):Int)→yY.post l [] A (.tuple #[.slice av p.length cv,.int .i64 x,.int .i64 0]) A3:=fun x hx=>⟨s1.trans s3,fun h=>(by rw [hun2]at h;cases h),fun p' n' h=>by
  rw [hun2]at h;injection h with h
  injection h with h1 h2
  subst h1;subst h2
  exact⟨_,by rw [hx],hS3.sub (oJ s1)⟩⟩
 conv=>lhs;whnf
 repeat(first|refine aj hD rfl ?_
        conv=>lhs;whnf)
 exact(hD _).2 (hend _ hhi)
def yF:aY:=⟨ByteArray,fun p vs _=>vs= [.string p],fun p _ A v A'=>A'=A∧v= .bool (bR p.data.toList)⟩
theorem wA:FOk Tryz.prog 74 yF:=by
 intro p vs A w hA hp;obtain rfl:vs= [.string p]:=hp;refine eE Tryz.func74 ⟨by kernel_rfl,by kernel_rfl⟩ ?_;intro cs;obtain⟨e,w',fr,⟨k1,b1,b2,b3,_,b5⟩,k3⟩:=uk p w cs;have hlt:∀k o,A.blk k=some o→k<w.heap.size:=fun k o hk=>(Array.getElem?_eq_some_iff.1 (hA k o hk)).1
 exact⟨e,w',fr,⟨_,k1,A,⟨rfl,rfl⟩,b1,b3,b2,fun k _ hk=>b5 k hk,fun k o hk=>(b5 k (hlt k o hk)).trans (hA k o hk),fun k o ho=> .inl ⟨o,ho⟩⟩,k3⟩
end
end Go.Proofs.YtmmlhdiejkknnaaGreatDoor
