/-
  Parts of the proof: DkE LkO DkF
-/
import Derived.Test.YtphigpccfbfnoaaGreatDoorG43
import Derived.Test.YtphigpccfbfnoaaGreatDoorG20
import Derived.Test.YtphigpccfbfnoaaGreatDoorG21
set_option maxRecDepth 100000
set_option maxHeartbeats 0
namespace Go.Proofs.YtphigpccfbfnoaaGreatDoor
open Go.Sx Go.RowKit
noncomputable section
open Classical
theorem aO.at_{A:aa} :∀ {ds:List aB} {rows:List (List Value)} {L:List Nat},aO A ds rows L→∀k (hk:k<ds.length) (hr:k<rows.length),∃Lk,bH A ds[k] rows[k] Lk
 | [],_,_,_,k,hk,_=>absurd hk (Nat.not_lt_zero _)
 |d::ds,rows,L,h,k,hk,hr=>by
  obtain⟨r,rs,L1,L2,rfl,h1,h2,rfl⟩:=h.head
  cases k with
  |zero=>exact⟨L1,h1⟩
  |succ k=>exact aO.at_ h2 k (by simpa using hk) (by simpa using hr)
theorem lx{A:aa}{ds:List aB}{rows:List (List Value)}{L:List Nat}(h:aO A ds rows L):rows.flatten.length=ds.length*16:=by
 have key:∀rows:List (List Value),(∀r∈rows,r.length=16)→rows.flatten.length=rows.length*16:=fun rows=>by
  induction rows with
  |nil=>intro _;rfl
  |cons r rows ih=>
   intro h;rw [List.flatten_cons,List.length_append,h r (by simp),ih fun x hx=>h x (List.mem_cons_of_mem _ hx),List.length_cons];omega
 rw [key rows h.lens,h.length]
theorem FM{A:aa}{g c:Nat}{ds:List aB}{rows:List (List Value)}{L:List Nat}{ys:List Value}(h:bV A g 16 32 (ds.length+12) c (rows.flatten++ys))(hr:aO A ds rows L)(k:Nat)(hk:k<ds.length):∃cs Lk,A.rd g (0+k*16) 16=some cs∧bH A ds[k] cs Lk:=by
 have hl:=hr.length;obtain⟨Lk,hLk⟩:=hr.at_ k hk (by omega);have h1:=cU h.rd (i:=0) (m:=ds.length*16) (by omega);rw [List.drop_zero,List.take_left' (lx hr)]at h1;exact⟨_,Lk,lU h1 hr.lens k (by omega) (by omega),hLk⟩
theorem Dq{xs:List Value}{n:Nat}(hx:xs.length=n*16)(k:Nat)(hk:k<12):((xs++fl 12).drop ((n+k)*16)).take 16=iU 1 k:=by
 rw [List.drop_append,List.drop_eq_nil_of_le (by rw [hx];omega),List.nil_append,hx];have e:(n+k)*16-n*16=k*16:=by omega
 rw [e];have h12:k=0∨k=1∨k=2∨k=3∨k=4∨k=5∨k=6∨k=7∨k=8∨k=9∨k=10∨k=11:=by omega
 rcases h12 with rfl|rfl|rfl|rfl|rfl|rfl|rfl|rfl|rfl|rfl|rfl|rfl<;>rfl
def zY(k i:Int):aB:= .mk ⟨mkI k i,0,0,0,0,0,⟨#[]⟩, [],0,0,0,0,0,0, []⟩ []
theorem uF(A:aa)(k i:Int):bj A (zY k i) (iU k i):=by
 unfold zY;rw [bj];exact⟨_,_,_, [],rfl,by show(0:Nat)≤_;omega,⟨Sl.nil _ _,by simp⟩,⟨Sl.nil _ _,by simp⟩,Sl.nil _ _,by simp,by rw [cS]⟩
def kx(n:Nat):aL:=⟨List aB×List (List Value)×List Nat×Nat×Nat,fun x vs A=>∃y,vs= [.slice (some ⟨x.2.2.2.1,0,none⟩) x.1.length x.2.2.2.2,y]∧(∀d∈x.1,dSz d<n)∧bV A x.2.2.2.1 16 32 (x.1.length+12) x.2.2.2.2 (x.2.1.flatten++fl 12)∧aO A x.1 x.2.1 x.2.2.1∧gi A y x.1,
 fun _ _ A v A'=>A'=A∧v= .bool true⟩
def jH(n:Nat):aL:=⟨aB×List Nat,fun x vs A=>∃cs ds,vs= [bx cs,bx ds]∧dSz x.1<n∧bH A x.1 cs x.2∧bj A x.1 ds,
 fun _ _ A v A'=>A'=A∧v= .bool true⟩
theorem yq(m:Nat)(ih:FOk Tryz.prog 52 (kx m)):FOk Tryz.prog 15 (jH (m+1)):=by
 refine aS mixed fun⟨d,L⟩ vs A hp=> ?_
 obtain⟨x,y,rfl,hsz,hx,hy⟩:∃cs ds,vs= [bx cs,bx ds]∧dSz d<m+1∧bH A d cs L∧bj A d ds:=hp;have hxa:=hx.ask;have hya:=hy;obtain⟨⟨zxid,kind,ses,ah,xid,time,path,data,owner,ver,cver,tmo,err,cfg,mem⟩,parts⟩:=d;rw [bj]at hy;rw [bH]at hx;obtain⟨vd,vm,vp,rows,rfl,hy0,hy1,hy2,hy3,hy4,hy5⟩:=hy;obtain⟨gd,gm,gp,cd,cm,cp,rows',Lp,rfl,h0,h2,h3,h4,b1,b2,b3,h5,h6,h7⟩:=hx
 have hC:aF Tryz.prog (bu [aE 52 (kx m),aE 50 nf,aE 94 ku,aE 49 sameDeedT',aE 70 eQ] noC):=az (aj _) (fun x hx=>by
  simp only [List.mem_cons,List.not_mem_nil,or_false]at hx;rcases hx with rfl|rfl|rfl|rfl|rfl
  ·exact ai ih
  ·exact ai wx
  ·exact ai sr
  ·exact ai nG
  ·exact ai fP)
 have hxm:kD A (.slice (some ⟨gm,0,none⟩) mem.length cm) mem:=⟨h3.sl (fT _),b2⟩
 have hparts:∀d∈parts,dSz d<m:=fun d hd=>by
  obtain⟨k,hk,rfl⟩:=List.getElem_of_mem hd;have:=tf hk;simp only [dSz]at hsz;omega
 obtain⟨a5,k5,rfl⟩:=hy1.1.form;obtain⟨a13,k13,rfl⟩:=hy2.1.form;obtain⟨a14,k14,rfl⟩:=hy3.form;refine⟨_,noL,60,hC,ak _,fun blk os out tape D hD=> ?_⟩;conv=>lhs;whnf
 refine(hD _).2 ⟨aB.mk ⟨zxid,kind,ses,ah,xid,time,path,data,owner,ver,cver,tmo,err,cfg,mem⟩ parts,⟨_,_,rfl,hxa,hya⟩,fun v A1 hq=> ?_⟩;obtain⟨h9,hv⟩:A1=A∧v= .bool true:=hq;subst h9;subst hv
 conv=>lhs;whnf
 refine(hD _).2 ⟨(data,gd,cd),⟨_,rfl,hy1,h2⟩,fun v A2 hq=> ?_⟩;obtain⟨h9,hv⟩:A2=A1∧v= .bool true:=hq;subst h9;subst hv
 conv=>lhs;whnf
 refine bP rfl ?_;conv=>lhs;whnf
 refine(hD _).2 ⟨(mem,mem),⟨_,_,rfl,hxm,hy2⟩,fun v A3 hq=> ?_⟩;obtain⟨h9,hv⟩:A3=A2∧v= .bool (decide (mem=mem)):=hq;rw [decide_eq_true rfl]at hv;subst h9;subst hv
 conv=>lhs;whnf
 refine(hD _).2 ⟨(mem,gm,cm),⟨_,rfl,hy2,h3⟩,fun v A9 hq=> ?_⟩;obtain⟨h9,hv⟩:A9=A3∧v= .bool true:=hq;subst h9;subst hv
 conv=>lhs;whnf
 refine(hD _).2 ⟨(parts,rows',Lp,gp,cp),⟨_,rfl,hparts,h4,h5,rows,hy3,hy4,hy5⟩,fun v A4 hq=> ?_⟩;obtain⟨h9,hv⟩:A4=A9∧v= .bool true:=hq;subst h9;subst hv
 have hend:(jH (m+1)).post (aB.mk ⟨zxid,kind,ses,ah,xid,time,path,data,owner,ver,cver,tmo,err,cfg,mem⟩ parts,L) [] A4 (.bool true) A4:=⟨rfl,rfl⟩;conv=>lhs;whnf
 exact(hD _).2 hend
theorem wu(m:Nat)(ih:FOk Tryz.prog 15 (jH m)):FOk Tryz.prog 52 (kx m):=by
 refine aS mixed fun⟨ds,rows,L,g,c⟩ vs A hp=> ?_
 obtain⟨x,rfl,hsz,hL,hLs,rows0,⟨ao,k7,rfl,hd7,hdl,hz1,hz2,hz3⟩,hdn,hR⟩:∃y,vs= [.slice (some ⟨g,0,none⟩) ds.length c,y]∧(∀d∈ds,dSz d<m)∧bV A g 16 32 (ds.length+12) c (rows.flatten++fl 12)∧aO A ds rows L∧gi A y ds:=hp
 have hC:aF Tryz.prog (bu [aE 15 (jH m),aE 90 l8,aE 49 sameDeedT'] noC):=az (aj _) (fun x hx=>by
  simp only [List.mem_cons,List.not_mem_nil,or_false]at hx;rcases hx with rfl|rfl|rfl
  ·exact ai ih
  ·exact ai lq
  ·exact ai nG)
 refine⟨_,da Tryz.prog _ noL 60 [(52,0)],60,hC,aH mixed hC (ak _) _ _,fun blk os out tape D hD=> ?_⟩
 have hw:IntKind.i64.wrap ((ds.length:Int)+12)=((ds.length+12:Nat):Int):=by
  rw [Sx.wrap_i64 (by omega) (by omega)];omega
 have hwn:(IntKind.i64.wrap ((ds.length:Int)+12)).toNat=ds.length+12:=by rw [hw,Int.toNat_natCast]
 have hrow:=hL.rd;have hend:(kx m).post (ds,rows,L,g,c) [] A (.bool true) A:=⟨rfl,rfl⟩;conv=>lhs;whnf
 refine cL (fun _=> ?_) (fun h=>absurd rfl h);conv=>lhs;whnf
 refine cK (ma (k:=ds.length+12) hw hL.le) ?_;conv=>lhs;whnf
 refine(hD _).2 ⟨cnt A 6 [0,1,5] [] (ds.length+12) fun _=>True,⟨(0:Nat),⟨Nat.zero_le _,trivial⟩,⟨rfl,trivial⟩,trivial,rfl⟩,fun(k:Nat) hk=>⟨⟨trivial,trivial⟩,trivial,?_⟩⟩;simp only [cnt]at hk;conv=>lhs;whnf
 refine ab (fun hlt=> ?_) (fun hlt=> ?_);rotate_left
 ·conv=>lhs;whnf
  exact(hD _).2 hend
 have hlt:(k:Int)<(((IntKind.i64.wrap ((ds.length:Int)+12)).toNat:Nat):Int):=hlt
 have hk2:k<ds.length+12:=by
  have h9:=hlt;rw [hwn]at h9;omega
 have i0:(0:Int)≤(k:Int)∧(k:Int)<(((IntKind.i64.wrap ((ds.length:Int)+12)).toNat:Nat):Int):=⟨by omega,hlt⟩;have hmu:(ds.length+12)-(k+1)<(ds.length+12)-k:=by omega
 by_cases h1:k<ds.length
 ·obtain⟨g',o',e,hrb⟩:=Sl.at_ hd7 hz1 hz2 hz3 (by omega)
  subst e;have h1i:(k:Int)<(ds.length:Int):=by omega
  have h1n:¬(ds.length:Int)≤(k:Int):=by omega
  have i1:(0:Int)≤(k:Int)∧(k:Int)<(ds.length:Int):=by omega
  obtain⟨ca,Lk,r1,hlk⟩:=FM hL hLs k h1;obtain⟨cb,r2,hbk⟩:=fD hrb hR k h1 rfl
  have r1:A.rd g ((0+bif c.beq (Int.toNat 0)then 0 else Int.toNat 0*16)+k*16) 16=some ca:=by
   rw [ph];exact r1
  have hlk0:=hlk;have hbk0:=hbk;obtain⟨p0,p1,p2,p3,p4,p5,p6,q7,u7,n7,p8,p9,p10,p11,p12,p13,q14,u14,n14,q15,u15,n15,hca⟩:=hlk.ask.sK;subst hca;obtain⟨p0,p1,p2,p3,p4,p5,p6,q7,u7,n7,p8,p9,p10,p11,p12,p13,q14,u14,n14,q15,u15,n15,hcb⟩:=hbk.sK;subst hcb;conv=>lhs;whnf
  repeat(first|refine bP h1i ?_|refine aq i0 ?_|refine aq i1 ?_|refine af r1 ?_|refine af r2 ?_
         conv=>lhs;whnf)
  refine(hD _).2 ⟨(ds[k],Lk),⟨_,_,rfl,hsz _ (List.getElem_mem _),hlk0,hbk0⟩,fun v A4 hq=> ?_⟩;obtain⟨h9,hv⟩:A4=A∧v= .bool true:=hq;subst h9;subst hv
  conv=>lhs;whnf
  repeat(first|refine aI h1n ?_|refine bP h1n ?_
         conv=>lhs;whnf)
  exact(hD _).2 ⟨(k+1:Nat),⟨⟨hk2,trivial⟩,⟨av (by omega),trivial⟩,trivial,rfl⟩,hmu,⟨an rfl rfl,an rfl rfl,an rfl rfl,trivial⟩,trivial⟩
 ·have h1i:¬(k:Int)<(ds.length:Int):=by omega
  have h1n:(ds.length:Int)≤(k:Int):=by omega
  have hwk:IntKind.i64.wrap ((k:Int)-(ds.length:Int))=((k-ds.length:Nat):Int):=by
   rw [Sx.wrap_i64 (by omega) (by omega)];omega
  have r1:A.rd g ((0+bif c.beq (Int.toNat 0)then 0 else Int.toNat 0*16)+k*16) 16=some (iU 1 ((k-ds.length:Nat):Int)):=by
   rw [ph];have h9:=cU hrow (i:=k*16) (m:=16) (by omega);have h8:=Dq (lx hLs) (k-ds.length) (by omega);rw [show ds.length+(k-ds.length)=k by omega]at h8;rw [h8]at h9;exact h9
  conv=>lhs;whnf
  repeat(first|refine aI h1i ?_|refine bP h1n ?_|refine aq i0 ?_|refine af r1 ?_
         conv=>lhs;whnf)
  refine(hD _).2 ⟨((1:Int),IntKind.i64.wrap ((k:Int)-(ds.length:Int))),rfl,fun v A9 hq=> ?_⟩;obtain⟨h9,hv⟩:A9=A∧v=bx (iU 1 (IntKind.i64.wrap ((k:Int)-(ds.length:Int)))):=hq;subst h9;rw [hwk]at hv;subst hv;conv=>lhs;whnf
  repeat(first|refine aI h1i ?_|refine bP h1n ?_|refine aq i0 ?_|refine af r1 ?_|refine au hD rfl ?_
         conv=>lhs;whnf)
  refine(hD _).2 ⟨zY 1 ((k-ds.length:Nat):Int),⟨_,_,rfl,uF _ _ _,uF _ _ _⟩,fun v A4 hq=> ?_⟩;obtain⟨h9,hv⟩:A4=A9∧v= .bool true:=hq;subst h9;subst hv
  conv=>lhs;whnf
  repeat(first|refine aI h1i ?_|refine bP h1n ?_|refine aq i0 ?_|refine af r1 ?_|refine au hD rfl ?_
         conv=>lhs;whnf)
  exact(hD _).2 ⟨(k+1:Nat),⟨⟨hk2,trivial⟩,⟨av (by omega),trivial⟩,trivial,rfl⟩,hmu,⟨an rfl rfl,an rfl rfl,an rfl rfl,trivial⟩,trivial⟩
theorem oh:∀m,FOk Tryz.prog 15 (jH m)
 |0=>fun g vs A w _ hp=>by obtain⟨_,_,_,h,_⟩:=hp;omega
 |m+1=>yq m (wu m (oh m))
def keptDeedS':aL:=⟨aB×List Nat,fun x vs A=>∃cs ds,vs= [bx cs,bx ds]∧bH A x.1 cs x.2∧bj A x.1 ds,
 fun _ _ A v A'=>A'=A∧v= .bool true⟩
theorem yp:FOk Tryz.prog 15 keptDeedS':=fun d vs A w hA ⟨x,y,h1,h2,h3⟩=>
 oh (dSz d.1+1) d vs A w hA ⟨x,y,h1,Nat.lt_succ_self _,h2,h3⟩
theorem bV.again{A:aa}{g es:Nat}{e:TypeId}{n c:Nat}(hn:n≤c)(h:∃cc,A.blk g=some (.cells cc e (0,0))∧cc.size=c*es):∃cs,bV A g es e n c cs:=by
 obtain⟨cc,h1,h2⟩:=h;have:=Nat.mul_le_mul_right es hn;exact⟨_,⟨cc,h1,h2,rfl⟩,hn,by rw [List.length_take,Array.length_toList];omega⟩
def mW:aL:=⟨Nat×Nat×Nat,fun g vs A=>vs= [.slice (some ⟨g.1,0,none⟩) g.2.1 g.2.2]∧g.2.1≤140737488351232∧∃cs,bV A g.1 1 5 (g.2.1+12) g.2.2 cs,
 fun g _ A _ A'=>(∀k,k≠g.1→A'.blk k=A.blk k)∧∃o,A'.blk g.1=some o⟩
structure ObG where
 k:Nat
 A:aa
def vO(A0:aa)(g n c:Nat):dE:=
 { γ:=ObG,G:=fun s=>s.k≤n+12∧(∀k,k≠g→s.A.blk k=A0.blk k)∧∃cs,bV s.A g 1 5 (n+12) c cs,
   keepS:= [2],keepB:= [],sl:=fun s=> [(3,.v (.int .i64 s.k))],bl:=fun _=> [],ar:=fun s=>s.A,mu:=fun s=>n+12-s.k }
theorem vN:FOk Tryz.prog 58 mW:=by
 refine aS mixed fun⟨g,n,c⟩ vs A hp=> ?_
 obtain⟨rfl,hn,cs,hL⟩:vs= [.slice (some ⟨g,0,none⟩) n c]∧n≤140737488351232∧∃cs,bV A g 1 5 (n+12) c cs:=hp
 have hC:aF Tryz.prog (bu [aE 88 jG] noC):=az (aj _) (fun x hx=>by
  simp only [List.mem_singleton]at hx
  subst hx;exact ai iV)
 refine⟨_,da Tryz.prog _ noL 60 [(58,0)],60,hC,aH mixed hC (ak _) _ _,fun blk os out tape D hD=> ?_⟩
 have hw:IntKind.i64.wrap ((n:Int)+12)=((n+12:Nat):Int):=by
  rw [Sx.wrap_i64 (by omega) (by omega)];omega
 have hwn:(IntKind.i64.wrap ((n:Int)+12)).toNat=n+12:=by rw [hw,Int.toNat_natCast]
 conv=>lhs;whnf
 refine cK (ma (k:=n+12) hw hL.le) ?_;conv=>lhs;whnf
 refine(hD _).2 ⟨vO A g n c,⟨(⟨0,A⟩:ObG),⟨Nat.zero_le _,fun _ _=>rfl,cs,hL⟩,⟨rfl,trivial⟩,trivial,rfl⟩,fun(s:ObG) hG=>⟨⟨trivial,trivial⟩,trivial,?_⟩⟩;obtain⟨k,As⟩:=s;obtain⟨hk,hoth,cs1,hLs⟩:k≤n+12∧(∀k,k≠g→As.blk k=A.blk k)∧∃cs,bV As g 1 5 (n+12) c cs:=hG;conv=>lhs;whnf
 refine ab (fun hlt=> ?_) (fun hlt=> ?_);rotate_left
 ·have hend:mW.post (g,n,c) [] A (.tuple #[]) As:=by
    obtain⟨⟨cc,h1,_⟩,_⟩:=hLs;exact⟨hoth,_,h1⟩
  conv=>lhs;whnf
  exact(hD _).2 hend
 have hlt:(k:Int)<(((IntKind.i64.wrap ((n:Int)+12)).toNat:Nat):Int):=hlt
 have hk2:k<n+12:=by
  have h9:=hlt;rw [hwn]at h9;omega
 have i0:(0:Int)≤(k:Int)∧(k:Int)<(((IntKind.i64.wrap ((n:Int)+12)).toNat:Nat):Int):=⟨by omega,hlt⟩;have hle:=hLs.le;conv=>lhs;whnf
 refine(hD _).2 ⟨((2:Int),(k:Int)),rfl,fun v A9 hq=> ?_⟩;obtain⟨h9,hv⟩:A9=As∧v= .int .u8 (mkB 2 k):=hq;subst h9;subst hv
 have hk9:k<9223372036854775807:=by omega
 have hroom:A9.Room g ((0+bif c.beq (Int.toNat 0)then 0 else Int.toNat 0*1)+k*1) 1:=by
  rw [ph];refine hLs.room ?_;omega
 conv=>lhs;whnf
 repeat(first|refine aq i0 ?_|refine au hD rfl ?_
        conv=>lhs;whnf)
 refine(hD _).2 ⟨hroom,fun A6 hPut=> ?_⟩;have hPut:A9.Put A6 g ((0+bif c.beq (Int.toNat 0)then 0 else Int.toNat 0*1)+k*1) [.int .u8 (mkB 2 k)]:=hPut;rw [ph]at hPut;obtain⟨h6,ho6⟩:=hLs.over hPut (by show 0+k*1+1≤c*1;omega);obtain⟨cs6,hL6⟩:=bV.again hle h6;conv=>lhs;whnf
 exact(hD _).2 ⟨(⟨k+1,A6⟩:ObG),⟨⟨hk2,fun j hj=>(by rw [ho6 j hj];exact hoth j hj),cs6,hL6⟩,⟨av (k:=k) hk9,trivial⟩,trivial,rfl⟩,by show(n+12)-(k+1)<(n+12)-k;omega,⟨an rfl rfl,trivial⟩,trivial⟩
def kg:aL:=⟨Nat×Nat×Nat,fun g vs A=>vs= [.slice (some ⟨g.1,0,none⟩) g.2.1 g.2.2]∧g.2.1*32≤140737488351232∧∃cs,bV A g.1 4 97 (g.2.1+12) g.2.2 cs,
 fun g _ A _ A'=>(∀k,k≠g.1→A'.blk k=A.blk k)∧∃o,A'.blk g.1=some o⟩
def rT(A0:aa)(g n c:Nat):dE:=
 { γ:=ObG,G:=fun s=>s.k≤n+12∧(∀k,k≠g→s.A.blk k=A0.blk k)∧∃cs,bV s.A g 4 97 (n+12) c cs,
   keepS:= [2],keepB:= [],sl:=fun s=> [(3,.v (.int .i64 s.k))],bl:=fun _=> [],ar:=fun s=>s.A,mu:=fun s=>n+12-s.k }
theorem rS:FOk Tryz.prog 97 kg:=by
 refine aS mixed fun⟨g,n,c⟩ vs A hp=> ?_
 obtain⟨rfl,hn,cs,hL⟩:vs= [.slice (some ⟨g,0,none⟩) n c]∧n*32≤140737488351232∧∃cs,bV A g 4 97 (n+12) c cs:=hp
 have hC:aF Tryz.prog (bu [aE 131 gP] noC):=az (aj _) (fun x hx=>by
  simp only [List.mem_singleton]at hx
  subst hx;exact ai gJ)
 refine⟨_,da Tryz.prog _ noL 60 [(97,0)],60,hC,aH mixed hC (ak _) _ _,fun blk os out tape D hD=> ?_⟩
 have hw:IntKind.i64.wrap ((n:Int)+12)=((n+12:Nat):Int):=by
  rw [Sx.wrap_i64 (by omega) (by omega)];omega
 have hwn:(IntKind.i64.wrap ((n:Int)+12)).toNat=n+12:=by rw [hw,Int.toNat_natCast]
 conv=>lhs;whnf
 refine cK (ma (k:=n+12) hw hL.le) ?_;conv=>lhs;whnf
 refine(hD _).2 ⟨rT A g n c,⟨(⟨0,A⟩:ObG),⟨Nat.zero_le _,fun _ _=>rfl,cs,hL⟩,⟨rfl,trivial⟩,trivial,rfl⟩,fun(s:ObG) hG=>⟨⟨trivial,trivial⟩,trivial,?_⟩⟩;obtain⟨k,As⟩:=s;obtain⟨hk,hoth,cs1,hLs⟩:k≤n+12∧(∀k,k≠g→As.blk k=A.blk k)∧∃cs,bV As g 4 97 (n+12) c cs:=hG;conv=>lhs;whnf
 refine ab (fun hlt=> ?_) (fun hlt=> ?_);rotate_left
 ·have hend:kg.post (g,n,c) [] A (.tuple #[]) As:=by
    obtain⟨⟨cc,h1,_⟩,_⟩:=hLs;exact⟨hoth,_,h1⟩
  conv=>lhs;whnf
  exact(hD _).2 hend
 have hlt:(k:Int)<(((IntKind.i64.wrap ((n:Int)+12)).toNat:Nat):Int):=hlt
 have hk2:k<n+12:=by
  have h9:=hlt;rw [hwn]at h9;omega
 have i0:(0:Int)≤(k:Int)∧(k:Int)<(((IntKind.i64.wrap ((n:Int)+12)).toNat:Nat):Int):=⟨by omega,hlt⟩;have hle:=hLs.le;conv=>lhs;whnf
 refine(hD _).2 ⟨((2:Int),(k:Int)),rfl,fun v A9 hq=> ?_⟩;obtain⟨h9,hv⟩:A9=As∧v=mbV [.int .i64 (mkI 2 k),.int .u8 0,.int .i64 0,.int .i64 0]:=hq;subst h9;subst hv
 have hk9:k<9223372036854775807:=by omega
 have hroom:A9.Room g ((0+bif c.beq (Int.toNat 0)then 0 else Int.toNat 0*4)+k*4) 4:=by
  rw [ph];refine hLs.room ?_;omega
 conv=>lhs;whnf
 repeat(first|refine aq i0 ?_|refine au hD rfl ?_
        conv=>lhs;whnf)
 refine(hD _).2 ⟨hroom,fun A6 hPut=> ?_⟩;have hPut:A9.Put A6 g ((0+bif c.beq (Int.toNat 0)then 0 else Int.toNat 0*4)+k*4) [.int .i64 (mkI 2 k),.int .u8 0,.int .i64 0,.int .i64 0]:=hPut;rw [ph]at hPut;obtain⟨h6,ho6⟩:=hLs.over hPut (by show 0+k*4+4≤c*4;omega);obtain⟨cs6,hL6⟩:=bV.again hle h6;conv=>lhs;whnf
 exact(hD _).2 ⟨(⟨k+1,A6⟩:ObG),⟨⟨hk2,fun j hj=>(by rw [ho6 j hj];exact hoth j hj),cs6,hL6⟩,⟨av (k:=k) hk9,trivial⟩,trivial,rfl⟩,by show(n+12)-(k+1)<(n+12)-k;omega,⟨an rfl rfl,trivial⟩,trivial⟩
structure jo(A A':aa)(L:List Nat):Prop where
 other:∀k,k∉L→A'.blk k=A.blk k
 live:∀k∈L,∃o,A'.blk k=some o
def kh(n:Nat):aL:=⟨List aB×List (List Value)×List Nat×Nat×Nat,fun x vs A=>vs= [.slice (some ⟨x.2.2.2.1,0,none⟩) x.1.length x.2.2.2.2]∧(∀d∈x.1,dSz d<n)∧x.1.length*184≤140737488351232∧bV A x.2.2.2.1 16 32 (x.1.length+12) x.2.2.2.2 (x.2.1.flatten++fl 12)∧aO A x.1 x.2.1 x.2.2.1∧(x.2.2.2.1::x.2.2.1).Nodup,
 fun x _ A _ A'=>jo A A' (x.2.2.2.1::x.2.2.1)⟩
def jE(n:Nat):aL:=⟨aB×List Nat,fun x vs A=>∃cs,vs= [bx cs]∧dSz x.1<n∧bH A x.1 cs x.2,
 fun x _ A _ A'=>jo A A' x.2⟩
theorem xU(m:Nat)(ih:FOk Tryz.prog 60 (kh m)):FOk Tryz.prog 17 (jE (m+1)):=by
 refine aS mixed fun⟨d,L⟩ vs A hp=> ?_
 obtain⟨x,rfl,hsz,hx⟩:∃cs,vs= [bx cs]∧dSz d<m+1∧bH A d cs L:=hp;obtain⟨⟨zxid,kind,ses,ah,xid,time,path,data,owner,ver,cver,tmo,err,cfg,mem⟩,parts⟩:=d;rw [bH]at hx;obtain⟨gd,gm,gp,cd,cm,cp,rows',Lp,rfl,h0,h2,h3,h4,b1,b2,b3,h5,h6,h7⟩:=hx;subst h6
 have hC:aF Tryz.prog (bu [aE 60 (kh m),aE 58 mW,aE 97 kg] noC):=az (aj _) (fun x hx=>by
  simp only [List.mem_cons,List.not_mem_nil,or_false]at hx;rcases hx with rfl|rfl|rfl
  ·exact ai ih
  ·exact ai vN
  ·exact ai rS)
 have hparts:∀d∈parts,dSz d<m:=fun d hd=>by
  obtain⟨k,hk,rfl⟩:=List.getElem_of_mem hd;have:=tf hk;simp only [dSz]at hsz;omega
 simp only [List.nodup_cons,List.mem_cons,not_or]at h7;obtain⟨⟨n12,n13,m1⟩,⟨n23,m2⟩,m3,hnd⟩:=h7;refine⟨_,noL,60,hC,ak _,fun blk os out tape D hD=> ?_⟩;conv=>lhs;whnf
 refine(hD _).2 ⟨(gd,data.length,cd),⟨rfl,b1,_,h2⟩,fun v A1 hq=> ?_⟩;obtain⟨o1,l1⟩:(∀k,k≠gd→A1.blk k=A.blk k)∧∃o,A1.blk gd=some o:=hq;conv=>lhs;whnf
 refine(hD _).2 ⟨(gm,mem.length,cm),⟨rfl,b2,_,h3.bk (o1 gm (Ne.symm n12))⟩,fun v A2 hq=> ?_⟩;obtain⟨o2,l2⟩:(∀k,k≠gm→A2.blk k=A1.blk k)∧∃o,A2.blk gm=some o:=hq;have hp2:A2.blk gp=A.blk gp:=by rw [o2 gp (Ne.symm n23),o1 gp (Ne.symm n13)]
 have hl2:∀k∈Lp,A2.blk k=A.blk k:=fun k hk=>by
  rw [o2 k fun e=>m2 (e▸hk),o1 k fun e=>m1 (e▸hk)]
 conv=>lhs;whnf
 refine(hD _).2 ⟨(parts,rows',Lp,gp,cp),⟨rfl,hparts,b3,h4.bk hp2,h5.bk hl2,List.nodup_cons.2 ⟨m3,hnd⟩⟩,fun v A3 hq=> ?_⟩;obtain⟨o3,l3⟩:jo A2 A3 (gp::Lp):=hq
 have hend:∀v,(jE (m+1)).post (aB.mk ⟨zxid,kind,ses,ah,xid,time,path,data,owner,ver,cver,tmo,err,cfg,mem⟩ parts,gd::gm::gp::Lp) [] A v A3:=fun _=>by
  constructor
  ·intro k hk
   simp only [List.mem_cons,not_or]at hk;obtain⟨k1,k2,k3,k4⟩:=hk;rw [o3 k (by simp only [List.mem_cons,not_or];exact⟨k3,k4⟩),o2 k k2,o1 k k1]
  ·intro k hk
   simp only [List.mem_cons]at hk;rcases hk with rfl|rfl|hk
   ·obtain⟨o,ho⟩:=l1
    exact⟨o,by rw [o3 k (by simp only [List.mem_cons,not_or];exact⟨n13,m1⟩),o2 k n12,ho]⟩
   ·obtain⟨o,ho⟩:=l2
    exact⟨o,by rw [o3 k (by simp only [List.mem_cons,not_or];exact⟨n23,m2⟩),ho]⟩
   ·exact l3 k (by simpa using hk)
 conv=>lhs;whnf
 exact(hD _).2 (hend (.bool false))
structure OdG where
 k:Nat
 A:aa
 L:List Nat
structure OdI(A0:aa)(g c:Nat)(ds:List aB)(rows:List (List Value))(L:List Nat)(s:OdG):Prop where
 le:s.k≤ds.length
 other:∀k,k∉L→s.A.blk k=A0.blk k
 live:∀k∈L,∃o,s.A.blk k=some o
 lents:aO s.A (ds.drop s.k) (rows.drop s.k) s.L
 sub:∀k∈s.L,k∈L
 nd:s.L.Nodup
def tO(A0:aa)(g c:Nat)(ds:List aB)(rows:List (List Value))(L:List Nat):dE:=
 { γ:=OdG,G:=OdI A0 g c ds rows L,keepS:= [0],keepB:= [],sl:=fun s=> [(2,.v (.int .i64 s.k))],bl:=fun _=> [],ar:=fun s=>s.A,mu:=fun s=>ds.length-s.k }
def tN(A0:aa)(g n c:Nat)(L:List Nat):dE:=
 { γ:=ObG,G:=fun s=>s.k≤n+12∧jo A0 s.A (g::L)∧∃cs,bV s.A g 16 32 (n+12) c cs,
   keepS:= [3],keepB:= [],sl:=fun s=> [(4,.v (.int .i64 s.k))],bl:=fun _=> [],ar:=fun s=>s.A,mu:=fun s=>n+12-s.k }
theorem vM(m:Nat)(ih:FOk Tryz.prog 17 (jE m)):FOk Tryz.prog 60 (kh m):=by
 refine aS mixed fun⟨ds,rows,L,g,c⟩ vs A hp=> ?_
 obtain⟨rfl,hsz,hdn,hL,hLs,hnd⟩:vs= [.slice (some ⟨g,0,none⟩) ds.length c]∧(∀d∈ds,dSz d<m)∧ds.length*184≤140737488351232∧bV A g 16 32 (ds.length+12) c (rows.flatten++fl 12)∧aO A ds rows L∧(g::L).Nodup:=hp
 have hC:aF Tryz.prog (bu [aE 17 (jE m),aE 90 l8] noC):=az (aj _) (fun x hx=>by
  simp only [List.mem_cons,List.not_mem_nil,or_false]at hx;rcases hx with rfl|rfl
  ·exact ai ih
  ·exact ai lq)
 refine⟨_,da Tryz.prog _ noL 60 [(60,0),(60,2)],60,hC,aH mixed hC (ak _) _ _,fun blk os out tape D hD=> ?_⟩
 have hw:IntKind.i64.wrap ((ds.length:Int)+12)=((ds.length+12:Nat):Int):=by
  rw [Sx.wrap_i64 (by omega) (by omega)];omega
 have hwn:(IntKind.i64.wrap ((ds.length:Int)+12)).toNat=ds.length+12:=by rw [hw,Int.toNat_natCast]
 obtain⟨hgL,hndL⟩:=List.nodup_cons.1 hnd;have hlr:=hLs.length;conv=>lhs;whnf
 refine(hD _).2 ⟨tO A g c ds rows L,⟨(⟨0,A,L⟩:OdG),⟨Nat.zero_le _,fun _ _=>rfl,fun k hk=>hLs.live k hk,hLs,fun _ h=>h,hndL⟩,⟨rfl,trivial⟩,trivial,rfl⟩,fun(s:OdG) hG=>⟨⟨trivial,trivial⟩,trivial,?_⟩⟩;obtain⟨k,As,L1⟩:=s;obtain⟨hk,hoth,hliv,hlents,hsub,hnd1⟩:OdI A g c ds rows L ⟨k,As,L1⟩:=hG;dsimp only at hk hoth hliv hlents hsub hnd1;have hLA:=hL.bk (hoth g hgL);conv=>lhs;whnf
 refine ab (fun hlt=> ?_) (fun hlt=> ?_);rotate_left
 ·have hlt:¬(k:Int)<(ds.length:Int):=hlt
  obtain rfl:k=ds.length:=by omega
  have hO0:jo A As (g::L):=⟨fun j hj=>hoth j fun h=>hj (List.mem_cons_of_mem _ h),fun j hj=>by
   rcases List.mem_cons.1 hj with rfl|hj
   ·obtain⟨cc,h1,_⟩:=hLA.at_
    exact⟨_,h1⟩
   ·exact hliv j hj⟩
  conv=>lhs;whnf
  refine cK (ma (k:=ds.length+12) hw hL.le) ?_;conv=>lhs;whnf
  refine(hD _).2 ⟨tN A g ds.length c L,⟨(⟨0,As⟩:ObG),⟨Nat.zero_le _,hO0,_,hLA⟩,⟨rfl,trivial⟩,trivial,rfl⟩,fun(s:ObG) hG=>⟨⟨trivial,trivial⟩,trivial,?_⟩⟩;obtain⟨j,At⟩:=s;obtain⟨hj,hO,cs1,hLt⟩:j≤ds.length+12∧jo A At (g::L)∧∃cs,bV At g 16 32 (ds.length+12) c cs:=hG;conv=>lhs;whnf
  refine ab (fun hlt2=> ?_) (fun hlt2=> ?_);rotate_left
  ·have hend:∀v,(kh m).post (ds,rows,L,g,c) [] A v At:=fun _=>hO
   conv=>lhs;whnf
   exact(hD _).2 (hend (.bool false))
  have hlt2:(j:Int)<(((IntKind.i64.wrap ((ds.length:Int)+12)).toNat:Nat):Int):=hlt2
  have hj2:j<ds.length+12:=by
   have h9:=hlt2;rw [hwn]at h9;omega
  have i0:(0:Int)≤(j:Int)∧(j:Int)<(((IntKind.i64.wrap ((ds.length:Int)+12)).toNat:Nat):Int):=⟨by omega,hlt2⟩;have hle:=hLt.le;have hk9:j<9223372036854775807:=by omega
  conv=>lhs;whnf
  refine(hD _).2 ⟨((2:Int),(j:Int)),rfl,fun v A9 hq=> ?_⟩;obtain⟨h9,hv⟩:A9=At∧v=bx (iU 2 j):=hq;subst h9;subst hv
  have hroom:A9.Room g ((0+bif c.beq (Int.toNat 0)then 0 else Int.toNat 0*16)+j*16) 16:=by
   rw [ph];refine hLt.room ?_;omega
  conv=>lhs;whnf
  repeat(first|refine aq i0 ?_|refine au hD rfl ?_
         conv=>lhs;whnf)
  refine(hD _).2 ⟨hroom,fun A6 hPut=> ?_⟩;have hPut:A9.Put A6 g ((0+bif c.beq (Int.toNat 0)then 0 else Int.toNat 0*16)+j*16) (iU 2 j):=hPut;rw [ph]at hPut;obtain⟨h6,ho6⟩:=hLt.over hPut (by show 0+j*16+16≤c*16;omega);obtain⟨cs6,hL6⟩:=bV.again hle h6
  have hO6:jo A A6 (g::L):=⟨fun q hq=>by
   rw [ho6 q fun e=>hq (by rw [e];exact List.mem_cons_self)];exact hO.other q hq,fun q hq=>by
   by_cases e:q=g
   ·subst e
    obtain⟨cc,h1,_⟩:=h6;exact⟨_,h1⟩
   ·rw [ho6 q e]
    exact hO.live q hq⟩
  conv=>lhs;whnf
  exact(hD _).2 ⟨(⟨j+1,A6⟩:ObG),⟨⟨hj2,hO6,cs6,hL6⟩,⟨av (k:=j) hk9,trivial⟩,trivial,rfl⟩,by show(ds.length+12)-(j+1)<(ds.length+12)-j;omega,⟨an rfl rfl,trivial⟩,trivial⟩
 have hlt:(k:Int)<(ds.length:Int):=hlt;have hkl:k<ds.length:=by omega
 have hkr:k<rows.length:=by omega
 have i0:(0:Int)≤(k:Int)∧(k:Int)<(ds.length:Int):=by omega
 have hk9:k<9223372036854775807:=by omega
 rw [List.drop_eq_getElem_cons hkl,List.drop_eq_getElem_cons hkr]at hlents;obtain⟨r,rs,La,Lb,hrr,hla,hlb,rfl⟩:=hlents.head;injection hrr with e1 e2
 subst e2
 have r1:As.rd g (0+k*16) 16=some r:=by
  have h1:=cU hLA.rd (i:=0) (m:=ds.length*16) (by omega);rw [List.drop_zero,List.take_left' (lx hLs)]at h1;rw [←e1];exact lU h1 hLs.lens k hkr (by omega)
 have hla0:=hla;obtain⟨p0,p1,p2,p3,p4,p5,p6,q7,u7,n7,p8,p9,p10,p11,p12,p13,q14,u14,n14,q15,u15,n15,hr⟩:=hla.ask.sK;subst hr;conv=>lhs;whnf
 repeat(first|refine aq i0 ?_|refine af r1 ?_
        conv=>lhs;whnf)
 refine(hD _).2 ⟨(ds[k],La),⟨_,rfl,hsz _ (List.getElem_mem _),hla0⟩,fun v A2 hq=> ?_⟩;obtain⟨o2,l2⟩:jo As A2 La:=hq;obtain⟨hna,hnb,hdis⟩:=List.nodup_append.1 hnd1
 have hG':OdI A g c ds rows L ⟨k+1,A2,Lb⟩:=by
  refine⟨hkl,fun q hq=> ?_,fun q hq=> ?_,?_,fun q hq=>hsub q (List.mem_append_right _ hq),hnb⟩
  ·show A2.blk q=A.blk q
   rw [o2 q fun h=>hq (hsub q (List.mem_append_left _ h))];exact hoth q hq
  ·show ∃o,A2.blk q=some o
   by_cases h:q∈La
   ·exact l2 q h
   ·rw [o2 q h]
    exact hliv q hq
  ·show aO A2 (ds.drop (k+1)) (rows.drop (k+1)) Lb
   exact hlb.bk fun q hq=>o2 q fun h=>hdis q h q hq rfl
 conv=>lhs;whnf
 exact(hD _).2 ⟨(⟨k+1,A2,Lb⟩:OdG),⟨hG',⟨av (k:=k) hk9,trivial⟩,trivial,rfl⟩,by show ds.length-(k+1)<ds.length-k;omega,⟨an rfl rfl,trivial⟩,trivial⟩
theorem nP:∀m,FOk Tryz.prog 17 (jE m)
 |0=>fun g vs A w _ hp=>by obtain⟨_,_,h,_⟩:=hp;omega
 |m+1=>xU m (vM m (nP m))
def overDeedS':aL:=⟨aB×List Nat,fun x vs A=>∃cs,vs= [bx cs]∧bH A x.1 cs x.2,
 fun x _ A _ A'=>jo A A' x.2⟩
theorem xT:FOk Tryz.prog 17 overDeedS':=fun d vs A w hA ⟨x,h1,h2⟩=>
 nP (dSz d.1+1) d vs A w hA ⟨x,h1,Nat.lt_succ_self _,h2⟩
end
end Go.Proofs.YtphigpccfbfnoaaGreatDoor
