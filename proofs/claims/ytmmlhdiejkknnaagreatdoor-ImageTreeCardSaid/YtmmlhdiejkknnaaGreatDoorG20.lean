/-
  Parts of the proof: AwA0 IpA CmA DtA QdP TrJa EqA TrN TrW TrX ItA LfA MuA DuA
-/
import Derived.Test.YtmmlhdiejkknnaaGreatDoorG06
import Derived.Test.YtmmlhdiejkknnaaGreatDoorG16
import Derived.Test.YtmmlhdiejkknnaaGreatDoorG12
import Derived.Laws.BytesArg
import Derived.Test.YtmmlhdiejkknnaaGreatDoorG14
import Derived.Test.YtmmlhdiejkknnaaGreatDoorG13
import Derived.Test.YtmmlhdiejkknnaaGreatDoorG17
import Derived.Test.YtmmlhdiejkknnaaGreatDoorG19
import Derived.ChangeArms
import Derived.DataReads
import Derived.SizedLaws
set_option maxRecDepth 100000
set_option maxHeartbeats 0
namespace Go.Proofs.YtmmlhdiejkknnaaGreatDoor
open Go.Sx Go.RowKit
noncomputable section
open Classical
theorem yq{P:Program}(hm:P.follows .mixedOrders=true){C:FuncId→Option CT}(hC:aI P C){Λ:fl}(hΛ:cZ P Λ){n:Nat}{f:FuncId}(hk:∀w:World,y8 P C Λ n f [] ⟨.e,0,DD w⟩ (fun r _=>isT r)=true):
  FOk P f ⟨Unit,fun _ vs _=>vs= [],fun _ _ A v A'=>A'=A∧v= .bool true⟩:=by
 intro _ vs A w hA hvs;simp only at hvs;subst hvs
 have R:aL (fun _=>⟨0,0,0⟩) ⟨.e,0,DD w⟩ w:=by
  refine⟨rfl,rfl,rfl,fun k o hk=>hk,fun b B hb=> ?_,fun b b' B B' hb=> ?_,fun b B hb=> ?_,fun k o hk=>(by cases hk),fun b B hb=> ?_,fun k o hk=>(by cases hk)⟩<;>(rw [T.dY]at hb;cases hb)
 refine(ov hm hC hΛ n f [] _ _ (hk w) _ w R (fun x hx=>by cases hx)).mono (fun v w' ⟨z,h',ρ',hz,hv,hl,R',_,_,hle⟩=> ?_) fun _ _ h=>h
 have old:∀k o,w.heap[k]? =some o→w'.heap[k]? =some o:=fun k o hk=>R'.mem k o (hle.1 k o hk)
 refine⟨A,⟨rfl,?_⟩,R'.os.trans hle.2.1,R'.out.trans hle.2.2.1,R'.tape.trans hle.2.2.2,fun k hk hlt=> ?_,fun k o hk=>old k o (hA k o hk),fun k o ho=> .inl ⟨o,ho⟩⟩
 ·rw [hv]
  cases z with
  |v x=>cases x with
   |bool b=>simp only [isT]at hz;subst hz;rfl
   |_=>simp [isT]at hz
  |_=>simp [isT]at hz
 ·have h0:w.heap[k]? =some w.heap[k]:=Array.getElem?_eq_getElem hlt
  rw [old k _ h0,h0]
def C1:FuncId→Option CT:=fun f=>bif Nat.beq f 73 then some (pB Tryz.prog C0 noL 400 73)else C0 f
theorem E5:aI Tryz.prog C1:=by
 intro f ct h args h0 K hk ρ w H hargs;unfold C1 at h
 cases h1:Nat.beq f 73 with
 |true=>
  rw [h1]at h;have:=Nat.eq_of_beq_eq_true h1;subst this;simp only [cond_true,Option.some.injEq]at h;subst h;exact mW mixed nf (az _) hk H hargs
 |false=>
  rw [h1]at h;exact nf f ct h args h0 K hk ρ w H hargs
theorem Cd(w:World):y8 Tryz.prog C1 noL 400 8 [] ⟨.e,0,DD w⟩ (fun r _=>isT r)=true:=by kernel_rfl
def EP:aY:=⟨Unit,fun _ vs _=>vs= [],fun _ _ A v A'=>A'=A∧v= .bool true⟩
theorem EO:FOk Tryz.prog 8 EP:=yq mixed E5 (az _) Cd
def jo:aY:=⟨List bC×List bC,fun g vs A=>∃x y,vs= [x,y]∧gq A x g.1∧gq A y g.2,fun g _ A v A'=>A'=A∧v= .bool (decide (g.1=g.2))⟩
theorem zp{A:aa}{g o n:Nat}{l:List bC}(h:A.rd g o (n*4)=some (eB l))(k:Nat)(hk:k<l.length)(hn:n=l.length):A.rd g (o+k*4) 4=some [.int .i64 l[k].id,.int .u8 l[k].role,.int .i64 l[k].weight,.int .i64 l[k].group]:=by
 have:=tp (rows:=l.map bC.cells) h (lB l) k (by simpa using hk) (by simpa using hn);simpa [bC.cells]using this
theorem pY:FOk Tryz.prog 77 jo:=by
 refine bG mixed fun⟨ls,bs⟩ vs A hp=> ?_
 simp only [jo]at hp;obtain⟨x,y,rfl,⟨⟨ao,c,rfl,hc,_,ha1,ha2,ha3⟩,hxl⟩,⟨bo,d,rfl,hd,_,hb1,hb2,hb3⟩,hyl⟩:=hp;refine⟨noC,ic Tryz.prog noC noL 60 [(77,0)],60,aA _,bg mixed (aA _) (az _) _ _,fun blk os out tape D hD=> ?_⟩;conv=>lhs;whnf
 refine bw (fun hb=> ?_) (fun hb=> ?_)<;>(conv=>lhs;whnf)
 ·refine(hD _).2 ⟨rfl,?_⟩
  have:ls≠bs:=fun e=>by subst e;simp at hb
  simp [this]
 ·have hlen:ls.length=bs.length:=by
    have:(ls.length:Int)=bs.length:=by simpa using hb
    omega
  refine(hD _).2 ⟨cnt A 5 [0,1] [] ls.length fun k=>ls.take k=bs.take k,⟨(0:Nat),⟨Nat.zero_le _,rfl⟩,⟨rfl,trivial⟩,trivial,rfl⟩,fun(k:Nat) hk=>⟨⟨trivial,trivial⟩,trivial,?_⟩⟩;simp only [cnt]at hk;conv=>lhs;whnf
  refine af (fun hlt=> ?_) (fun hb=> ?_)<;>(conv=>lhs;whnf)
  ·have hlt:k<ls.length:=by omega
   obtain⟨g,o,rfl,hra⟩:=Sl.at_ hc ha1 ha2 ha3 (by omega);obtain⟨g',o',rfl,hrb⟩:=Sl.at_ hd hb1 hb2 hb3 (by omega);conv=>lhs;whnf
   refine jY (fun _ _=> ?_) (fun h=>by omega);conv=>lhs;whnf
   refine ai (zp hra k hlt rfl) ?_;conv=>lhs;whnf
   refine jY (fun _ _=> ?_) (fun h=>by omega);conv=>lhs;whnf
   refine ai (zp hrb k (by omega) rfl) ?_;conv=>lhs;whnf
   refine aj hD (by kernel_rfl) ?_;conv=>lhs;whnf
   refine bw (fun hb=> ?_) (fun hb=> ?_)<;>(conv=>lhs;whnf)
   ·refine(hD _).2 ⟨rfl,?_⟩
    have:ls≠bs:=fun e=>by subst e;simp at hb
    simp [this]
   ·have he:ls[k]=bs[k]:=by
      simp only [Bool.not_eq_false',Bool.and_eq_true,decide_eq_true_eq,Bool.and_true]at hb;obtain⟨h1,h2,h3,h4⟩:=hb
      cases hl:ls[k];cases hr:bs[k]
      simp only [hl,hr]at h1 h2 h3 h4;subst h1 h2 h3 h4;rfl
    refine(hD _).2 ⟨(k+1:Nat),⟨⟨by omega,?_⟩,⟨bf (by omega),trivial⟩,trivial,rfl⟩,?_,⟨rfl,rfl,trivial⟩,trivial⟩
    ·show ls.take (k+1)=bs.take (k+1)
     rw [List.take_succ_eq_append_getElem hlt,List.take_succ_eq_append_getElem (by omega),hk.2,he]
    ·show ls.length-(k+1)<ls.length-k
     omega
  ·refine(hD _).2 ⟨rfl,?_⟩
   have h1:k=ls.length:=by omega
   have:ls=bs:=by
    have:=hk.2;rw [h1,List.take_length,hlen,List.take_length]at this;exact this
   simp [this]
theorem vj{ds:List aU}{least most last:Int}(h:gZ ds least most last):(ds.length:Int)≤most:=h.2.1
theorem ux(T:aF)(d:aU):(aC T d).nodes.length≤T.nodes.length+500:=by
 rw [aC]
 split
 ·rename_i hr
  rw [ou,cC]
  split
  ·have:=qY T d.h d.h.zxid d.h.time;omega
  ·split
   ·show T.nodes.length≤_;omega
   ·split
    ·rename_i h5
     have h1:=nz d.h.zxid d.h.time d.parts ⟨T.nodes,dQ d.h.owner T.seats⟩;have h2:=vj (hr.2.2.2.2.2.2.2.1 h5);have h3:(⟨T.nodes,dQ d.h.owner T.seats⟩:aF).nodes.length=T.nodes.length:=rfl;omega
    ·split
     ·rename_i h8
      have h1:=nz d.h.zxid d.h.time d.parts T;have h2:=vj (hr.2.2.2.2.2.2.2.2.2 h8);omega
     ·omega
 ·omega
theorem tq:∀(ds:List aU) (T:aF),(bN T ds).nodes.length≤T.nodes.length+ds.length*500∧(bN T ds).seats.length≤T.seats.length+ds.length*2
 | [],_=>⟨by show _≤_;simp [bN],by simp [bN]⟩
 |d::ds,T=>by
  have h1:=tq ds (aC T d);have h2:=ux T d;have h3:=yO T d;have e:bN T (d::ds)=bN (aC T d) ds:=rfl;rw [e,List.length_cons];omega
structure SeG where
 k:Nat
 A:aa
def seatInv(A2 B:aa)(O:Nat→Prop)(t m s:Nat)(ns:List (ByteArray×aX))(E:List (ByteArray×Nat×aX))(l:List bn):fj:=
 { γ:=SeG,G:=fun g=>g.k≤l.length∧cF g.A B O t ⟨ns,bz (l.take g.k)⟩ m s E∧∀b,b≠s→g.A.blk b=A2.blk b,
   keepS:= [0,13,14],keepB:= [],sl:=fun g=> [(15,.v (.int .i64 g.k))],bl:=fun _=> [],ar:=fun g=>g.A,mu:=fun g=>l.length-g.k }
def CH:aY:=⟨TG×List bn×aa,fun g vs A=>∃x,vs= [.pointer (some ⟨g.1.t,0,none⟩),x]∧ba A g.1.B g.1.O g.1.t g.1.T∧SlS g.2.2 x g.2.1∧Aside A g.2.2 g.1.O,
 fun g _ A v A'=>v= .tuple #[]∧aN A g.1.B g.1.O g.1.t ⟨g.1.T.nodes,bz g.2.1⟩ A'⟩
theorem seat_ok:FOk Tryz.prog 18 CH:=by
 refine bG mixed fun⟨⟨T,B,O,t⟩,l,C⟩ vs A hp=> ?_
 obtain⟨x,rfl,⟨m,s,E,h⟩,⟨⟨ao,c,rfl,hc,_,ha1,ha2,ha3⟩,hll⟩,hAs⟩:∃x,vs= [.pointer (some ⟨t,0,none⟩),x]∧ba A B O t T∧SlS C x l∧Aside A C O:=hp;refine⟨noC,ic Tryz.prog noC noL 60 [(18,0)],60,aA _,bg mixed (aA _) (az _) _ _,fun blk os out tape D hD=> ?_⟩;have htop0:A.rd t 0 1=some [.map (some m)]:=h.top.rd (o:=0) (n:=1) (by show 0+1≤2;omega);conv=>lhs;whnf
 repeat(first|refine ai htop0 ?_|refine aj hD rfl ?_
        conv=>lhs;whnf)
 refine(hD _).2 fun s' A1 hs' hA1 hM1=> ?_
 have hs':A.blk s'=none:=hs';have hA1:∀k,k≠s'→A1.blk k=A.blk k:=hA1;obtain⟨ot,hot⟩:=h.live t h.own.1;have ts:t≠s':=fun e=>by rw [e,hs']at hot;cases hot
 have htop1:aE A1 t [.map (some m),.map (some s)]:=h.top.sub fun o ho=>by rw [hA1 t ts];exact ho
 conv=>lhs;whnf
 refine(hD _).2 ⟨htop1.room (o:=1) (n:=1) (by show 1+1≤2;omega),fun A2 hP2=> ?_⟩;have hP2:A1.Put A2 t 1 [.map (some s')]:=hP2;have htop2:aE A2 t [.map (some m),.map (some s')]:=htop1.put hP2 (by show 1+1≤2;omega);have hA2:∀k,k≠t→A2.blk k=A1.blk k:=hP2.other
 have live_ne:∀ {k:Nat},O k→k≠s':=fun {k} hk e=>by
  obtain⟨o,ho⟩:=h.live k hk;rw [e,hs']at ho;cases ho
 have hold:∀k,k≠t→k≠s'→A2.blk k=A.blk k:=fun k h1 h2=>by rw [hA2 k h1,hA1 k h2]
 have hBs:B.blk s'=none:=by
  cases hB:B.blk s' with
  |none=>rfl
  |some o=>have:=h.sub _ _ hB;rw [hs']at this;cases this
 have hR2:cF A2 B (fun k=>O k∨k=s') t ⟨T.nodes,bz (l.take 0)⟩ m s' E:=
  { nodes:=h.nodes
    top:=htop2
    nmap:=h.nmap.sub fun o ho=>by rw [hold m (Ne.symm h.pO.1) (live_ne h.own.2.1)];exact ho
    smap:=hM1.sub fun o ho=>by rw [hA2 s' (Ne.symm ts)];exact ho
    cells:=fun e he=>(h.cells e he).mono (hold _ (h.ne.2 e he) (live_ne (h.own.2.2.2 e he))) (aa.Sub.refl _)
    keys:=h.keys
    ptrs:=h.ptrs
    skeys:=by simp [bz]
    sub:=fun k o hk=>by
     rw [hold k (fun e=>by subst e;rw [h.off _ h.own.1]at hk;cases hk) (fun e=>by subst e;rw [hBs]at hk;cases hk)];exact h.sub k o hk
    own:=⟨.inl h.own.1,.inl h.own.2.1,.inr rfl,fun e he=> .inl (h.own.2.2.2 e he)⟩
    off:=fun k hk=>by
     rcases hk with hk|rfl
     ·exact h.off k hk
     ·exact hBs
    live:=fun k hk=>by
     by_cases e:k=t
     ·subst e;exact htop2.dom
     ·rcases hk with hk|rfl
      ·rw [hold k e (live_ne hk)];exact h.live k hk
      ·rw [hA2 _ e]
       obtain⟨es,cl,h1,_⟩:=hM1;exact⟨_,h1⟩
    ne:=⟨live_ne h.own.2.1,h.ne.2⟩ }
 have hend:∀Ak,cF Ak B (fun k=>O k∨k=s') t ⟨T.nodes,bz l⟩ m s' E→(∀b,b≠s'→Ak.blk b=A2.blk b)→CH.post (⟨T,B,O,t⟩,l,C) [.pointer (some ⟨t,0,none⟩),.slice ao l.length c] A (.tuple #[]) Ak:=fun Ak hR hk=>by
  refine⟨rfl,B,_,⟨m,s',E,hR⟩,fun k o hk' hO=> ?_,fun k hn=> ?_,fun k hO=> ?_,aa.Sub.refl _,fun k o hb=> .inl hb⟩
  ·have n1:k≠t:=fun e=>hO (e▸h.own.1)
   have n2:k≠s':=fun e=>by rw [e,hs']at hk';cases hk'
   rw [hk k n2,hold k n1 n2];exact hk'
  ·by_cases n2:k=s'
   ·rw [n2];exact hs'
   ·rw [hk k n2]at hn
    by_cases n1:k=t
    ·subst n1
     obtain⟨o,ho⟩:=htop2.dom;rw [ho]at hn;cases hn
    ·rw [hold k n1 n2]at hn;exact hn
  ·rcases hO with hO|rfl
   ·exact .inl hO
   ·exact .inr hs'
 conv=>lhs;whnf
 refine(hD _).2 ⟨seatInv A2 B (fun k=>O k∨k=s') t m s' T.nodes E l,⟨(⟨0,A2⟩:SeG),⟨Nat.zero_le _,hR2,fun _ _=>rfl⟩,⟨rfl,trivial⟩,trivial,rfl⟩,fun(sg:SeG) hG=>⟨⟨trivial,trivial⟩,trivial,?_⟩⟩;obtain⟨k,Ak⟩:=sg;obtain⟨hk,hR,hkeep⟩:k≤l.length∧cF Ak B (fun k=>O k∨k=s') t ⟨T.nodes,bz (l.take k)⟩ m s' E∧∀b,b≠s'→Ak.blk b=A2.blk b:=hG;conv=>lhs;whnf
 refine af (fun hlt=> ?_) (fun hlt=> ?_)<;>(conv=>lhs;whnf)
 ·have hlt:k<l.length:=by
    have hlt:(k:Int)<(l.length:Int):=hlt;omega
  obtain⟨g,o,rfl,hra⟩:=Sl.at_ hc ha1 ha2 ha3 (by omega);have hrow:=eI (enc:=cz) (fun _=>rfl) hra k hlt rfl
  have hCk:C.Sub Ak:=fun b o hb=>by
   have h1:=hAs.1 b o hb;have n2:b≠s':=fun e=>by rw [e,hs']at h1;cases h1
   rw [hkeep b n2,hold b (fun e=>hAs.2 b o hb (e▸h.own.1)) n2];exact h1
  have hrow:=bI hCk hrow;obtain⟨⟨sa,sb,sc⟩,hsv⟩:∃x,x=l[k]:=⟨_,rfl⟩;rw [←hsv]at hrow;have hrow:Ak.rd g (o+k*3) 3=some [.int .i64 sa,.int .i64 sb,.int .i64 sc]:=hrow;have htk:l.take (k+1)=l.take k++ [⟨sa,sb,sc⟩]:=by rw [List.take_succ_eq_append_getElem hlt,←hsv]
  conv=>lhs;whnf
  refine jY (fun _ _=> ?_) (fun h=>by omega);conv=>lhs;whnf
  refine ai hrow ?_;conv=>lhs;whnf
  have htopk:Ak.rd t 1 1=some [.map (some s')]:=hR.top.rd (o:=1) (n:=1) (by show 1+1≤2;omega);refine af (fun h1=> ?_) (fun h1=> ?_)<;>(conv=>lhs;whnf)
  ·have hone:bz (l.take (k+1))=bS sa ⟨sa,sb,sc⟩ (bz (l.take k)):=by
     rw [htk,mw,eF,if_neg (by show ¬sa<1;omega)]
   repeat(first|refine ai htopk ?_|refine aj hD rfl ?_
          conv=>lhs;whnf)
   refine(hD _).2 ⟨_,hR.smap,cN eh sa _,fun A3 hm3 ho3=> ?_⟩;have hm3:bH A3 s' (Go.Sx.dV (.int .i64 sa) (eh ⟨sa,sb,sc⟩) (iG eh (bz (l.take k)))):=hm3;have ho3:∀b,b≠s'→A3.blk b=Ak.blk b:=ho3;rw [eD]at hm3;have hR3:=hR.sit ho3 hm3 (dC hR.skeys);conv=>lhs;whnf
   exact(hD _).2 ⟨(⟨k+1,A3⟩:SeG),⟨⟨by show k+1≤l.length;omega,by rw [hone];exact hR3,fun b hb=>(ho3 b hb).trans (hkeep b hb)⟩,⟨bf (k:=k) (by omega),trivial⟩,trivial,rfl⟩,by show l.length-(k+1)<l.length-k;omega,⟨rfl,rfl,rfl,trivial⟩,trivial⟩
  ·have hone:bz (l.take (k+1))=bz (l.take k):=by
     rw [htk,mw,eF,if_pos (by show sa<1;omega)]
   exact(hD _).2 ⟨(⟨k+1,Ak⟩:SeG),⟨⟨by show k+1≤l.length;omega,by rw [hone];exact hR,hkeep⟩,⟨bf (k:=k) (by omega),trivial⟩,trivial,rfl⟩,by show l.length-(k+1)<l.length-k;omega,⟨rfl,rfl,rfl,trivial⟩,trivial⟩
 ·have e:k=l.length:=by
    have hlt:¬(k:Int)<(l.length:Int):=hlt;omega
  subst e;rw [List.take_length]at hR;exact(hD _).2 (hend Ak hR hkeep)
end
end Go.Proofs.YtmmlhdiejkknnaaGreatDoor
namespace Go.Proofs.YtmmlhdiejkknnaaGreatDoor
open Go.Sx Go.RowKit
noncomputable section
theorem qX{A:aa}{w:World}(hA:∀k o,A.blk k=some o→w.heap[k]? =some o){v:Value}{bs:List UInt8}(h:SlB A v bs):(convert 28 9 v).run Tryz.prog w= .ok (.string ⟨bs.toArray⟩) w:=by
 obtain⟨⟨ao,c,rfl,hc,_,h1,h2,h3⟩,_⟩:=h;rcases Nat.eq_zero_or_pos bs.length with hn|hn
 ·obtain rfl:bs= []:=List.length_eq_zero_iff.1 hn
  rw [show([]:List UInt8).length=0 from rfl,run_convert_bytes_string w 28 9 5 _ 0 c Tryz.underlying28 Tryz.underlying5 Tryz.underlying9]
  cases ao<;>simp [Conv.bytesToString,loadCells]
  all_goals rfl
 ·obtain⟨g,o,rfl,hr⟩:=Sl.at_ hc h1 h2 h3 hn
  have hx:(bs.map fun b=>(b.toNat:Int)).length=bs.length:=List.length_map _
  have hcell:∀i,i<bs.length→w.cell? ⟨g,o+i,none⟩=some (.int .u8 ((bs.map fun b=>(b.toNat:Int)).getD i 0)):=fun i hi=>by
   have h9:=jD hr i hi rfl;rw [A.rdeq]at h9;unfold xz at h9
   split at h9
   ·rename_i cc tt fz hb
    split at h9
    ·injection h9 with h9
     unfold World.cell?;rw [hA _ _ hb];simp only [Option.isSome_none,Bool.false_eq_true,if_false];have h10:((cc.toList.drop (o+i*1)).take 1)[0]? =([bv bs[i]])[0]? :=by rw [h9]
     rw [List.getElem?_take,if_pos (by omega),List.getElem?_drop,Nat.mul_one,Nat.add_zero]at h10;rw [←Array.getElem?_toList,h10];simp [bv,hi]
    ·cases h9
   ·cases h9
  have:=run_convert_bytes_arg (P:=Tryz.prog) w 28 5 Tryz.underlying28 Tryz.underlying5 g o bs.length c _ hx hcell 9 Tryz.underlying9;rw [this]
  have e:strOfNums (bs.map fun b=>(b.toNat:Int))=⟨bs.toArray⟩:=by
   have hm:∀l:List UInt8,l.map ((fun n:Int=>UInt8.ofNat n.toNat) ∘ fun b:UInt8=>(b.toNat:Int))=l:=fun l=>by
    induction l with
    |nil=>rfl
    |cons b l ih=>rw [List.map_cons,ih,Function.comp_apply,Int.toNat_natCast,UInt8.ofNat_toNat]
   unfold strOfNums;rw [List.map_map,hm]
  rw [e]
theorem BE(v1 v2:Value)(t1 t2:ByteArray)(w:World)(h1:(convert 28 9 v1).run Tryz.prog w= .ok (.string t1) w)(h2:(convert 28 9 v2).run Tryz.prog w= .ok (.string t2) w):
  Calls Tryz.prog 79 #[v1,v2] w fun e w'=>e= .returned (.bool (t1.toList==t2.toList))∧w'=w:=by
 go_enter Tryz.func79,Tryz.ntmps79
 go_wp2
 go_ret
 exact⟨rfl,rfl⟩
def equalS:aY:=⟨List UInt8×List UInt8,fun g vs A=>∃x y,vs= [x,y]∧SlB A x g.1∧SlB A y g.2,fun g _ A v A'=>A'=A∧v= .bool (decide (g.1=g.2))⟩
theorem Ef:FOk Tryz.prog 79 equalS:=by
 intro⟨xs,ys⟩ vs A w hA hp;obtain⟨x,y,rfl,hx,hy⟩:∃x y,vs= [x,y]∧SlB A x xs∧SlB A y ys:=hp;refine eE Tryz.func79 ⟨by kernel_rfl,by kernel_rfl⟩ ?_;intro cs;obtain⟨e,w',fr,⟨k1,k2⟩,k3⟩:=BE x y _ _ w (qX hA hx) (qX hA hy) cs;subst k2;refine⟨e,w',fr,⟨_,k1,A,⟨rfl,?_⟩,rfl,rfl,rfl,fun _ _ _=>rfl,hA,fun k o ho=> .inl ⟨o,ho⟩⟩,k3⟩;congr 1;rw [Lib.toList_data,Lib.toList_data]
 by_cases h:xs=ys
 ·subst h;simp
 ·simp [h]
end
end Go.Proofs.YtmmlhdiejkknnaaGreatDoor
namespace Go.Proofs.YtmmlhdiejkknnaaGreatDoor
open Go.Sx Go.RowKit
noncomputable section
open Classical
def nr:aY:=⟨(aO×Value)×(aO×Value),fun g vs A=>vs= [.agg (cV g.1).toArray,.agg (cV g.2).toArray]∧SlB A g.1.2 g.1.1.data∧SlB A g.2.2 g.2.1.data,fun g _ A v A'=>A'=A∧v= .bool (decide (g.1.1=g.2.1))⟩
theorem uS:FOk Tryz.prog 78 nr:=by
 refine bG mixed fun⟨⟨⟨p,d,⟨s1,s2,s3,s4,s5,s6,s7,s8,s9,s10⟩⟩,vd⟩,⟨⟨q,e,⟨u1,u2,u3,u4,u5,u6,u7,u8,u9,u10⟩⟩,ve⟩⟩ vs A hp=> ?_
 obtain⟨rfl,hd,he⟩:vs= [.agg #[.string p,vd,.int .i64 s1,.int .i64 s2,.int .i64 s3,.int .i64 s4,.int .i64 s5,.int .i64 s6,.int .i64 s7,.int .i64 s8,.int .i64 s9,.int .i64 s10],.agg #[.string q,ve,.int .i64 u1,.int .i64 u2,.int .i64 u3,.int .i64 u4,.int .i64 u5,.int .i64 u6,.int .i64 u7,.int .i64 u8,.int .i64 u9,.int .i64 u10]]∧SlB A vd d∧SlB A ve e:=hp;obtain⟨ad,cd,rfl⟩:=hd.1.form;obtain⟨ae,ce,rfl⟩:=he.1.form
 have hCt:aI Tryz.prog (bQ [aM 79 equalS] noC):=aD (aA _) (fun x hx=>by
  simp only [List.mem_singleton]at hx
  subst hx;exact au Ef)
 refine⟨_,noL,60,hCt,az _,fun blk os out tape D hD=> ?_⟩
 have hend:∀b:Bool,(b=true↔((p=q∧((s1=u1∧s2=u2∧s3=u3∧s4=u4∧s5=u5)∧s6=u6∧s7=u7∧s8=u8∧s9=u9∧s10=u10))∧d=e))→nr.post ⟨⟨⟨p,d,⟨s1,s2,s3,s4,s5,s6,s7,s8,s9,s10⟩⟩,.slice ad d.length cd⟩,⟨⟨q,e,⟨u1,u2,u3,u4,u5,u6,u7,u8,u9,u10⟩⟩,.slice ae e.length ce⟩⟩ [] A (.bool b) A:=fun b hb=>by
  refine⟨rfl,?_⟩;congr 1;rw [Bool.eq_iff_iff,hb,decide_eq_true_iff];simp only [aO.mk.injEq,ec.mk.injEq];constructor
  ·rintro⟨⟨h1,⟨h2,h3,h4,h5,h6⟩,h7⟩,h8⟩
   exact⟨h1,h8,h2,h3,h4,h5,h6,h7⟩
  ·rintro⟨h1,h8,h2,h3,h4,h5,h6,h7⟩
   exact⟨⟨h1,⟨h2,h3,h4,h5,h6⟩,h7⟩,h8⟩
 conv=>lhs;whnf
 refine bw (fun hb=> ?_) (fun hb=> ?_)<;>(conv=>lhs;whnf)
 rotate_left
 ·exact(hD _).2 (hend false ⟨fun h=>(by cases h),fun h=>absurd (congrArg (fun x:ByteArray=>x.data.toList) h.1.1) (cr.1 hb)⟩)
 have hpq:p=q:=ln (bu.1 hb);refine aj hD (by kernel_rfl) ?_;conv=>lhs;whnf
 refine bw (fun h1=> ?_) (fun h1=> ?_)<;>(conv=>lhs;whnf)
 rotate_left
 ·exact(hD _).2 (hend false ⟨fun h=>(by cases h),fun h=>(by
   obtain⟨⟨_,⟨rfl,rfl,rfl,rfl,rfl⟩,rfl,rfl,rfl,rfl,rfl⟩,_⟩:=h
   simp at h1)⟩)
 refine(hD _).2 ⟨(d,e),⟨_,_,rfl,hd,he⟩,fun v A' hq=> ?_⟩;obtain⟨hA,rfl⟩:A=A'∧v= .bool (decide (d=e)):=⟨hq.1.symm,hq.2⟩;subst hA
 have hall:(s1=u1∧s2=u2∧s3=u3∧s4=u4∧s5=u5)∧s6=u6∧s7=u7∧s8=u8∧s9=u9∧s10=u10:=by
  simp at h1;omega
 conv=>lhs;whnf
 exact(hD _).2 (hend _ (by show decide (d=e)=true↔_;rw [decide_eq_true_iff];exact⟨fun h=>⟨⟨hpq,hall⟩,h⟩,fun h=>h.2⟩))
def zL:Value:= .func (.func 78) #[] #[]
def qV:aY:=⟨List (aO×Value)×List (aO×Value),fun g vs A=>∃x y,vs= [x,y,zL]∧eL A x g.1∧eL A y g.2∧g.1.length≤1000000∧g.2.length≤1000000,fun g _ A v A'=>A'=A∧v= .bool (decide (g.1.map (·.1)=g.2.map (·.1)))⟩
theorem yu:FOk Tryz.prog 80 qV:=by
 refine bG mixed fun⟨ls,bs⟩ vs A hp=> ?_
 obtain⟨x,y,rfl,⟨⟨ao,c,rfl,hc,_,ha1,ha2,ha3⟩,hda⟩,⟨⟨bo,d,rfl,hd,_,hb1,hb2,hb3⟩,hdb⟩,hl1,hl2⟩:∃x y,vs= [x,y,zL]∧eL A x ls∧eL A y bs∧ls.length≤1000000∧bs.length≤1000000:=hp
 have hCt:aI Tryz.prog (bQ [aM 78 nr] noC):=aD (aA _) (fun x hx=>by
  simp only [List.mem_singleton]at hx
  subst hx;exact au uS)
 refine⟨_,ic Tryz.prog _ noL 60 [(80,0)],60,hCt,bg mixed hCt (az _) _ _,fun blk os out tape D hD=> ?_⟩
 have hend:∀b:Bool,(b=true↔ls.map (·.1)=bs.map (·.1))→qV.post (ls,bs) [] A (.bool b) A:=fun b hb=>by
  refine⟨rfl,?_⟩;congr 1;rw [Bool.eq_iff_iff,hb,decide_eq_true_iff]
 conv=>lhs;whnf
 refine bw (fun hb=> ?_) (fun hb=> ?_)<;>(conv=>lhs;whnf)
 ·refine(hD _).2 (hend false ⟨fun h=>(by cases h),fun e=> ?_⟩)
  have e1:=congrArg List.length e;simp at e1;rw [e1]at hb;simp at hb
 ·have hlen:ls.length=bs.length:=by
    have:(ls.length:Int)=bs.length:=by simpa using hb
    omega
  refine(hD _).2 ⟨cnt A 17 [1,2,15,16] [] ls.length fun k=>(ls.take k).map (·.1)=(bs.take k).map (·.1),⟨(0:Nat),⟨Nat.zero_le _,rfl⟩,⟨rfl,trivial⟩,trivial,rfl⟩,fun(k:Nat) hk=>⟨⟨trivial,trivial⟩,trivial,?_⟩⟩;simp only [cnt]at hk;conv=>lhs;whnf
  refine af (fun hlt=> ?_) (fun hlt=> ?_)<;>(conv=>lhs;whnf)
  ·have hkl:k<ls.length:=by omega
   obtain⟨g,o,rfl,hra⟩:=Sl.at_ hc ha1 ha2 ha3 (by omega);obtain⟨g',o',rfl,hrb⟩:=Sl.at_ hd hb1 hb2 hb3 (by omega);have r1:=eI (enc:=cV) (fun _=>rfl) hra k hkl rfl;have r2:=eI (enc:=cV) (fun _=>rfl) hrb k (by omega) rfl;obtain⟨⟨⟨p1,e1,⟨a1,a2,a3,a4,a5,a6,a7,a8,a9,a10⟩⟩,v1⟩,hn1⟩:∃n1,n1=ls[k]:=⟨_,rfl⟩;obtain⟨⟨⟨p2,e2,⟨b1,b2,b3,b4,b5,b6,b7,b8,b9,b10⟩⟩,v2⟩,hn2⟩:∃n2,n2=bs[k]:=⟨_,rfl⟩;have d1:SlB A v1 e1:=hda (((⟨p1,e1,⟨a1,a2,a3,a4,a5,a6,a7,a8,a9,a10⟩⟩:aO),v1)) (by rw [hn1];exact List.getElem_mem _);have d2:SlB A v2 e2:=hdb (((⟨p2,e2,⟨b1,b2,b3,b4,b5,b6,b7,b8,b9,b10⟩⟩:aO),v2)) (by rw [hn2];exact List.getElem_mem _);have t1:(ls.take (k+1)).map (·.1)=(ls.take k).map (·.1)++ [(⟨p1,e1,⟨a1,a2,a3,a4,a5,a6,a7,a8,a9,a10⟩⟩:aO)]:=by rw [List.take_succ_eq_append_getElem hkl,List.map_append,←hn1];rfl
   have t2:(bs.take (k+1)).map (·.1)=(bs.take k).map (·.1)++ [(⟨p2,e2,⟨b1,b2,b3,b4,b5,b6,b7,b8,b9,b10⟩⟩:aO)]:=by rw [List.take_succ_eq_append_getElem (by omega),List.map_append,←hn2];rfl
   rw [←hn1]at r1;rw [←hn2]at r2;obtain⟨x1,c1,rfl⟩:=d1.1.form;obtain⟨x2,c2,rfl⟩:=d2.1.form;have r1:A.rd g (o+k*12) 12=some [.string p1,.slice x1 e1.length c1,.int .i64 a1,.int .i64 a2,.int .i64 a3,.int .i64 a4,.int .i64 a5,.int .i64 a6,.int .i64 a7,.int .i64 a8,.int .i64 a9,.int .i64 a10]:=r1;have r2:A.rd g' (o'+k*12) 12=some [.string p2,.slice x2 e2.length c2,.int .i64 b1,.int .i64 b2,.int .i64 b3,.int .i64 b4,.int .i64 b5,.int .i64 b6,.int .i64 b7,.int .i64 b8,.int .i64 b9,.int .i64 b10]:=r2;conv=>lhs;whnf
   refine cO ⟨by show(0:Int)≤(k:Int);omega,by show(k:Int)<(ls.length:Int);omega⟩ ?_;conv=>lhs;whnf
   refine ai r1 ?_;conv=>lhs;whnf
   refine cO ⟨by show(0:Int)≤(k:Int);omega,by show(k:Int)<(bs.length:Int);omega⟩ ?_;conv=>lhs;whnf
   refine ai r2 ?_;conv=>lhs;whnf
   refine(hD _).2 ⟨(((⟨p1,e1,⟨a1,a2,a3,a4,a5,a6,a7,a8,a9,a10⟩⟩:aO),.slice x1 e1.length c1),((⟨p2,e2,⟨b1,b2,b3,b4,b5,b6,b7,b8,b9,b10⟩⟩:aO),.slice x2 e2.length c2)),⟨rfl,d1,d2⟩,fun v A' hq=> ?_⟩;obtain⟨hA,rfl⟩:A=A'∧v= .bool (decide ((⟨p1,e1,⟨a1,a2,a3,a4,a5,a6,a7,a8,a9,a10⟩⟩:aO)=(⟨p2,e2,⟨b1,b2,b3,b4,b5,b6,b7,b8,b9,b10⟩⟩:aO))):=⟨hq.1.symm,hq.2⟩;subst hA;conv=>lhs;whnf
   refine bw (fun he=> ?_) (fun he=> ?_)<;>(conv=>lhs;whnf)
   ·refine(hD _).2 (hend false ⟨fun h=>(by cases h),fun e=> ?_⟩)
    have e3:=congrArg (List.take (k+1)) e;rw [←List.map_take,←List.map_take,t1,t2,hk.2]at e3;have e4:=List.append_cancel_left e3;injection e4 with e4
    simp [e4]at he
   ·have he:(⟨p1,e1,⟨a1,a2,a3,a4,a5,a6,a7,a8,a9,a10⟩⟩:aO)=(⟨p2,e2,⟨b1,b2,b3,b4,b5,b6,b7,b8,b9,b10⟩⟩:aO):=by simpa using he
    refine(hD _).2 ⟨(k+1:Nat),⟨⟨by omega,?_⟩,⟨bf (by omega),trivial⟩,trivial,rfl⟩,?_,⟨rfl,rfl,rfl,rfl,trivial⟩,trivial⟩
    ·show(ls.take (k+1)).map (·.1)=(bs.take (k+1)).map (·.1)
     rw [t1,t2,hk.2,he]
    ·show ls.length-(k+1)<ls.length-k
     omega
  ·have e:k=ls.length:=by omega
   refine(hD _).2 (hend true ⟨fun _=> ?_,fun _=>rfl⟩);have h:=hk.2;rw [e,List.take_length,hlen,List.take_length]at h;exact h
def ub:aY:=⟨List bn×List bn,fun g vs A=>∃x y,vs= [x,y]∧Sl A 3 g.1.length x (g.1.flatMap cz)∧Sl A 3 g.2.length y (g.2.flatMap cz)∧g.1.length≤1000000∧g.2.length≤1000000,fun g _ A v A'=>A'=A∧v= .bool (decide (g.1=g.2))⟩
theorem BF:FOk Tryz.prog 81 ub:=by
 refine bG mixed fun⟨ls,bs⟩ vs A hp=> ?_
 obtain⟨x,y,rfl,⟨ao,c,rfl,hc,_,ha1,ha2,ha3⟩,⟨bo,d,rfl,hd,_,hb1,hb2,hb3⟩,hl1,hl2⟩:∃x y,vs= [x,y]∧Sl A 3 ls.length x (ls.flatMap cz)∧Sl A 3 bs.length y (bs.flatMap cz)∧ls.length≤1000000∧bs.length≤1000000:=hp;refine⟨noC,ic Tryz.prog noC noL 60 [(81,0)],60,aA _,bg mixed (aA _) (az _) _ _,fun blk os out tape D hD=> ?_⟩
 have hend:∀b:Bool,(b=true↔ls=bs)→ub.post (ls,bs) [] A (.bool b) A:=fun b hb=>by
  refine⟨rfl,?_⟩;congr 1;rw [Bool.eq_iff_iff,hb,decide_eq_true_iff]
 conv=>lhs;whnf
 refine bw (fun hb=> ?_) (fun hb=> ?_)<;>(conv=>lhs;whnf)
 ·refine(hD _).2 (hend false ⟨fun h=>(by cases h),fun e=> ?_⟩)
  have e1:=congrArg List.length e;rw [e1]at hb;simp at hb
 ·have hlen:ls.length=bs.length:=by
    have:(ls.length:Int)=bs.length:=by simpa using hb
    omega
  refine(hD _).2 ⟨cnt A 13 [0,1,11,12] [] ls.length fun k=>ls.take k=bs.take k,⟨(0:Nat),⟨Nat.zero_le _,rfl⟩,⟨rfl,trivial⟩,trivial,rfl⟩,fun(k:Nat) hk=>⟨⟨trivial,trivial⟩,trivial,?_⟩⟩;simp only [cnt]at hk;conv=>lhs;whnf
  refine af (fun hlt=> ?_) (fun hlt=> ?_)<;>(conv=>lhs;whnf)
  ·have hkl:k<ls.length:=by omega
   obtain⟨g,o,rfl,hra⟩:=Sl.at_ hc ha1 ha2 ha3 (by omega);obtain⟨g',o',rfl,hrb⟩:=Sl.at_ hd hb1 hb2 hb3 (by omega);have r1:=eI (enc:=cz) (fun _=>rfl) hra k hkl rfl;have r2:=eI (enc:=cz) (fun _=>rfl) hrb k (by omega) rfl;have t1:ls.take (k+1)=ls.take k++ [ls[k]]:=by rw [List.take_succ_eq_append_getElem hkl]
   have t2:bs.take (k+1)=bs.take k++ [bs[k]]:=by rw [List.take_succ_eq_append_getElem (by omega)]
   obtain⟨⟨a1,a2,a3⟩,hn1⟩:∃n1,n1=ls[k]:=⟨_,rfl⟩;obtain⟨⟨b1,b2,b3⟩,hn2⟩:∃n2,n2=bs[k]:=⟨_,rfl⟩;rw [←hn1]at r1 t1;rw [←hn2]at r2 t2;have r1:A.rd g (o+k*3) 3=some [.int .i64 a1,.int .i64 a2,.int .i64 a3]:=r1;have r2:A.rd g' (o'+k*3) 3=some [.int .i64 b1,.int .i64 b2,.int .i64 b3]:=r2;conv=>lhs;whnf
   have i1:(0:Int)≤(k:Int)∧(k:Int)<(ls.length:Int):=by omega
   have i2:(0:Int)≤(k:Int)∧(k:Int)<(bs.length:Int):=by omega
   repeat(first|refine cO i1 ?_|refine cO i2 ?_|refine ai r1 ?_|refine ai r2 ?_|refine aj hD rfl ?_|refine aj hD (by kernel_rfl) ?_
          conv=>lhs;whnf)
   refine bw (fun he=> ?_) (fun he=> ?_)<;>(conv=>lhs;whnf)
   ·refine(hD _).2 (hend false ⟨fun h=>(by cases h),fun e=> ?_⟩)
    have e3:=congrArg (List.take (k+1)) e;rw [t1,t2,hk.2]at e3;have e4:=List.append_cancel_left e3;injection e4 with e4
    injection e4 with h1 h2 h3
    subst h1 h2 h3;simp at he
   ·have he:(⟨a1,a2,a3⟩:bn)=⟨b1,b2,b3⟩:=by
      simp at he;rw [he.1,he.2.1,he.2.2]
    refine(hD _).2 ⟨(k+1:Nat),⟨⟨by omega,?_⟩,⟨bf (by omega),trivial⟩,trivial,rfl⟩,?_,⟨rfl,rfl,rfl,rfl,trivial⟩,trivial⟩
    ·show ls.take (k+1)=bs.take (k+1)
     rw [t1,t2,hk.2,he]
    ·show ls.length-(k+1)<ls.length-k
     omega
  ·have e:k=ls.length:=by omega
   refine(hD _).2 (hend true ⟨fun _=> ?_,fun _=>rfl⟩);have h:=hk.2;rw [e,List.take_length,hlen,List.take_length]at h;exact h
def CI:aY:=⟨TG×TG,fun g vs A=>vs= [.pointer (some ⟨g.1.t,0,none⟩),.pointer (some ⟨g.2.t,0,none⟩)]∧ba A g.1.B g.1.O g.1.t g.1.T∧ba A g.2.B g.2.O g.2.t g.2.T∧oX g.1.T∧oX g.2.T,
 fun g _ A v A'=>A.Sub A'∧v= .bool (decide (rn g.1.T g.2.T))⟩
theorem same_ok:FOk Tryz.prog 19 CI:=by
 refine bG mixed fun⟨⟨T,B,O,t⟩,⟨U,B',O',t'⟩⟩ vs A hp=> ?_
 obtain⟨rfl,hT,hU,⟨fT1,fT2,fT3⟩,⟨fU1,fU2,fU3⟩⟩:vs= [.pointer (some ⟨t,0,none⟩),.pointer (some ⟨t',0,none⟩)]∧ba A B O t T∧ba A B' O' t' U∧oX T∧oX U:=hp
 have hCt:aI Tryz.prog (bQ [aM 11 allS,aM 12 kV,aM 80 qV,aM 81 ub] noC):=aD (aA _) (fun x hx=>by
  simp only [List.mem_cons,List.not_mem_nil,or_false]at hx;rcases hx with rfl|rfl|rfl|rfl
  ·exact au EU
  ·exact au oA
  ·exact au yu
  ·exact au BF)
 refine⟨_,noL,60,hCt,az _,fun blk os out tape D hD=> ?_⟩
 have htop:∃m,A.rd t 0 1=some [.map (some m)]:=by
  obtain⟨m,s,E,h⟩:=hT;exact⟨m,h.top.rd (o:=0) (n:=1) (by show 0+1≤2;omega)⟩
 have htop':∃m,A.rd t' 0 1=some [.map (some m)]:=by
  obtain⟨m,s,E,h⟩:=hU;exact⟨m,h.top.rd (o:=0) (n:=1) (by show 0+1≤2;omega)⟩
 obtain⟨m,htop⟩:=htop;obtain⟨m',htop'⟩:=htop';conv=>lhs;whnf
 repeat(first|refine ai htop ?_|refine ai htop' ?_|refine aj hD rfl ?_
        conv=>lhs;whnf)
 refine(hD _).2 ⟨⟨T,B,O,t⟩,⟨rfl,hT,fT2⟩,fun v A1 hq=> ?_⟩;obtain⟨s1,hN1⟩:A.Sub A1∧kO (A1.minus A) v (aJ T):=hq;obtain⟨a1,c1,rfl⟩:=hN1.choose_spec.2.1.form;conv=>lhs;whnf
 refine(hD _).2 ⟨⟨U,B',O',t'⟩,⟨rfl,bq hU s1,fU2⟩,fun v A2 hq=> ?_⟩;obtain⟨s2,hN2⟩:A1.Sub A2∧kO (A2.minus A1) v (aJ U):=hq;obtain⟨a2,c2,rfl⟩:=hN2.choose_spec.2.1.form;obtain⟨l1,hl1,hR1⟩:=kY hN1 ((bk A A1).trans s2);obtain⟨l2,hl2,hR2⟩:=kY hN2 (bk A1 A2);have e1:l1.length=(aJ T).length:=by rw [←hl1,List.length_map]
 have e2:l2.length=(aJ U).length:=by rw [←hl2,List.length_map]
 conv=>lhs;whnf
 refine(hD _).2 ⟨(l1,l2),⟨_,_,rfl,hR1,hR2,by show l1.length≤_;rw [e1,oq];exact fT2,by show l2.length≤_;rw [e2,oq];exact fU2⟩,fun v A3 hq=> ?_⟩;obtain⟨hA3,rfl⟩:A2=A3∧v= .bool (decide (l1.map (·.1)=l2.map (·.1))):=⟨hq.1.symm,hq.2⟩;subst hA3;rw [hl1,hl2];conv=>lhs;whnf
 have hend:∀(b:Bool) Ak,A.Sub Ak→(b=true↔rn T U)→CI.post (⟨T,B,O,t⟩,⟨U,B',O',t'⟩) [.pointer (some ⟨t,0,none⟩),.pointer (some ⟨t',0,none⟩)] A (.bool b) Ak:=fun b Ak hk hb=>by
  refine⟨hk,?_⟩;congr 1;rw [Bool.eq_iff_iff,hb,decide_eq_true_iff]
 refine af (fun hall=> ?_) (fun hall=> ?_)<;>(conv=>lhs;whnf)
 rotate_left
 ·exact(hD _).2 (hend false A2 (s1.trans s2) ⟨fun h=>(by cases h),fun h=>absurd h.1 hall⟩)
 refine(hD _).2 ⟨⟨T,B,O,t⟩,⟨rfl,bq hT (s1.trans s2),fT1,fT3⟩,fun v A4 hq=> ?_⟩;obtain⟨s4,hS4⟩:A2.Sub A4∧Sl (A4.minus A2) 3 (ak T).length v ((ak T).flatMap cz):=hq;obtain⟨a4,c4,rfl⟩:=hS4.form;conv=>lhs;whnf
 refine(hD _).2 ⟨⟨U,B',O',t'⟩,⟨rfl,bq hU (s1.trans (s2.trans s4)),fU1,fU3⟩,fun v A5 hq=> ?_⟩;obtain⟨s5,hS5⟩:A4.Sub A5∧Sl (A5.minus A4) 3 (ak U).length v ((ak U).flatMap cz):=hq;obtain⟨a5,c5,rfl⟩:=hS5.form;conv=>lhs;whnf
 refine(hD _).2 ⟨(ak T,ak U),⟨_,_,rfl,hS4.sub ((bk A2 A4).trans s5),hS5.sub (bk A4 A5),by show(ak T).length≤_;rw [mf];exact fT3,by show(ak U).length≤_;rw [mf];exact fU3⟩,fun v A6 hq=> ?_⟩;obtain⟨hA6,rfl⟩:A5=A6∧v= .bool (decide (ak T=ak U)):=⟨hq.1.symm,hq.2⟩;subst hA6;conv=>lhs;whnf
 exact(hD _).2 (hend _ A5 (s1.trans (s2.trans (s4.trans s5))) (by show decide (ak T=ak U)=true↔_;rw [decide_eq_true_iff];exact⟨fun h=>⟨hall,h⟩,fun h=>h.2⟩))
theorem nn_min(x y:Int):(0≤bif decide (y<x)then y else x)↔(0≤x∧0≤y):=by
 by_cases h:y<x
 ·simp only [h,decide_true,cond_true];omega
 ·simp only [h,decide_false,cond_false];omega
def za:aY:=⟨ec,fun s vs _=>vs= [.agg s.cells.toArray],fun s _ A v A'=>A'=A∧v= .bool (decide (iM s))⟩
theorem Al:FOk Tryz.prog 75 za:=by
 refine bG mixed fun(s:ec) vs A hp=> ?_
 obtain⟨s1,s2,s3,s4,s5,s6,s7,s8,s9,s10⟩:=s;obtain rfl:vs= [.agg #[.int .i64 s1,.int .i64 s2,.int .i64 s3,.int .i64 s4,.int .i64 s5,.int .i64 s6,.int .i64 s7,.int .i64 s8,.int .i64 s9,.int .i64 s10]]:=hp;refine⟨noC,noL,60,aA _,az _,fun blk os out tape D hD=> ?_⟩;conv=>lhs;whnf
 refine(hD _).2 ⟨rfl,?_⟩;congr 1;rw [decide_eq_decide];simp only [cond_false,nn_min,iM,and_assoc]
structure LoG where
 k:Nat
 A:aa
 B:aa
 O:Nat→Prop
def DM(A:aa)(l:List (aO×Value)):fj:=
 { γ:=Nat,G:=fun k=>k≤l.length∧∀i (h:i<l.length),i<k→bM l[i].1∧(0<i→ltL (bx l[i-1].1.path) (bx l[i].1.path)=true),
   keepS:= [0,1,12,13],keepB:= [],sl:=fun k=> [(14,.v (.int .i64 k))],bl:=fun _=> [],ar:=fun _=>A,mu:=fun k=>l.length-k }
structure z6(A:aa)(B:aa)(O:Nat→Prop)(t:Nat)(T:aF)(l:List (aO×Value))(s:LoG):Prop where
 le:s.k≤l.length
 tree:ba s.A s.B s.O t ⟨cw ((l.take s.k).map (·.1)),T.seats⟩
 step:Step A B O s.A s.B s.O
def DL(A B:aa)(O:Nat→Prop)(t:Nat)(T:aF)(l:List (aO×Value)):fj:=
 { γ:=LoG,G:=z6 A B O t T l,keepS:= [0,65,66],keepB:= [],sl:=fun s=> [(67,.v (.int .i64 s.k))],bl:=fun _=> [],ar:=fun s=>s.A,mu:=fun s=>l.length-s.k }
def zw:aY:=⟨TG×List (aO×Value)×aa,fun g vs A=>∃x,vs= [.pointer (some ⟨g.1.t,0,none⟩),x]∧ba A g.1.B g.1.O g.1.t g.1.T∧eL g.2.2 x g.2.1∧g.2.1.length≤1000000∧Aside A g.2.2 g.1.O,
 fun g _ A v A'=>if hF (g.2.1.map (·.1))then v= .int .i64 0∧aN A g.1.B g.1.O g.1.t ⟨cw (g.2.1.map (·.1)),g.1.T.seats⟩ A' else v= .int .i64 4∧A'=A⟩
theorem vY{A A1 A2 B:aa}{O:Nat→Prop}{t:Nat}{T:aF}{m s:Nat}{E:List (ByteArray×Nat×aX)}(h:cF A B O t T m s E){m':Nat}(hm':A.blk m'=none)(hA1:∀k,k≠m'→A1.blk k=A.blk k)(hM1:bH A1 m' [])(hP2:A1.Put A2 t 0 [.map (some m')]):
  cF A2 B (fun k=>O k∨k=m') t ⟨[],T.seats⟩ m' s []∧Step A B O A2 B fun k=>O k∨k=m':=by
 obtain⟨ot,hot⟩:=h.live t h.own.1;have tm:t≠m':=fun e=>by rw [e,hm']at hot;cases hot
 have htop1:aE A1 t [.map (some m),.map (some s)]:=h.top.sub fun o ho=>by rw [hA1 t tm];exact ho
 have htop2:aE A2 t [.map (some m'),.map (some s)]:=htop1.put hP2 (by show 0+1≤2;omega);have hA2:∀k,k≠t→A2.blk k=A1.blk k:=hP2.other
 have live_ne:∀ {k:Nat},O k→k≠m':=fun {k} hk e=>by
  obtain⟨o,ho⟩:=h.live k hk;rw [e,hm']at ho;cases ho
 have hold:∀k,k≠t→k≠m'→A2.blk k=A.blk k:=fun k h1 h2=>by rw [hA2 k h1,hA1 k h2]
 have hBm:B.blk m'=none:=by
  cases hB:B.blk m' with
  |none=>rfl
  |some o=>have:=h.sub _ _ hB;rw [hm']at this;cases this
 refine⟨{ nodes:=rfl
          top:=htop2
          nmap:=hM1.sub fun o ho=>by rw [hA2 m' (Ne.symm tm)];exact ho
          smap:=h.smap.sub fun o ho=>by rw [hold s (Ne.symm h.pO.2) (live_ne h.own.2.2.1)];exact ho
          cells:=fun e he=>by cases he
          keys:=List.nodup_nil
          ptrs:=List.nodup_nil
          skeys:=h.skeys
          sub:=fun k o hk=>by
           rw [hold k (fun e=>by subst e;rw [h.off _ h.own.1]at hk;cases hk) (fun e=>by subst e;rw [hBm]at hk;cases hk)];exact h.sub k o hk
          own:=⟨.inl h.own.1,.inr rfl,.inl h.own.2.2.1,fun e he=>by cases he⟩
          off:=fun k hk=>by
           rcases hk with hk|rfl
           ·exact h.off k hk
           ·exact hBm
          live:=fun k hk=>by
           by_cases e:k=t
           ·subst e;exact htop2.dom
           ·rcases hk with hk|rfl
            ·rw [hold k e (live_ne hk)];exact h.live k hk
            ·rw [hA2 _ e]
             obtain⟨es,cl,h1,_⟩:=hM1;exact⟨_,h1⟩
          ne:=⟨fun e=>live_ne h.own.2.2.1 e.symm,fun e he=>by cases he⟩ },fun k o hk' hO=> ?_,fun k hn=> ?_,fun k hO=> ?_,aa.Sub.refl _,fun k o hb=> .inl hb⟩
 ·have n1:k≠t:=fun e=>hO (e▸h.own.1)
  have n2:k≠m':=fun e=>by rw [e,hm']at hk';cases hk'
  rw [hold k n1 n2];exact hk'
 ·by_cases n2:k=m'
  ·rw [n2];exact hm'
  ·by_cases n1:k=t
   ·subst n1
    obtain⟨o,ho⟩:=htop2.dom;rw [ho]at hn;cases hn
   ·rw [hold k n1 n2]at hn;exact hn
 ·rcases hO with hO|rfl
  ·exact .inl hO
  ·exact .inr hm'
theorem DN:FOk Tryz.prog 16 zw:=by
 refine oO mixed EX fun⟨⟨T,B,O,t⟩,l,C⟩ vs A hp=> ?_
 obtain⟨x,rfl,⟨m,s,E,h⟩,⟨⟨ao,c,rfl,hc,_,ha1,ha2,ha3⟩,hda⟩,hl1,hAs⟩:∃x,vs= [.pointer (some ⟨t,0,none⟩),x]∧ba A B O t T∧eL C x l∧l.length≤1000000∧Aside A C O:=hp
 have hCt:aI Tryz.prog (bQ [aM 74 yF,aM 75 za,aM 76 cX] noC):=aD (aA _) (fun x hx=>by
  simp only [List.mem_cons,List.not_mem_nil,or_false]at hx;rcases hx with rfl|rfl|rfl
  ·exact au wA
  ·exact au Al
  ·exact au df)
 refine⟨_,ic Tryz.prog _ noL 60 [(16,0),(16,2)],60,hCt,bg mixed hCt (az _) _ _,fun blk os out tape D hD=> ?_⟩;have htop:A.rd t 0 1=some [.map (some m)]:=h.top.rd (o:=0) (n:=1) (by show 0+1≤2;omega)
 have hbad:¬hF (l.map (·.1))→zw.post (⟨T,B,O,t⟩,l,C) [.pointer (some ⟨t,0,none⟩),.slice ao l.length c] A (.int .i64 4) A:=fun hn=>by
  show if hF (l.map (·.1))then _ else _
  rw [if_neg hn];exact⟨rfl,rfl⟩
 conv=>lhs;whnf
 repeat(first|refine ai htop ?_|refine aj hD rfl ?_
        conv=>lhs;whnf)
 refine(hD _).2 ⟨DM A l,⟨(0:Nat),⟨Nat.zero_le _,fun i _ h0=>absurd h0 (Nat.not_lt_zero _)⟩,⟨rfl,trivial⟩,trivial,rfl⟩,fun(k:Nat) hG=>⟨⟨trivial,trivial⟩,trivial,?_⟩⟩;obtain⟨hk,hfit⟩:k≤l.length∧∀i (h:i<l.length),i<k→bM l[i].1∧(0<i→ltL (bx l[i-1].1.path) (bx l[i].1.path)=true):=hG;conv=>lhs;whnf
 refine af (fun hlt=> ?_) (fun hlt=> ?_)<;>(conv=>lhs;whnf)
 ·have hkl:k<l.length:=by
    have hlt:(k:Int)<(l.length:Int):=hlt;omega
  obtain⟨g,o,rfl,hra⟩:=Sl.at_ hc ha1 ha2 ha3 (by omega);have r1:=eI (enc:=cV) (fun _=>rfl) hra k hkl rfl;have i0:(0:Int)≤(k:Int)∧(k:Int)<(l.length:Int):=by omega
  obtain⟨⟨⟨p,d,⟨s1,s2,s3,s4,s5,s6,s7,s8,s9,s10⟩⟩,vd⟩,hx⟩:∃y,y=l[k]:=⟨_,rfl⟩;have hd:SlB C vd d:=hda ((⟨p,d,⟨s1,s2,s3,s4,s5,s6,s7,s8,s9,s10⟩⟩:aO),vd) (by rw [hx];exact List.getElem_mem _);obtain⟨ad,cd,rfl⟩:=hd.1.form;rw [←hx]at r1;have r1:A.rd g (o+k*12) 12=some [.string p,.slice ad d.length cd,.int .i64 s1,.int .i64 s2,.int .i64 s3,.int .i64 s4,.int .i64 s5,.int .i64 s6,.int .i64 s7,.int .i64 s8,.int .i64 s9,.int .i64 s10]:=bI hAs.1 r1;have hk1:k-1<l.length:=by omega
  have hw:0<k→IntKind.i64.wrap ((k:Int)-1)=((k-1:Nat):Int):=fun hk0=>by
   rw [Sx.wrap_i64 (by omega) (by omega)];omega
  have hin0:0<k→0≤IntKind.i64.wrap ((k:Int)-1)∧IntKind.i64.wrap ((k:Int)-1)<(l.length:Int):=fun hk0=>by rw [hw hk0];omega
  have r0:=eI (enc:=cV) (fun _=>rfl) hra (k-1) hk1 rfl
  have r0p:0<k→A.rd g (o+(IntKind.i64.wrap ((k:Int)-1)).toNat*12) 1=some [.string l[k-1].1.path]:=fun hk0=>by
   have:=ir (bI hAs.1 r0) (i:=0) (m:=1) (by omega);rw [hw hk0,Int.toNat_natCast];exact this
  repeat(first|refine cO i0 ?_|refine ai r1 ?_
         conv=>lhs;whnf)
  have hbadk:=fun hn=>hbad (qB hkl hn)
  rw [←hx]at hbadk;dsimp only at hbadk;refine(hD _).2 ⟨p,rfl,fun v A9 hq=> ?_⟩;have hq:A9=A∧v= .bool (bR p.data.toList):=hq;obtain⟨h9,hv⟩:=hq;have h9:=h9.symm;subst h9
  by_cases hpk:bR p.data.toList=true
  rotate_left
  ·have hv:v= .bool false:=by rw [hv];simpa using hpk
   subst hv;conv=>lhs;whnf
   exact(hD _).2 (hbadk fun hh=>hpk hh.1.1)
  have hv:v= .bool true:=by rw [hv,hpk]
  subst hv;conv=>lhs;whnf
  refine af (fun h0=> ?_) (fun h0=> ?_)<;>(conv=>lhs;whnf)
  ·have hk0:0<k:=by
     have h0:(0:Int)<(k:Int):=h0;omega
   refine cO (hin0 hk0) ?_;conv=>lhs;whnf
   refine ai (r0p hk0) ?_;conv=>lhs;whnf
   refine bw (fun hb=> ?_) (fun hb=> ?_)<;>(conv=>lhs;whnf)
   ·exact(hD _).2 (hbadk fun hh=>by
     exact absurd (hb.symm.trans (DI (hh.2 hk0))) (by simp))
   have hlt0:ltL (bx l[k-1].1.path) (bx p)=true:=zq hb;refine af (fun h1000=> ?_) (fun h1000=> ?_)<;>(conv=>lhs;whnf)
   ·exact(hD _).2 (hbadk fun hh=>by have:=hh.1.2.1;dsimp only at this;omega)
   refine(hD _).2 ⟨(⟨s1,s2,s3,s4,s5,s6,s7,s8,s9,s10⟩:ec),rfl,fun v A9 hq=> ?_⟩;have hq:A9=A∧v= .bool (decide (iM ⟨s1,s2,s3,s4,s5,s6,s7,s8,s9,s10⟩)):=hq;obtain⟨h9,hv⟩:=hq;have h9:=h9.symm;subst h9
   by_cases hst:iM ⟨s1,s2,s3,s4,s5,s6,s7,s8,s9,s10⟩
   rotate_left
   ·have hv:v= .bool false:=by rw [hv,decide_eq_false hst]
    subst hv;conv=>lhs;whnf
    exact(hD _).2 (hbadk fun hh=>hst hh.1.2.2)
   have hv:v= .bool true:=by rw [hv,decide_eq_true hst]
   subst hv;conv=>lhs;whnf
   have hstep:k+1≤l.length∧∀i (h:i<l.length),i<k+1→bM l[i].1∧(0<i→ltL (bx l[i-1].1.path) (bx l[i].1.path)=true):=⟨by omega,fun i h hi=>by
    by_cases e:i=k
    ·subst e
     rw [←hx];exact⟨⟨hpk,by show d.length≤1000;omega,hst⟩,fun _=>hlt0⟩
    ·exact hfit i h (by omega)⟩
   exact(hD _).2 ⟨(k+1:Nat),⟨hstep,⟨bf (k:=k) (by omega),trivial⟩,trivial,rfl⟩,by show l.length-(k+1)<l.length-k;omega,⟨rfl,rfl,rfl,rfl,trivial⟩,trivial⟩
  ·have hk0:k=0:=by
     have h0:¬(0:Int)<(k:Int):=h0;omega
   refine af (fun h1000=> ?_) (fun h1000=> ?_)<;>(conv=>lhs;whnf)
   ·exact(hD _).2 (hbadk fun hh=>by have:=hh.1.2.1;dsimp only at this;omega)
   refine(hD _).2 ⟨(⟨s1,s2,s3,s4,s5,s6,s7,s8,s9,s10⟩:ec),rfl,fun v A9 hq=> ?_⟩;have hq:A9=A∧v= .bool (decide (iM ⟨s1,s2,s3,s4,s5,s6,s7,s8,s9,s10⟩)):=hq;obtain⟨h9,hv⟩:=hq;have h9:=h9.symm;subst h9
   by_cases hst:iM ⟨s1,s2,s3,s4,s5,s6,s7,s8,s9,s10⟩
   rotate_left
   ·have hv:v= .bool false:=by rw [hv,decide_eq_false hst]
    subst hv;conv=>lhs;whnf
    exact(hD _).2 (hbadk fun hh=>hst hh.1.2.2)
   have hv:v= .bool true:=by rw [hv,decide_eq_true hst]
   subst hv;conv=>lhs;whnf
   have hstep:k+1≤l.length∧∀i (h:i<l.length),i<k+1→bM l[i].1∧(0<i→ltL (bx l[i-1].1.path) (bx l[i].1.path)=true):=⟨by omega,fun i h hi=>by
    by_cases e:i=k
    ·subst e
     rw [←hx];exact⟨⟨hpk,by show d.length≤1000;omega,hst⟩,fun h=>absurd h (by omega)⟩
    ·exact hfit i h (by omega)⟩
   exact(hD _).2 ⟨(k+1:Nat),⟨hstep,⟨bf (k:=k) (by omega),trivial⟩,trivial,rfl⟩,by show l.length-(k+1)<l.length-k;omega,⟨rfl,rfl,rfl,rfl,trivial⟩,trivial⟩
 ·have e:k=l.length:=by
    have hlt:¬(k:Int)<(l.length:Int):=hlt;omega
  subst e;have hfit':∀i (h:i<l.length),bM l[i].1∧(0<i→ltL (bx l[i-1].1.path) (bx l[i].1.path)=true):=fun i h=>hfit i h h
  by_cases hl0:l= []
  ·subst hl0
   have hn:¬hF (([]:List (aO×Value)).map (·.1)):=fun hc=>(by
    obtain⟨_,x,hx,_⟩:=hc
    cases hx)
   exact(hD _).2 (hbad hn)
  ·obtain⟨y,l',hyl⟩:∃y l',l=y::l':=by
     cases l with
     |nil=>exact absurd rfl hl0
     |cons y l'=>exact⟨y,l',rfl⟩
   subst hyl;have hpos:0<(y::l').length:=by simp
   obtain⟨g,o,rfl,hra⟩:=Sl.at_ hc ha1 ha2 ha3 hpos;have r0:=eI (enc:=cV) (fun _=>rfl) hra 0 hpos rfl;rw [Nat.zero_mul,Nat.add_zero]at r0
   have r0p:A.rd g o 1=some [.string y.1.path]:=by
    have:=ir (bI hAs.1 r0) (i:=0) (m:=1) (by omega);rw [Nat.add_zero]at this;exact this
   conv=>lhs;whnf
   have i0:(0:Int)≤(0:Int)∧(0:Int)<((y::l').length:Int):=by constructor<;>omega
   refine cO i0 ?_;conv=>lhs;whnf
   refine ai r0p ?_;conv=>lhs;whnf
   refine bw (fun hb=> ?_) (fun hb=> ?_)<;>(conv=>lhs;whnf)
   ·refine(hD _).2 (hbad fun hc=> ?_)
    obtain⟨_,x,hx,hr⟩:=hc;injection hx with hx
    subst hx;rw [hr]at hb;exact absurd hb (by simp [eV,jU])
   have hyr:y.1.path=eV:=ln (by
    have hb2:jU y.1.path.data.toList [47]=true:=by simpa using hb
    exact bu.1 hb2)
   have hgood:hF ((y::l').map (·.1)):=sD hfit' ⟨y.1,rfl,hyr⟩;refine(hD _).2 fun m' A1 hm' hA1 hM1=> ?_
   have hm':A.blk m'=none:=hm';have hA1:∀k,k≠m'→A1.blk k=A.blk k:=hA1
   have htopA1:aE A1 t [.map (some m),.map (some s)]:=h.top.sub fun o ho=>by
    obtain⟨ot,hot⟩:=h.live t h.own.1;rw [hA1 t fun e=>by rw [e,hm']at hot;cases hot];exact ho
   conv=>lhs;whnf
   refine(hD _).2 ⟨htopA1.room (o:=0) (n:=1) (by show 0+1≤2;omega),fun A2 hP2=> ?_⟩;have hP2:A1.Put A2 t 0 [.map (some m')]:=hP2;have hfresh:=vY h hm' hA1 hM1 hP2;have hI0:z6 A B O t T (y::l') ⟨0,A2,B,fun k=>O k∨k=m'⟩:=⟨Nat.zero_le _,⟨m',s, [],hfresh.1⟩,hfresh.2⟩;conv=>lhs;whnf
   refine(hD _).2 ⟨DL A B O t T (y::l'),⟨(⟨0,A2,B,fun k=>O k∨k=m'⟩:LoG),hI0,⟨rfl,trivial⟩,trivial,rfl⟩,fun(sg:LoG) hG=>⟨⟨trivial,trivial⟩,trivial,?_⟩⟩;obtain⟨j,Ak,B2,O2⟩:=sg;have hG:z6 A B O t T (y::l') ⟨j,Ak,B2,O2⟩:=hG;have hj:=hG.le;have hT2:=hG.tree;have hS2:=hG.step;dsimp only at hj hT2 hS2;conv=>lhs;whnf
   refine af (fun hlt=> ?_) (fun hlt=> ?_)<;>(conv=>lhs;whnf)
   ·have hjl:j<(y::l').length:=by
      have hlt:(j:Int)<((y::l').length:Int):=hlt;omega
    have r1:=eI (enc:=cV) (fun _=>rfl) hra j hjl rfl;have hCk:C.Sub Ak:=hS2.stays hAs.1 hAs.2;have i1:(0:Int)≤(j:Int)∧(j:Int)<((y::l').length:Int):=by omega
    obtain⟨⟨⟨p,d,⟨s1,s2,s3,s4,s5,s6,s7,s8,s9,s10⟩⟩,vd⟩,hx⟩:∃z,z=(y::l')[j]:=⟨_,rfl⟩;have hd:SlB C vd d:=hda ((⟨p,d,⟨s1,s2,s3,s4,s5,s6,s7,s8,s9,s10⟩⟩:aO),vd) (by rw [hx];exact List.getElem_mem _);obtain⟨ad,cd,rfl⟩:=hd.1.form;rw [←hx]at r1;have r1:Ak.rd g (o+j*12) 12=some [.string p,.slice ad d.length cd,.int .i64 s1,.int .i64 s2,.int .i64 s3,.int .i64 s4,.int .i64 s5,.int .i64 s6,.int .i64 s7,.int .i64 s8,.int .i64 s9,.int .i64 s10]:=bI hCk r1
    have htk:cw (((y::l').take (j+1)).map (·.1))=bS p ⟨d,⟨s1,s2,s3,s4,s5,s6,s7,s8,s9,s10⟩⟩ (cw (((y::l').take j).map (·.1))):=by
     rw [List.take_succ_eq_append_getElem hjl,List.map_append,List.map_singleton,yd,←hx]
    obtain⟨m2,s2',E2,hR⟩:=hT2;have htop':Ak.rd t 0 1=some [.map (some m2)]:=hR.top.rd (o:=0) (n:=1) (by show 0+1≤2;omega)
    repeat(first|refine cO i1 ?_|refine ai r1 ?_|refine ai htop' ?_|refine aj hD rfl ?_
           conv=>lhs;whnf)
    refine(hD _).2 ⟨d,⟨_,rfl,hd.sub hCk⟩,fun v A4 hq=> ?_⟩;have hq:Ak.Sub A4∧SlB (A4.minus Ak) v d:=hq;obtain⟨s4',b4⟩:=hq;obtain⟨ax,cx,rfl⟩:=b4.1.form;have htop4:=bI s4' htop';conv=>lhs;whnf
    repeat(first|refine ai htop4 ?_|refine aj hD rfl ?_
           conv=>lhs;whnf)
    refine(hD _).2 fun g' A5 hN=> ?_
    have hN:A4.New A5 g' (.slice ax d.length cx::(⟨s1,s2,s3,s4,s5,s6,s7,s8,s9,s10⟩:ec).cells).toArray 98:=hN;have htop5:=bI hN.sub htop4;conv=>lhs;whnf
    repeat(first|refine ai htop5 ?_|refine aj hD rfl ?_
           conv=>lhs;whnf)
    have hm5:=hR.nmap.sub (A':=A5) fun o ho=>hN.sub _ _ (s4' _ _ ho)
    refine(hD _).2 ⟨_,hm5,fy iV p _,fun A6 hm6 ho6=> ?_⟩;have hst:aN Ak B2 O2 t ⟨bS p ⟨d,⟨s1,s2,s3,s4,s5,s6,s7,s8,s9,s10⟩⟩ (cw (((y::l').take j).map (·.1))),T.seats⟩ A6:=uM hR s4' hN (by rfl) b4 hm6 ho6;obtain⟨B6,O6,hT6,hS6⟩:=hst;have hI:z6 A B O t T (y::l') ⟨j+1,A6,B6,O6⟩:=⟨by show j+1≤_;omega,by show ba A6 B6 O6 t ⟨cw (((y::l').take (j+1)).map (·.1)),T.seats⟩;rw [htk];exact hT6,hS2.trans hS6⟩;conv=>lhs;whnf
    exact(hD _).2 ⟨(⟨j+1,A6,B6,O6⟩:LoG),⟨hI,⟨bf (k:=j) (by omega),trivial⟩,trivial,rfl⟩,by show(y::l').length-(j+1)<(y::l').length-j;omega,⟨rfl,rfl,rfl,trivial⟩,trivial⟩
   ·have e:j=(y::l').length:=by
      have hlt:¬(j:Int)<((y::l').length:Int):=hlt;omega
    have hend:zw.post (⟨T,B,O,t⟩,y::l',C) [.pointer (some ⟨t,0,none⟩),.slice (some ⟨g,o,none⟩) (y::l').length c] A (.int .i64 0) Ak:=by
     show if hF ((y::l').map (·.1))then _ else _
     rw [if_pos hgood];rw [e,List.take_length]at hT2;exact⟨rfl,B2,O2,hT2,hS2⟩
    exact(hD _).2 hend
def oo(B1:aa)(O1:Nat→Prop)(B2:aa)(O2:Nat→Prop):Prop:=(∀k,O1 k→¬O2 k)∧(∀k o,B1.blk k=some o→¬O2 k)∧∀k o,B2.blk k=some o→¬O1 k
theorem oo.symm{B1 B2:aa}{O1 O2:Nat→Prop}(h:oo B1 O1 B2 O2):oo B2 O2 B1 O1:=⟨fun k h2 h1=>h.1 k h1 h2,h.2.2,h.2.1⟩
theorem kQ{A A' B1 B1' B2:aa}{O1 O1' O2:Nat→Prop}{t2:Nat}{T2:aF}(h2:ba A B2 O2 t2 T2)(hA:oo B1 O1 B2 O2)(s:Step A B1 O1 A' B1' O1'):ba A' B2 O2 t2 T2∧oo B1' O1' B2 O2:=by
 obtain⟨m,s',E,h⟩:=h2;refine⟨⟨m,s',E,h.frame (fun k hk=> ?_) (s.stays h.sub hA.2.2)⟩,fun k h1 h2=> ?_,fun k o h1 h2=> ?_,fun k o hb h1=> ?_⟩
 ·obtain⟨o,ho⟩:=h.live k hk
  rw [ho,s.ck k o ho fun h1=>hA.1 k h1 hk]
 ·rcases s.own k h1 with h1|h1
  ·exact hA.1 k h1 h2
  ·obtain⟨o,ho⟩:=h.live k h2
   rw [h1]at ho;cases ho
 ·rcases s.new k o h1 with h1|h1
  ·exact hA.2.1 k o h1 h2
  ·obtain⟨o,ho⟩:=h.live k h2
   rw [h1]at ho;cases ho
 ·rcases s.own k h1 with h1|h1
  ·exact hA.2.2 k o hb h1
  ·rw [h.sub k o hb]at h1;cases h1
theorem rl{A B1 B2:aa}{O1 O2:Nat→Prop}{t1:Nat}{T1:aF}(h1:ba A B1 O1 t1 T1)(hO:∀k,O2 k→A.blk k=none)(hB:∀k o,B2.blk k=some o→A.blk k=none):oo B1 O1 B2 O2:=by
 obtain⟨m,s,E,h⟩:=h1;refine⟨fun k h1 h2=> ?_,fun k o hb h2=> ?_,fun k o hb h1=> ?_⟩
 ·obtain⟨o,ho⟩:=h.live k h1
  rw [hO k h2]at ho;cases ho
 ·have:=h.sub k o hb
  rw [hO k h2]at this;cases this
 ·obtain⟨o',ho⟩:=h.live k h1
  rw [hB k o hb]at ho;cases ho
theorem sC:∀l:List aO,(cw l).length≤l.length:=fun l=>by
 have h:∀(l:List aO) (m:List (ByteArray×aX)),(l.foldl (fun m x=>bS x.path ⟨x.data,x.stat⟩ m) m).length≤m.length+l.length:=fun l=>by
  induction l with
  |nil=>intro m;simp
  |cons x l ih=>
   intro m;have h1:=ih (bS x.path ⟨x.data,x.stat⟩ m);have h2:=iY x.path (⟨x.data,x.stat⟩:aX) m;rw [List.foldl_cons,List.length_cons];omega
 have:=h l [];simpa [cw]using this
theorem gM:∀(l:List bn) (m:List (Int×bn)),(l.foldl eF m).length≤m.length+l.length
 | [],m=>by simp
 |x::l,m=>by
  have h1:=gM l (eF m x)
  have h2:(eF m x).length≤m.length+1:=by
   unfold eF
   split
   ·omega
   ·exact iY _ _ _
  rw [List.foldl_cons,List.length_cons];omega
theorem oB{T U:aF}(h:Cf T U)(hT:TOk T)(hU:ND U):jH U:=fun e he=>by
 have h1:=(dG hU.2).2 (show(e.1,e.2)∈U.seats from he);rw [←h.2]at h1;exact(hT.ses _ _ h1).1
structure ItG where
 k:Nat
 A:aa
 B:aa
 O:Nat→Prop
structure ItI(A0:aa)(ds:List aU)(n t:Nat)(s:ItG):Prop where
 le:s.k≤n
 sub:A0.Sub s.A
 tree:ba s.A s.B s.O t (bN aW (ds.take s.k))
 own:∀k,s.O k→A0.blk k=none
 new:∀k o,s.B.blk k=some o→A0.blk k=none
def itInv(A0:aa)(ds:List aU)(n t:Nat)(sl:List (Nat×SV)):fj:= { γ:=ItG,G:=ItI A0 ds n t,keepS:= [],keepB:= [],sl:=fun s=>(4,.v (.int .i64 s.k))::sl,bl:=fun _=> [],ar:=fun s=>s.A,mu:=fun s=>n-s.k }
def itS:aY:=⟨List aU,fun g vs A=>∃v,vs= [v]∧om A v g∧(∀d∈g,ib d)∧fY A,fun _ _ A v A'=>A.Sub A'∧v= .bool true⟩
theorem itC:aI Tryz.prog (bQ [aM 8 EP,aM 9 newS,aM 10 ET,aM 11 allS,aM 12 kV,aM 13 xG,aM 15 zE,aM 16 zw,aM 77 jo,aM 18 CH,aM 19 CI] noC):=aD (aA _) (fun x hx=>by
 simp only [List.mem_cons,List.not_mem_nil,or_false]at hx;rcases hx with rfl|rfl|rfl|rfl|rfl|rfl|rfl|rfl|rfl|rfl|rfl
 ·exact au EO
 ·exact au new_ok
 ·exact au ES
 ·exact au EU
 ·exact au oA
 ·exact au put_ok
 ·exact au iget_ok
 ·exact au DN
 ·exact au pY
 ·exact au seat_ok
 ·exact au same_ok)
theorem yl:FOk Tryz.prog 3 itS:=by
 refine bG mixed fun(ds:List aU) vs A hp=> ?_
 obtain⟨v,rfl,⟨rows,hS,hlen,hR⟩,hin,hHas⟩:∃v,vs= [v]∧om A v ds∧(∀d∈ds,ib d)∧fY A:=hp;obtain⟨ao,c,rfl,hc,hl,ha1,ha2,ha3⟩:=hS
 have hrow:∀k (hk:k<ds.length),∃g0 o,ao=some ⟨g0,o,none⟩∧∃cs,A.rd g0 (o+k*16) 16=some cs∧cQ A ds[k] cs:=fun k hk=>by
  obtain⟨g0,o,e,hra⟩:=Sl.at_ hc ha1 ha2 ha3 (by omega);exact⟨g0,o,e,pC hra hR k hk rfl⟩
 have hend:∀A',A.Sub A'→itS.post ds [] A (.bool true) A':=fun A' h=>⟨h,rfl⟩
 refine⟨_,ic Tryz.prog _ noL 60 [(3,0)],60,itC,bg mixed itC (az _) _ _,fun blk os out tape D hD=> ?_⟩;conv=>lhs;whnf
 repeat(first|refine aj hD rfl ?_
        conv=>lhs;whnf)
 refine(hD _).2 ⟨(),rfl,fun v A' hq=> ?_⟩;have hq:A'=A∧v= .bool true:=hq;have h9:=hq.1.symm;have hv:=hq.2;subst h9;subst hv;conv=>lhs;whnf
 repeat(first|refine aj hD rfl ?_
        conv=>lhs;whnf)
 refine af (fun h60=> ?_) (fun h60=> ?_)
 ·have h60':60<ds.length:=by
    have h60:(60:Int)<ds.length:=h60;omega
  obtain⟨g0,o,rfl,hra⟩:=Sl.at_ hc ha1 ha2 ha3 (by omega);obtain⟨c',rfl⟩:∃c',c=c'+1:=⟨c-1,by omega⟩;have hn:∃n:Nat,n=60∧n≤ds.length∧n≤60:=⟨_,rfl,by omega,by omega⟩;conv=>lhs;whnf
  refine fJ (by show(60:Int)≤((c'+1:Nat):Int);omega) ?_;conv=>lhs;whnf
  repeat(first|refine aj hD rfl ?_
         conv=>lhs;whnf)
  refine(hD _).2 ⟨(),rfl,fun v A1 hq=> ?_⟩;obtain⟨t,O1,hv,hT1,s1,hO1⟩:∃t O,v= .pointer (some ⟨t,0,none⟩)∧ba A1 aa.void O t aW∧A.Sub A1∧∀k,O k→A.blk k=none:=hq;subst hv;conv=>lhs;whnf
  repeat(first|refine aj hD rfl ?_
         conv=>lhs;whnf)
  obtain⟨n,hnL,hnd,hn60⟩:=hn
  have hrown:∀k,k<n→∃g1 o1,(some ⟨g0,o,none⟩:Option Addr)=some ⟨g1,o1,none⟩∧∃cs,A.rd g1 (o1+k*16) 16=some cs∧∃d,ds[k]? =some d∧cQ A d cs∧ib d:=fun k hk=>by
   obtain⟨g1,o1,e,cs,h1,h2⟩:=hrow k (by omega);exact⟨g1,o1,e,cs,h1,ds[k],List.getElem?_eq_getElem _,h2,hin _ (List.getElem_mem _)⟩
  have hI0:ItI A ds n t ⟨0,A1,aa.void,O1⟩:=⟨Nat.zero_le _,s1,hT1,hO1,fun k o hk=>by cases hk⟩;refine(hD _).2 ⟨itInv A ds n t [(0,.v (.slice (some ⟨g0,o,none⟩:Option Addr) 60 (c'+1))),(3,.v (.pointer (some ⟨t,0,none⟩)))],⟨(⟨0,A1,aa.void,O1⟩:ItG),hI0,⟨rfl,rfl,rfl,trivial⟩,trivial,rfl⟩,fun(s:ItG) hG=>⟨⟨trivial,trivial,trivial,trivial⟩,trivial,?_⟩⟩;clear hI0;obtain⟨k,Ak,B,O⟩:=s;obtain⟨hk,hsub,hT,hown,hnew⟩:ItI A ds n t ⟨k,Ak,B,O⟩:=hG;dsimp only at hk hsub hT hown hnew;conv=>lhs;whnf
  refine af (fun hlt=> ?_) (fun hlt=> ?_)
  ·have hkn:k<n:=by
     have hlt:(k:Int)<((60:Nat):Int):=hlt;omega
   have i0:(0:Int)≤(k:Int)∧(k:Int)<((60:Nat):Int):=by omega
   have hrk:=hrown k hkn;obtain⟨g1,o1,e0,cs,r1,d,hdk,hR1, -⟩:=hrk
   have htk:bN aW (ds.take (k+1))=aC (bN aW (ds.take k)) d:=by
    rw [List.take_add_one,hdk,Option.toList_some,pZ];rfl
   have hAs:Aside Ak A O:=⟨hsub,fun j o hj hO=>by rw [hown j hO]at hj;cases hj⟩;obtain⟨⟨zxid,kind,ses,turn,xid,dtime,path,data,owner,ver,cver,tmo,err,cfg,mem⟩,parts⟩:=d;have hR0:=hR1;rw [cQ]at hR1;dsimp only [c7.cells]at hR1;obtain⟨vd,vm,vp,rws,hcs, -,hd1,hM,hSp,hlen2,hRows⟩:=hR1;subst hcs;obtain⟨a7,k7,e7⟩:=hd1.1.form;subst e7;obtain⟨a14,k14,e14⟩:=hM.1.form;subst e14;obtain⟨a15,k15,e15⟩:=hSp.form;subst e15;have r2:=bI hsub r1;have r2p:=ir r2 (i:=15) (m:=1) (by omega);have r2p:Ak.rd g1 (o1+k*16+15) 1=some [.slice a15 parts.length k15]:=r2p;injection e0 with e0;injection e0 with e1 e2;subst e1;subst e2
   conv=>lhs;whnf
   repeat(first|refine cO i0 ?_|refine ai r2p ?_|refine aj hD rfl ?_
          conv=>lhs;whnf)
   refine af (fun h60p=> ?_) (fun h60p=> ?_)
   ·conv=>lhs;whnf
    repeat(first|refine aj hD rfl ?_
           conv=>lhs;whnf)
    exact(hD _).2 (hend _ hsub)
   conv=>lhs;whnf
   repeat(first|refine cO i0 ?_|refine ai r2 ?_|refine aj hD rfl ?_
          conv=>lhs;whnf)
   obtain⟨dd,hdd⟩:∃dd:aU,dd= .mk ⟨zxid,kind,ses,turn,xid,dtime,path,data,owner,ver,cver,tmo,err,cfg,mem⟩ parts:=⟨_,rfl⟩;rw [←hdd]at hR0 htk;refine(hD _).2 ⟨(⟨bN aW (ds.take k),B,O,t⟩,dd,A),⟨_,rfl,hT,hR0,hHas,hAs⟩,fun v A4 hq=> ?_⟩;obtain⟨B4,O4,hT4,hS4⟩:aN Ak B O t (aC (bN aW (ds.take k)) dd) A4:=hq;have hnone:∀j,Ak.blk j=none→A.blk j=none:=fun j hj=>gA hsub hj
   have hI:ItI A ds n t ⟨k+1,A4,B4,O4⟩:=⟨by show k+1≤n;omega,(hAs.step hS4).1,by show ba A4 B4 O4 t (bN aW (ds.take (k+1)));rw [htk];exact hT4,fun j hj=>by
    rcases hS4.own j hj with h1|h1
    ·exact hown j h1
    ·exact hnone j h1,fun j o hj=>by
    rcases hS4.new j o hj with h1|h1
    ·exact hnew j o h1
    ·exact hnone j h1⟩
   conv=>lhs;whnf
   repeat(first|refine aj hD rfl ?_
          conv=>lhs;whnf)
   exact(hD _).2 ⟨(⟨k+1,A4,B4,O4⟩:ItG),⟨hI,⟨bf (k:=k) (by omega),rfl,rfl,trivial⟩,trivial,rfl⟩,by show n-(k+1)<n-k;omega,trivial,trivial⟩
  ·have hkn:k=n:=by
     have hlt:¬(k:Int)<((60:Nat):Int):=hlt;omega
   clear hlt;have hgood:=kS.row (ds.take k);have hIn:=pN.row kS.ok.nd (ds.take k) fun d h=>hin d (List.mem_of_mem_take h)
   have hrl:=tq (ds.take k) aW;have e0:aW.nodes.length=1∧aW.seats.length=0:=⟨rfl,rfl⟩;have hel:(ds.take k).length≤60:=by rw [List.length_take];omega
   generalize bN aW (ds.take k)=T at hT hgood hIn hrl;have hnl:T.nodes.length≤1000000:=by omega
   have hsl:T.seats.length≤1000000:=by omega
   have hfit:oX T:=⟨hgood.ok.iq,hnl,hsl⟩;clear hrl hel;conv=>lhs;whnf
   repeat(first|refine aj hD rfl ?_
          conv=>lhs;whnf)
   refine(hD _).2 ⟨⟨T,B,O,t⟩,⟨rfl,hT,hnl⟩,fun v A2 hq=> ?_⟩;obtain⟨s2,hN2⟩:Ak.Sub A2∧kO (A2.minus Ak) v (aJ T):=hq;have hf2:=hN2.choose_spec.2.1.form;obtain⟨a2,c2,e2⟩:=hf2;subst e2;clear hN2;conv=>lhs;whnf
   repeat(first|refine aj hD rfl ?_
          conv=>lhs;whnf)
   refine af (fun h500=> ?_) (fun h500=> ?_)
   ·conv=>lhs;whnf
    repeat(first|refine aj hD rfl ?_
           conv=>lhs;whnf)
    exact(hD _).2 (hend _ (hsub.trans s2))
   have h500:(aJ T).length≤500:=by
    have h500:¬(500:Int)<((aJ T).length:Int):=h500;omega
   conv=>lhs;whnf
   repeat(first|refine aj hD rfl ?_
          conv=>lhs;whnf)
   refine(hD _).2 ⟨⟨T,B,O,t⟩,⟨rfl,bq hT s2,hfit.1,hsl⟩,fun v A3 hq=> ?_⟩;obtain⟨s3,hS3⟩:A2.Sub A3∧Sl (A3.minus A2) 3 (ak T).length v ((ak T).flatMap cz):=hq;obtain⟨a3,c3,e3⟩:=hS3.form;subst e3;clear hS3;conv=>lhs;whnf
   repeat(first|refine aj hD rfl ?_
          conv=>lhs;whnf)
   refine af (fun h200=> ?_) (fun h200=> ?_)
   ·conv=>lhs;whnf
    repeat(first|refine aj hD rfl ?_
           conv=>lhs;whnf)
    exact(hD _).2 (hend _ ((hsub.trans s2).trans s3))
   have h200:(ak T).length≤200:=by
    have h200:¬(200:Int)<((ak T).length:Int):=h200;omega
   have s13:=s2.trans s3;conv=>lhs;whnf
   repeat(first|refine aj hD rfl ?_
          conv=>lhs;whnf)
   refine(hD _).2 ⟨⟨T,B,O,t⟩,⟨rfl,bq hT s13,hnl⟩,fun v A4 hq=> ?_⟩;obtain⟨s4,hN4⟩:A3.Sub A4∧kO (A4.minus A3) v (aJ T):=hq;have hf4:=hN4.choose_spec.2.1.form;obtain⟨a4,c4,e4⟩:=hf4;subst e4;have hnr:=kY hN4 (bk A3 A4);obtain⟨l,hll,hR4⟩:=hnr;have hll2:l.length=(aJ T).length:=by rw [←hll,List.length_map]
   clear hN4;conv=>lhs;whnf
   repeat(first|refine aj hD rfl ?_
          conv=>lhs;whnf)
   have s14:=s13.trans s4;refine(hD _).2 ⟨⟨T,B,O,t⟩,⟨rfl,bq hT s14,hfit.1,hsl⟩,fun v A5 hq=> ?_⟩;obtain⟨s5,hS5⟩:A4.Sub A5∧Sl (A5.minus A4) 3 (ak T).length v ((ak T).flatMap cz):=hq;obtain⟨a5,c5,e5⟩:=hS5.form;subst e5;conv=>lhs;whnf
   repeat(first|refine aj hD rfl ?_
          conv=>lhs;whnf)
   refine(hD _).2 fun gm A6 hN=> ?_
   have hN:A5.New A6 gm #[.int .i64 1,.int .u8 1,.int .i64 1,.int .i64 0] 127:=hN;have hM6:gq A6 (.slice (some ⟨gm,0,none⟩) 1 1) bY:=⟨Sl.row (Nat.le_refl 1) (hN.rd (o:=0) (n:=1*4) (Nat.le_refl _)),by decide⟩;have s6:=hN.sub;clear hN;have s46:=s5.trans s6
   have hsh:oh l:=fun x hx=>by
    have h:=((tS hgood).1 x.1 (by rw [←hll];exact List.mem_map_of_mem hx)).1;have:=gN h;omega
   have hok:fP (l.map (·.1)) (ak T) 0 bY 0 7:=by
    rw [hll];exact pM hgood hIn h500 h200 (Int.le_refl 0) (by decide)
   have i7:I64 7:=⟨by decide,by decide⟩;have hsi:=pX hgood.ok.nd hgood.ok.iq hIn;have hii:EZ ⟨l,ak T,0,bY,0,7⟩:=⟨fun x hx=>EV hIn x.1 (by rw [←hll];exact List.mem_map_of_mem hx),fun x hx=>(hsi x hx).1,dE,i7⟩;have hA6:ImgA ⟨l,ak T,0,bY,0,7⟩ [.slice a4 (aJ T).length c4,.slice a5 (ak T).length c5,.agg #[.int .i64 0,.slice (some ⟨gm,0,none⟩) 1 1],.int .i64 0,.int .i64 7] A6:=⟨_,_,_,rfl,⟨hR4.1.sub s46,fun x hx=>(hR4.2 x hx).sub s46⟩,⟨hS5.sub ((bk _ _).trans s6),by show(ak T).length≤_;omega⟩,hM6,by show l.length≤1000000;omega,hsh⟩;conv=>lhs;whnf
   repeat(first|refine aj hD rfl ?_
          conv=>lhs;whnf)
   refine(hD _).2 ⟨(⟨l,ak T,0,bY,0,7⟩:ji),⟨hA6,hii⟩,fun v A7 hq=> ?_⟩;obtain⟨s7, -,hok7⟩:PutR ⟨l,ak T,0,bY,0,7⟩ A6 v A7:=hq;have h7:=hok7 hok;obtain⟨hlen7,L7,hv,hL7⟩:=h7;have hlen7:(ew (l.map (·.1)) (ak T) 0 bY 0 7).length≤1048576:=hlen7
   have hget:=vU hok (fun x hx=>by
    obtain⟨z,hz,rfl⟩:=List.mem_map.1 hx
    exact hii.1 z hz) hii.2.1 hii.2.2.1 hii.2.2.2 hlen7
   have hBl:(de (ew (l.map (·.1)) (ak T) 0 bY 0 7)).length=8+(ew (l.map (·.1)) (ak T) 0 bY 0 7).length:=jA _;have hL7:LsN A6 A7 L7 ((de (ew (l.map (·.1)) (ak T) 0 bY 0 7)).map bv):=hL7;generalize de (ew (l.map (·.1)) (ak T) 0 bY 0 7)=X at*;have hX:X.length≤900000000:=by omega
   have hB7:=zr hL7 (by omega);have hap:=hL7.1.app;obtain⟨b7,hb7, -⟩:=hap;rw [hb7]at hv hB7;subst hv;clear hok7 hL7 hb7 hBl hlen7 hA6 hS5 hR4 hM6;conv=>lhs;whnf
   repeat(first|refine aj hD rfl ?_
          conv=>lhs;whnf)
   refine(hD _).2 ⟨X,⟨_,rfl,hB7,hX⟩,fun v A8 hq=> ?_⟩;obtain⟨s8, -,hok8⟩:E3 X A7 v A8:=hq;have h8:=hok8 _ _ _ _ _ _ hget;obtain⟨xs,x,y,z,hxs,hv,hN8,hS8,hM8⟩:=h8;obtain⟨b1,d1,e1⟩:=hN8.1.form;subst e1;obtain⟨b2,d2,e2⟩:=hS8.1.form;subst e2;obtain⟨b3,d3,e3⟩:=hM8.1.form;subst e3;subst hv;clear hok8;rw [hll]at hxs;conv=>lhs;whnf
   repeat(first|refine aj hD rfl ?_
          conv=>lhs;whnf)
   refine(hD _).2 ⟨(),rfl,fun v A9 hq=> ?_⟩;obtain⟨u,Ou,hv,hU,s9,hOu⟩:∃t O,v= .pointer (some ⟨t,0,none⟩)∧ba A9 aa.void O t aW∧A8.Sub A9∧∀k,O k→A8.blk k=none:=hq;subst hv;have s48:A4.Sub A8:=(s46.trans s7).trans s8;have hT8:=bq hT (s14.trans s48);have hT9:=bq hT8 s9;have hvd:∀k o,aa.void.blk k=some o→A8.blk k=none:=fun k o hk=>by cases hk
   have hAp:=rl hT8 hOu hvd;have hAs9:Aside A9 A8 Ou:=⟨s9,fun k o hk hO=>by rw [hOu k hO]at hk;cases hk⟩;have hNR:eL A8 (.slice b1 xs.length d1) xs:=⟨hN8.1.sub (bk _ _),fun x hx=>(hN8.2 x hx).sub (bk _ _)⟩;have hSS:SlS A8 (.slice b2 (ak T).length d2) (ak T):=⟨hS8.1.sub (bk _ _),hS8.2⟩;have hMM:gq A8 (.slice b3 bY.length d3) bY:=hM8.sub (bk _ _)
   have hxl:xs.length≤1000000:=by
    have h:=congrArg List.length hxs;rw [List.length_map,List.length_map]at h;omega
   have hlc:hF (xs.map (·.1)):=by
    rw [hxs,←hll];exact(lK hok).1
   conv=>lhs;whnf
   repeat(first|refine aj hD rfl ?_
          conv=>lhs;whnf)
   refine(hD _).2 ⟨(⟨aW,aa.void,Ou,u⟩,xs,A8),⟨_,rfl,hU,hNR,hxl,hAs9⟩,fun v A10 hq=> ?_⟩;have hq:if hF (xs.map (·.1))then v= .int .i64 0∧aN A9 aa.void Ou u ⟨cw (xs.map (·.1)),aW.seats⟩ A10 else v= .int .i64 4∧A10=A9:=hq
   rw [if_pos hlc,hxs]at hq;obtain⟨hv,B10,O10,hU10,hS10⟩:=hq;subst hv;have h210:=kQ hT9 hAp.symm hS10;have hT10:=h210.1;have hAp10:=h210.2;have s810:A8.Sub A10:=hS10.stays hAs9.1 hAs9.2;have hAs10:=hAs9.step hS10;conv=>lhs;whnf
   repeat(first|refine aj hD rfl ?_
          conv=>lhs;whnf)
   refine(hD _).2 fun gm2 A11 hN=> ?_
   have hN:A10.New A11 gm2 #[.int .i64 1,.int .u8 1,.int .i64 1,.int .i64 0] 127:=hN;have hM11:gq A11 (.slice (some ⟨gm2,0,none⟩) 1 1) bY:=⟨Sl.row (Nat.le_refl 1) (hN.rd (o:=0) (n:=1*4) (Nat.le_refl _)),by decide⟩;have s11:=hN.sub;clear hN;conv=>lhs;whnf
   repeat(first|refine fJ rfl ?_|refine aj hD rfl ?_
          conv=>lhs;whnf)
   refine(hD _).2 ⟨((bY,bY):List bC×List bC),⟨_,_,rfl,hMM.sub (s810.trans s11),hM11⟩,fun v A' hq=> ?_⟩;have hq:A'=A11∧v= .bool (decide ((bY=bY))):=hq;rw [decide_eq_true rfl]at hq;have h9:=hq.1.symm;have hv:=hq.2;subst h9;subst hv;conv=>lhs;whnf
   repeat(first|refine fJ rfl ?_|refine aj hD rfl ?_
          conv=>lhs;whnf)
   have hAs11:Aside A11 A8 O10:=⟨hAs10.1.trans s11,hAs10.2⟩;refine(hD _).2 ⟨(⟨⟨cw ((aJ T).map dx),aW.seats⟩,B10,O10,u⟩,ak T,A8),⟨_,rfl,bq hU10 s11,hSS,hAs11⟩,fun v A12 hq=> ?_⟩;have hq:v= .tuple #[]∧aN A11 B10 O10 u ⟨cw ((aJ T).map dx),bz (ak T)⟩ A12:=hq;obtain⟨hv,B12,O12,hU12,hS12⟩:=hq;subst hv;have h212:=kQ (bq hT10 s11) hAp10 hS12;have hT12:=h212.1;have s812:A8.Sub A12:=hS12.stays hAs11.1 hAs11.2;have hsim:=vo hgood;have hsame:rn T ⟨cw ((aJ T).map dx),bz (ak T)⟩:=hsim.same hgood.ok.nd (ba.nd hU12)
   have hfu:oX ⟨cw ((aJ T).map dx),bz (ak T)⟩:=by
    have h1:=sC ((aJ T).map dx);have h2:=gM (ak T) [];rw [List.length_map]at h1;refine⟨oB hsim hgood.ok (ba.nd hU12),by show(cw ((aJ T).map dx)).length≤1000000;omega,?_⟩;show((ak T).foldl eF []).length≤_
    simp only [List.length_nil]at h2;omega
   conv=>lhs;whnf
   repeat(first|refine aj hD rfl ?_
          conv=>lhs;whnf)
   refine(hD _).2 ⟨(⟨T,B,O,t⟩,⟨⟨cw ((aJ T).map dx),bz (ak T)⟩,B12,O12,u⟩),⟨rfl,hT12,hU12,hfit,hfu⟩,fun v A13 hq=> ?_⟩;have hq:A12.Sub A13∧v= .bool (decide (rn T ⟨cw ((aJ T).map dx),bz (ak T)⟩)):=hq;have s13':=hq.1;have hv:=hq.2;rw [decide_eq_true hsame]at hv;subst hv;have hfin:=hend A13 ((((hsub.trans s14).trans s48).trans s812).trans s13');conv=>lhs;whnf
   repeat(first|refine aj hD rfl ?_
          conv=>lhs;whnf)
   exact(hD _).2 hfin
 ·have hn:∃n:Nat,n=ds.length∧n≤ds.length∧n≤60:=⟨_,rfl,Nat.le_refl _,by
    have h60:¬(60:Int)<ds.length:=h60
    omega⟩
  conv=>lhs;whnf
  repeat(first|refine aj hD rfl ?_
         conv=>lhs;whnf)
  refine(hD _).2 ⟨(),rfl,fun v A1 hq=> ?_⟩;obtain⟨t,O1,hv,hT1,s1,hO1⟩:∃t O,v= .pointer (some ⟨t,0,none⟩)∧ba A1 aa.void O t aW∧A.Sub A1∧∀k,O k→A.blk k=none:=hq;subst hv;conv=>lhs;whnf
  repeat(first|refine aj hD rfl ?_
         conv=>lhs;whnf)
  obtain⟨n,hnL,hnd,hn60⟩:=hn
  have hrown:∀k,k<n→∃g1 o1,ao=some ⟨g1,o1,none⟩∧∃cs,A.rd g1 (o1+k*16) 16=some cs∧∃d,ds[k]? =some d∧cQ A d cs∧ib d:=fun k hk=>by
   obtain⟨g1,o1,e,cs,h1,h2⟩:=hrow k (by omega);exact⟨g1,o1,e,cs,h1,ds[k],List.getElem?_eq_getElem _,h2,hin _ (List.getElem_mem _)⟩
  have hI0:ItI A ds n t ⟨0,A1,aa.void,O1⟩:=⟨Nat.zero_le _,s1,hT1,hO1,fun k o hk=>by cases hk⟩;refine(hD _).2 ⟨itInv A ds n t [(0,.v (.slice ao ds.length c)),(3,.v (.pointer (some ⟨t,0,none⟩)))],⟨(⟨0,A1,aa.void,O1⟩:ItG),hI0,⟨rfl,rfl,rfl,trivial⟩,trivial,rfl⟩,fun(s:ItG) hG=>⟨⟨trivial,trivial,trivial,trivial⟩,trivial,?_⟩⟩;clear hI0;obtain⟨k,Ak,B,O⟩:=s;obtain⟨hk,hsub,hT,hown,hnew⟩:ItI A ds n t ⟨k,Ak,B,O⟩:=hG;dsimp only at hk hsub hT hown hnew;conv=>lhs;whnf
  refine af (fun hlt=> ?_) (fun hlt=> ?_)
  ·have hkn:k<n:=by
     have hlt:(k:Int)<((ds.length:Nat):Int):=hlt;omega
   have i0:(0:Int)≤(k:Int)∧(k:Int)<((ds.length:Nat):Int):=by omega
   have hrk:=hrown k hkn;obtain⟨g1,o1,e0,cs,r1,d,hdk,hR1, -⟩:=hrk
   have htk:bN aW (ds.take (k+1))=aC (bN aW (ds.take k)) d:=by
    rw [List.take_add_one,hdk,Option.toList_some,pZ];rfl
   have hAs:Aside Ak A O:=⟨hsub,fun j o hj hO=>by rw [hown j hO]at hj;cases hj⟩;obtain⟨⟨zxid,kind,ses,turn,xid,dtime,path,data,owner,ver,cver,tmo,err,cfg,mem⟩,parts⟩:=d;have hR0:=hR1;rw [cQ]at hR1;dsimp only [c7.cells]at hR1;obtain⟨vd,vm,vp,rws,hcs, -,hd1,hM,hSp,hlen2,hRows⟩:=hR1;subst hcs;obtain⟨a7,k7,e7⟩:=hd1.1.form;subst e7;obtain⟨a14,k14,e14⟩:=hM.1.form;subst e14;obtain⟨a15,k15,e15⟩:=hSp.form;subst e15;have r2:=bI hsub r1;have r2p:=ir r2 (i:=15) (m:=1) (by omega);have r2p:Ak.rd g1 (o1+k*16+15) 1=some [.slice a15 parts.length k15]:=r2p;subst e0;conv=>lhs;whnf
   repeat(first|refine cO i0 ?_|refine ai r2p ?_|refine aj hD rfl ?_
          conv=>lhs;whnf)
   refine af (fun h60p=> ?_) (fun h60p=> ?_)
   ·conv=>lhs;whnf
    repeat(first|refine aj hD rfl ?_
           conv=>lhs;whnf)
    exact(hD _).2 (hend _ hsub)
   conv=>lhs;whnf
   repeat(first|refine cO i0 ?_|refine ai r2 ?_|refine aj hD rfl ?_
          conv=>lhs;whnf)
   obtain⟨dd,hdd⟩:∃dd:aU,dd= .mk ⟨zxid,kind,ses,turn,xid,dtime,path,data,owner,ver,cver,tmo,err,cfg,mem⟩ parts:=⟨_,rfl⟩;rw [←hdd]at hR0 htk;refine(hD _).2 ⟨(⟨bN aW (ds.take k),B,O,t⟩,dd,A),⟨_,rfl,hT,hR0,hHas,hAs⟩,fun v A4 hq=> ?_⟩;obtain⟨B4,O4,hT4,hS4⟩:aN Ak B O t (aC (bN aW (ds.take k)) dd) A4:=hq;have hnone:∀j,Ak.blk j=none→A.blk j=none:=fun j hj=>gA hsub hj
   have hI:ItI A ds n t ⟨k+1,A4,B4,O4⟩:=⟨by show k+1≤n;omega,(hAs.step hS4).1,by show ba A4 B4 O4 t (bN aW (ds.take (k+1)));rw [htk];exact hT4,fun j hj=>by
    rcases hS4.own j hj with h1|h1
    ·exact hown j h1
    ·exact hnone j h1,fun j o hj=>by
    rcases hS4.new j o hj with h1|h1
    ·exact hnew j o h1
    ·exact hnone j h1⟩
   conv=>lhs;whnf
   repeat(first|refine aj hD rfl ?_
          conv=>lhs;whnf)
   exact(hD _).2 ⟨(⟨k+1,A4,B4,O4⟩:ItG),⟨hI,⟨bf (k:=k) (by omega),rfl,rfl,trivial⟩,trivial,rfl⟩,by show n-(k+1)<n-k;omega,trivial,trivial⟩
  ·have hkn:k=n:=by
     have hlt:¬(k:Int)<((ds.length:Nat):Int):=hlt;omega
   clear hlt;have hgood:=kS.row (ds.take k);have hIn:=pN.row kS.ok.nd (ds.take k) fun d h=>hin d (List.mem_of_mem_take h)
   have hrl:=tq (ds.take k) aW;have e0:aW.nodes.length=1∧aW.seats.length=0:=⟨rfl,rfl⟩;have hel:(ds.take k).length≤60:=by rw [List.length_take];omega
   generalize bN aW (ds.take k)=T at hT hgood hIn hrl;have hnl:T.nodes.length≤1000000:=by omega
   have hsl:T.seats.length≤1000000:=by omega
   have hfit:oX T:=⟨hgood.ok.iq,hnl,hsl⟩;clear hrl hel;conv=>lhs;whnf
   repeat(first|refine aj hD rfl ?_
          conv=>lhs;whnf)
   refine(hD _).2 ⟨⟨T,B,O,t⟩,⟨rfl,hT,hnl⟩,fun v A2 hq=> ?_⟩;obtain⟨s2,hN2⟩:Ak.Sub A2∧kO (A2.minus Ak) v (aJ T):=hq;have hf2:=hN2.choose_spec.2.1.form;obtain⟨a2,c2,e2⟩:=hf2;subst e2;clear hN2;conv=>lhs;whnf
   repeat(first|refine aj hD rfl ?_
          conv=>lhs;whnf)
   refine af (fun h500=> ?_) (fun h500=> ?_)
   ·conv=>lhs;whnf
    repeat(first|refine aj hD rfl ?_
           conv=>lhs;whnf)
    exact(hD _).2 (hend _ (hsub.trans s2))
   have h500:(aJ T).length≤500:=by
    have h500:¬(500:Int)<((aJ T).length:Int):=h500;omega
   conv=>lhs;whnf
   repeat(first|refine aj hD rfl ?_
          conv=>lhs;whnf)
   refine(hD _).2 ⟨⟨T,B,O,t⟩,⟨rfl,bq hT s2,hfit.1,hsl⟩,fun v A3 hq=> ?_⟩;obtain⟨s3,hS3⟩:A2.Sub A3∧Sl (A3.minus A2) 3 (ak T).length v ((ak T).flatMap cz):=hq;obtain⟨a3,c3,e3⟩:=hS3.form;subst e3;clear hS3;conv=>lhs;whnf
   repeat(first|refine aj hD rfl ?_
          conv=>lhs;whnf)
   refine af (fun h200=> ?_) (fun h200=> ?_)
   ·conv=>lhs;whnf
    repeat(first|refine aj hD rfl ?_
           conv=>lhs;whnf)
    exact(hD _).2 (hend _ ((hsub.trans s2).trans s3))
   have h200:(ak T).length≤200:=by
    have h200:¬(200:Int)<((ak T).length:Int):=h200;omega
   have s13:=s2.trans s3;conv=>lhs;whnf
   repeat(first|refine aj hD rfl ?_
          conv=>lhs;whnf)
   refine(hD _).2 ⟨⟨T,B,O,t⟩,⟨rfl,bq hT s13,hnl⟩,fun v A4 hq=> ?_⟩;obtain⟨s4,hN4⟩:A3.Sub A4∧kO (A4.minus A3) v (aJ T):=hq;have hf4:=hN4.choose_spec.2.1.form;obtain⟨a4,c4,e4⟩:=hf4;subst e4;have hnr:=kY hN4 (bk A3 A4);obtain⟨l,hll,hR4⟩:=hnr;have hll2:l.length=(aJ T).length:=by rw [←hll,List.length_map]
   clear hN4;conv=>lhs;whnf
   repeat(first|refine aj hD rfl ?_
          conv=>lhs;whnf)
   have s14:=s13.trans s4;refine(hD _).2 ⟨⟨T,B,O,t⟩,⟨rfl,bq hT s14,hfit.1,hsl⟩,fun v A5 hq=> ?_⟩;obtain⟨s5,hS5⟩:A4.Sub A5∧Sl (A5.minus A4) 3 (ak T).length v ((ak T).flatMap cz):=hq;obtain⟨a5,c5,e5⟩:=hS5.form;subst e5;conv=>lhs;whnf
   repeat(first|refine aj hD rfl ?_
          conv=>lhs;whnf)
   refine(hD _).2 fun gm A6 hN=> ?_
   have hN:A5.New A6 gm #[.int .i64 1,.int .u8 1,.int .i64 1,.int .i64 0] 127:=hN;have hM6:gq A6 (.slice (some ⟨gm,0,none⟩) 1 1) bY:=⟨Sl.row (Nat.le_refl 1) (hN.rd (o:=0) (n:=1*4) (Nat.le_refl _)),by decide⟩;have s6:=hN.sub;clear hN;have s46:=s5.trans s6
   have hsh:oh l:=fun x hx=>by
    have h:=((tS hgood).1 x.1 (by rw [←hll];exact List.mem_map_of_mem hx)).1;have:=gN h;omega
   have hok:fP (l.map (·.1)) (ak T) 0 bY 0 7:=by
    rw [hll];exact pM hgood hIn h500 h200 (Int.le_refl 0) (by decide)
   have i7:I64 7:=⟨by decide,by decide⟩;have hsi:=pX hgood.ok.nd hgood.ok.iq hIn;have hii:EZ ⟨l,ak T,0,bY,0,7⟩:=⟨fun x hx=>EV hIn x.1 (by rw [←hll];exact List.mem_map_of_mem hx),fun x hx=>(hsi x hx).1,dE,i7⟩;have hA6:ImgA ⟨l,ak T,0,bY,0,7⟩ [.slice a4 (aJ T).length c4,.slice a5 (ak T).length c5,.agg #[.int .i64 0,.slice (some ⟨gm,0,none⟩) 1 1],.int .i64 0,.int .i64 7] A6:=⟨_,_,_,rfl,⟨hR4.1.sub s46,fun x hx=>(hR4.2 x hx).sub s46⟩,⟨hS5.sub ((bk _ _).trans s6),by show(ak T).length≤_;omega⟩,hM6,by show l.length≤1000000;omega,hsh⟩;conv=>lhs;whnf
   repeat(first|refine aj hD rfl ?_
          conv=>lhs;whnf)
   refine(hD _).2 ⟨(⟨l,ak T,0,bY,0,7⟩:ji),⟨hA6,hii⟩,fun v A7 hq=> ?_⟩;obtain⟨s7, -,hok7⟩:PutR ⟨l,ak T,0,bY,0,7⟩ A6 v A7:=hq;have h7:=hok7 hok;obtain⟨hlen7,L7,hv,hL7⟩:=h7;have hlen7:(ew (l.map (·.1)) (ak T) 0 bY 0 7).length≤1048576:=hlen7
   have hget:=vU hok (fun x hx=>by
    obtain⟨z,hz,rfl⟩:=List.mem_map.1 hx
    exact hii.1 z hz) hii.2.1 hii.2.2.1 hii.2.2.2 hlen7
   have hBl:(de (ew (l.map (·.1)) (ak T) 0 bY 0 7)).length=8+(ew (l.map (·.1)) (ak T) 0 bY 0 7).length:=jA _;have hL7:LsN A6 A7 L7 ((de (ew (l.map (·.1)) (ak T) 0 bY 0 7)).map bv):=hL7;generalize de (ew (l.map (·.1)) (ak T) 0 bY 0 7)=X at*;have hX:X.length≤900000000:=by omega
   have hB7:=zr hL7 (by omega);have hap:=hL7.1.app;obtain⟨b7,hb7, -⟩:=hap;rw [hb7]at hv hB7;subst hv;clear hok7 hL7 hb7 hBl hlen7 hA6 hS5 hR4 hM6;conv=>lhs;whnf
   repeat(first|refine aj hD rfl ?_
          conv=>lhs;whnf)
   refine(hD _).2 ⟨X,⟨_,rfl,hB7,hX⟩,fun v A8 hq=> ?_⟩;obtain⟨s8, -,hok8⟩:E3 X A7 v A8:=hq;have h8:=hok8 _ _ _ _ _ _ hget;obtain⟨xs,x,y,z,hxs,hv,hN8,hS8,hM8⟩:=h8;obtain⟨b1,d1,e1⟩:=hN8.1.form;subst e1;obtain⟨b2,d2,e2⟩:=hS8.1.form;subst e2;obtain⟨b3,d3,e3⟩:=hM8.1.form;subst e3;subst hv;clear hok8;rw [hll]at hxs;conv=>lhs;whnf
   repeat(first|refine aj hD rfl ?_
          conv=>lhs;whnf)
   refine(hD _).2 ⟨(),rfl,fun v A9 hq=> ?_⟩;obtain⟨u,Ou,hv,hU,s9,hOu⟩:∃t O,v= .pointer (some ⟨t,0,none⟩)∧ba A9 aa.void O t aW∧A8.Sub A9∧∀k,O k→A8.blk k=none:=hq;subst hv;have s48:A4.Sub A8:=(s46.trans s7).trans s8;have hT8:=bq hT (s14.trans s48);have hT9:=bq hT8 s9;have hvd:∀k o,aa.void.blk k=some o→A8.blk k=none:=fun k o hk=>by cases hk
   have hAp:=rl hT8 hOu hvd;have hAs9:Aside A9 A8 Ou:=⟨s9,fun k o hk hO=>by rw [hOu k hO]at hk;cases hk⟩;have hNR:eL A8 (.slice b1 xs.length d1) xs:=⟨hN8.1.sub (bk _ _),fun x hx=>(hN8.2 x hx).sub (bk _ _)⟩;have hSS:SlS A8 (.slice b2 (ak T).length d2) (ak T):=⟨hS8.1.sub (bk _ _),hS8.2⟩;have hMM:gq A8 (.slice b3 bY.length d3) bY:=hM8.sub (bk _ _)
   have hxl:xs.length≤1000000:=by
    have h:=congrArg List.length hxs;rw [List.length_map,List.length_map]at h;omega
   have hlc:hF (xs.map (·.1)):=by
    rw [hxs,←hll];exact(lK hok).1
   conv=>lhs;whnf
   repeat(first|refine aj hD rfl ?_
          conv=>lhs;whnf)
   refine(hD _).2 ⟨(⟨aW,aa.void,Ou,u⟩,xs,A8),⟨_,rfl,hU,hNR,hxl,hAs9⟩,fun v A10 hq=> ?_⟩;have hq:if hF (xs.map (·.1))then v= .int .i64 0∧aN A9 aa.void Ou u ⟨cw (xs.map (·.1)),aW.seats⟩ A10 else v= .int .i64 4∧A10=A9:=hq
   rw [if_pos hlc,hxs]at hq;obtain⟨hv,B10,O10,hU10,hS10⟩:=hq;subst hv;have h210:=kQ hT9 hAp.symm hS10;have hT10:=h210.1;have hAp10:=h210.2;have s810:A8.Sub A10:=hS10.stays hAs9.1 hAs9.2;have hAs10:=hAs9.step hS10;conv=>lhs;whnf
   repeat(first|refine aj hD rfl ?_
          conv=>lhs;whnf)
   refine(hD _).2 fun gm2 A11 hN=> ?_
   have hN:A10.New A11 gm2 #[.int .i64 1,.int .u8 1,.int .i64 1,.int .i64 0] 127:=hN;have hM11:gq A11 (.slice (some ⟨gm2,0,none⟩) 1 1) bY:=⟨Sl.row (Nat.le_refl 1) (hN.rd (o:=0) (n:=1*4) (Nat.le_refl _)),by decide⟩;have s11:=hN.sub;clear hN;conv=>lhs;whnf
   repeat(first|refine fJ rfl ?_|refine aj hD rfl ?_
          conv=>lhs;whnf)
   refine(hD _).2 ⟨((bY,bY):List bC×List bC),⟨_,_,rfl,hMM.sub (s810.trans s11),hM11⟩,fun v A' hq=> ?_⟩;have hq:A'=A11∧v= .bool (decide ((bY=bY))):=hq;rw [decide_eq_true rfl]at hq;have h9:=hq.1.symm;have hv:=hq.2;subst h9;subst hv;conv=>lhs;whnf
   repeat(first|refine fJ rfl ?_|refine aj hD rfl ?_
          conv=>lhs;whnf)
   have hAs11:Aside A11 A8 O10:=⟨hAs10.1.trans s11,hAs10.2⟩;refine(hD _).2 ⟨(⟨⟨cw ((aJ T).map dx),aW.seats⟩,B10,O10,u⟩,ak T,A8),⟨_,rfl,bq hU10 s11,hSS,hAs11⟩,fun v A12 hq=> ?_⟩;have hq:v= .tuple #[]∧aN A11 B10 O10 u ⟨cw ((aJ T).map dx),bz (ak T)⟩ A12:=hq;obtain⟨hv,B12,O12,hU12,hS12⟩:=hq;subst hv;have h212:=kQ (bq hT10 s11) hAp10 hS12;have hT12:=h212.1;have s812:A8.Sub A12:=hS12.stays hAs11.1 hAs11.2;have hsim:=vo hgood;have hsame:rn T ⟨cw ((aJ T).map dx),bz (ak T)⟩:=hsim.same hgood.ok.nd (ba.nd hU12)
   have hfu:oX ⟨cw ((aJ T).map dx),bz (ak T)⟩:=by
    have h1:=sC ((aJ T).map dx);have h2:=gM (ak T) [];rw [List.length_map]at h1;refine⟨oB hsim hgood.ok (ba.nd hU12),by show(cw ((aJ T).map dx)).length≤1000000;omega,?_⟩;show((ak T).foldl eF []).length≤_
    simp only [List.length_nil]at h2;omega
   conv=>lhs;whnf
   repeat(first|refine aj hD rfl ?_
          conv=>lhs;whnf)
   refine(hD _).2 ⟨(⟨T,B,O,t⟩,⟨⟨cw ((aJ T).map dx),bz (ak T)⟩,B12,O12,u⟩),⟨rfl,hT12,hU12,hfit,hfu⟩,fun v A13 hq=> ?_⟩;have hq:A12.Sub A13∧v= .bool (decide (rn T ⟨cw ((aJ T).map dx),bz (ak T)⟩)):=hq;have s13':=hq.1;have hv:=hq.2;rw [decide_eq_true hsame]at hv;subst hv;have hfin:=hend A13 ((((hsub.trans s14).trans s48).trans s812).trans s13');conv=>lhs;whnf
   repeat(first|refine aj hD rfl ?_
          conv=>lhs;whnf)
   exact(hD _).2 hfin
end
end Go.Proofs.YtmmlhdiejkknnaaGreatDoor
namespace Go.Sx
noncomputable section
open Go.RowKit Go.ChangeShapes Go.WideShapes
theorem list4{α:Type}{l:List α}(h:l.length=4):∃v0 v1 v2 v3,l= [v0,v1,v2,v3]:=by
 match l,h with
 | [v0,v1,v2,v3],_=>exact⟨v0,v1,v2,v3,rfl⟩
theorem list16{α:Type}{l:List α}(h:l.length=16):∃v0 v1 v2 v3 v4 v5 v6 v7 v8 v9 v10 v11 v12 v13 v14 v15,l= [v0,v1,v2,v3,v4,v5,v6,v7,v8,v9,v10,v11,v12,v13,v14,v15]:=by
 match l,h with
 | [v0,v1,v2,v3,v4,v5,v6,v7,v8,v9,v10,v11,v12,v13,v14,v15],_=>exact⟨v0,v1,v2,v3,v4,v5,v6,v7,v8,v9,v10,v11,v12,v13,v14,v15,rfl⟩
def eP(W:World):aa:=aa.of fun k=>W.heap[k]?
theorem qZ{W:World}{a:Addr}{n:Nat}{cs:List Value}(h:W.cells? 0 a n=some cs)(hn:0<n):a.spot=none:=by
 unfold World.cells? at h;rw [if_pos (Nat.zero_le _)]at h;have h1:=mapM_some_get h 0 0 (by simp [hn]);have hl:=mapM_some_length h;rw [List.length_range]at hl;have h2:cs[0]? =some cs[0]:=List.getElem?_eq_getElem (by omega);rw [h2]at h1;unfold World.cell? Addr.add at h1;simp only [if_true]at h1
 split at h1
 ·split at h1
  ·cases h1
  ·rename_i h3
   cases hs:a.spot with
   |none=>rfl
   |some s=>rw [hs]at h3;simp at h3
 ·cases h1
theorem wB{W:World}{g o:Nat}{n:Nat}{cs:List Value}(h:W.cells? 0 ⟨g,o,none⟩ n=some cs)(hn:0<n):(eP W).rd g o n=some cs:=by
 unfold World.cells? at h;rw [if_pos (Nat.zero_le _)]at h;have hl:=mapM_some_length h;rw [List.length_range]at hl
 have key:∀i,i<n→∃c t fz,W.heap[g]? =some (.cells c t fz)∧c[o+i]? =cs[i]? :=fun i hi=>by
  have h1:=mapM_some_get h i i (by simp [hi]);have h2:cs[i]? =some cs[i]:=List.getElem?_eq_getElem (by omega);rw [h2]at h1;unfold World.cell? at h1;rw [cE]at h1;simp only at h1
  split at h1
  ·rename_i c t fz hb
   simp only [Option.isSome_none,Bool.false_eq_true,if_false]at h1;exact⟨c,t,fz,hb,by rw [h1,h2]⟩
  ·cases h1
 obtain⟨c,t,fz,hb,_⟩:=key 0 hn
 have hle:o+n≤c.size:=by
  obtain⟨c',t',fz',hb',h3⟩:=key (n-1) (by omega);rw [hb]at hb';injection hb' with hb'
  injection hb' with e1 e2 e3
  subst e1;have h4:cs[n-1]? =some cs[n-1]:=List.getElem?_eq_getElem (by omega);rw [h4]at h3;have:=(Array.getElem?_eq_some_iff.1 h3).1;omega
 rw [rd_mk (A:=eP W) (c:=c) (t:=t) (fz:=fz) hb hle];congr 1;refine List.ext_getElem? fun i=> ?_
 by_cases hi:i<n
 ·obtain⟨c',t',fz',hb',h3⟩:=key i hi
  rw [hb]at hb';injection hb' with hb'
  injection hb' with e1 e2 e3
  subst e1;rw [List.getElem?_take_of_lt hi,List.getElem?_drop,Array.getElem?_toList,h3]
 ·rw [List.getElem?_eq_none (by simp;omega),List.getElem?_eq_none (by omega)]
theorem rd_join{A:aa}{g o n m:Nat}{xs ys:List Value}(h1:A.rd g o n=some xs)(h2:A.rd g (o+n) m=some ys):A.rd g o (n+m)=some (xs++ys):=by
 obtain⟨c,t,fz,hb,hle,rfl⟩:=rd_some h1;obtain⟨c',t',fz',hb',hle',rfl⟩:=rd_some h2;rw [hb]at hb';injection hb' with hb'
 injection hb' with e1 e2 e3
 subst e1;rw [rd_mk hb (by omega),List.take_add,List.drop_drop]
section
variable {H:Type} {enc:TypeId×Value→H} {P:Program} {W:World}
abbrev eQ(enc:TypeId×Value→H)(P:Program)(W:World)(n:Nat)(t:TypeId)(cs:List Value):Option (DataW H×List MemPlace):=DataW.trod enc P W 0 (fun _=>true) true n t cs
def ey(P:Program)(t:TypeId)(d:DataW H):Prop:=∀z∈d.weights P t,z≤140737488351232
theorem jV{e:TypeId} :∀ {l:List (DataW H)} {d:DataW H},d∈l→∀z∈d.weights P e,z∈DataW.weightsAll P e l
 | [],d,h=>by cases h
 |x::l,d,h=>fun z hz=>by
  simp only [DataW.weightsAll,List.mem_append];rcases List.mem_cons.1 h with rfl|h
  ·exact .inl hz
  ·exact .inr (jV h z hz)
theorem fZ:∀ {ts:List TypeId} {l:List (DataW H)} {i:Nat} {t:TypeId} {d:DataW H},ts[i]? =some t→l[i]? =some d→∀z∈d.weights P t,z∈DataW.weightsEach P ts l
 | [],_,_,_,_,h1,_=>by simp at h1
 |_::_, [],_,_,_,_,h2=>by simp at h2
 |t'::ts,d'::l,0,t,d,h1,h2=>fun z hz=>by
  simp only [List.getElem?_cons_zero,Option.some.injEq]at h1 h2;subst h1;subst h2
  simp only [DataW.weightsEach,List.mem_append];exact .inl hz
 |t'::ts,d'::l,i+1,t,d,h1,h2=>fun z hz=>by
  simp only [List.getElem?_cons_succ]at h1 h2;simp only [DataW.weightsEach,List.mem_append];exact .inr (fZ h1 h2 z hz)
theorem CL{ts:List TypeId}{l:List (DataW H)}(h:(DataW.weightsEach P ts l).all (· ≤reachBytes)=true)(i:Nat){t:TypeId}{d:DataW H}(h1:ts[i]? =some t)(h2:l[i]? =some d):ey P t d:=fun z hz=>by
 have h3:=List.all_eq_true.1 h z (fZ h1 h2 z hz);have h4:z≤reachBytes:=by simpa using h3
 exact h4
theorem xk{t e:TypeId}(ht:P.underlying t=some (.slice e)){r:Reach}{b:Nat}{v:Value}(h:Value.okWide P W r b t v):v.cells.toList= [v]:=by
 unfold Value.okWide at h;rw [ht]at h;simp only [Cell.okWide,Cell.ok,ht]at h
 cases v with
 |slice a l c=>rfl
 |_=>exact h.elim
theorem mq{t e:TypeId}{es B:Nat}(ht:P.underlying t=some (.slice e))(hes:P.cellsOf e=es)(hes0:0<es)(hB:P.bytesOf e=B){n:Nat}{x:DataW H×List MemPlace}{v:Value}(h:eQ enc P W n t [v]=some x)(hw:ey P t x.1):
  ∃rows:List (List Value),Sl (eP W) es rows.length v rows.flatten∧rows.length*B≤140737488351232∧∀r∈rows,r.length=es∧∃m y,m<n∧eQ enc P W m e r=some y∧ey P e y.1:=by
 rcases DataW.trod_slice ht h with⟨hn,_⟩|⟨a,len,cap,elems,rest,m,hm,hn,hx,_,hle,_,hel,hrd,hsp,_⟩
 ·obtain rfl:v= .slice none 0 0:=by simpa using hn
  exact⟨[],Sl.nil _ _,by simp,by simp⟩
 ·obtain rfl:v= .slice (some a) len cap:=by simpa using hn
  obtain⟨hr1,hr2⟩:=hsp rfl;subst hes
  have hone:∀i,i<len→∃cs y,W.cells? 0 (a.add (i*P.cellsOf e)) (P.cellsOf e)=some cs∧eQ enc P W m e cs=some y∧elems[i]? =some y:=fun i hi=>by
   have h1:=hrd i hi;have h2:elems[i]? =some elems[i]:=List.getElem?_eq_getElem (by omega);rw [h2,Option.bind_eq_some_iff]at h1;obtain⟨cs,h3,h4⟩:=h1;exact⟨cs,_,h3,h4,h2⟩
  have hspot:0<cap→a.spot=none:=fun hc=>by
   by_cases h0:0<len
   ·obtain⟨cs,y,h1,_⟩:=hone 0 h0
    rw [Nat.zero_mul]at h1;exact qZ (a:=a) (by simpa [Addr.add]using h1) hes0
   ·have h1:=hr2 0 (by omega)
    have h2:rest[0]? =some rest[0]:=List.getElem?_eq_getElem (by omega);rw [h2,Option.bind_eq_some_iff]at h1;obtain⟨cs,h3,_⟩:=h1;have h0:len=0:=by omega
    subst h0;exact qZ (a:=a) (by simpa [Addr.add]using h3) hes0
  have hfit:∀y∈elems,ey P e y.1:=fun y hy z hz=>by
   refine hw z ?_;rw [hx];simp only [DataW.weights,ht,List.mem_cons,List.mem_append];exact .inr (.inl (jV (List.mem_map.2 ⟨y,hy,rfl⟩) z hz))
  have hrows:∀k,k≤len→∃rows:List (List Value),rows.length=k∧(0<k→(eP W).rd a.block a.off (k*P.cellsOf e)=some rows.flatten)∧∀r∈rows,r.length=P.cellsOf e∧∃m y,m<n∧eQ enc P W m e r=some y∧ey P e y.1:=fun k=>by
   induction k with
   |zero=>exact fun _=>⟨[],rfl,fun h=>(by omega),by simp⟩
   |succ k ih=>
    intro hk;obtain⟨rows,r1,r2,r3⟩:=ih (by omega);obtain⟨cs,y,h1,h2,h3⟩:=hone k (by omega);obtain⟨g,o,s⟩:=a;have hs:=hspot (by omega);simp only at hs;subst hs;rw [cE]at h1;have h4:=wB h1 hes0;refine⟨rows++ [cs],by simp [r1],fun _=> ?_,fun r hr=> ?_⟩
    ·rw [List.flatten_append,Nat.succ_mul]
     simp only [List.flatten_cons,List.flatten_nil,List.append_nil]
     by_cases h0:0<k
     ·exact rd_join (r2 h0) h4
     ·have h0:k=0:=by omega
      subst h0;have:rows= []:=List.length_eq_zero_iff.1 r1;subst this;simpa using h4
    ·rcases List.mem_append.1 hr with hr|hr
     ·exact r3 r hr
     ·rw [List.mem_singleton]at hr
      subst hr;exact⟨tw h4,m,y,by omega,h2,hfit y (List.mem_of_getElem? h3)⟩
  obtain⟨rows,r1,r2,r3⟩:=hrows len (Nat.le_refl _);refine⟨rows,⟨some a,cap,by rw [r1],by omega,?_,fun h=>(by cases h),fun b hb hc=>(by injection hb with hb;subst hb;exact hspot hc),fun h0 b hb=>(by injection hb with hb;subst hb;rw [r1];exact r2 (by omega))⟩,?_,r3⟩
  ·clear r1 r2
   induction rows with
   |nil=>simp
   |cons r rows ih=>
    rw [List.flatten_cons,List.length_append,ih (fun x hx=>r3 x (List.mem_cons_of_mem _ hx)),(r3 r (by simp)).1,List.length_cons,Nat.succ_mul];omega
  ·have h1:(elems.length+rest.length)*P.bytesOf e≤140737488351232:=by
     refine hw _ ?_;rw [hx];simp [DataW.weights,ht]
   rw [hB]at h1;refine Nat.le_trans (Nat.mul_le_mul_right B ?_) h1;omega
theorem nV{t:TypeId}{fs:Array Field}(ht:P.underlying t=some (.struct fs)){n:Nat}{x:DataW H×List MemPlace}{cs:List Value}(h:eQ enc P W n t cs=some x)(hw:ey P t x.1):
  cs.length=P.cellsOf t∧∃m,m<n∧∀(i:Nat) (f:Field),fs[i]? =some f→∃y,eQ enc P W m f.type ((cs.drop f.offset).take (P.cellsOf f.type))=some y∧ey P f.type y.1:=by
 obtain⟨xs,m,hm,hx,hl,hlen,hf⟩:=DataW.trod_struct ht h;refine⟨hl,m,by omega,fun i f hi=> ?_⟩;have hi':i<fs.size:=(Array.getElem?_eq_some_iff.1 hi).1;have h2:xs[i]? =some xs[i]:=List.getElem?_eq_getElem (by omega);refine⟨xs[i],(hf i f hi).trans h2,fun z hz=>hw z ?_⟩;rw [hx];simp only [DataW.weights,ht];exact fZ (i:=i) (t:=f.type) (d:=xs[i].1) (by simp [hi]) (by simp [h2]) z hz
variable {n:Nat} {t:TypeId} {v:Value} {l:List Value}
theorem pL(hc:P.cellsOf t=1)(h:∃y,eQ enc P W n t ((v::l).take (P.cellsOf t))=some y∧ey P t y.1):∃y,eQ enc P W n t [v]=some y∧ey P t y.1:=by
 rw [hc]at h;exact h
theorem ez{k:IntKind}(ht:P.underlying t=some (.int k))(hc:P.cellsOf t=1)(h:∃y,eQ enc P W n t ((v::l).take (P.cellsOf t))=some y∧ey P t y.1):∃x,v= .int k x∧(Lit.int k x).wf=true:=by
 obtain⟨y,h,_⟩:=pL hc h;obtain⟨x,hx,_,hw⟩:=DataW.trod_int ht h;exact⟨x,by simpa using hx,hw⟩
theorem Ae(ht:P.underlying t=some .string)(hc:P.cellsOf t=1)(h:∃y,eQ enc P W n t ((v::l).take (P.cellsOf t))=some y∧ey P t y.1):∃x:ByteArray,v= .string x∧x.data.toList.length≤140737488351232:=by
 obtain⟨y,h,hf⟩:=pL hc h;obtain⟨x,hx,hy,_⟩:=DataW.trod_string ht h;refine⟨x,by simpa using hx,hf _ ?_⟩;rw [hy];simp [DataW.weights]
theorem Cp{e:TypeId}(ht:P.underlying t=some (.slice e))(he:P.underlying e=some (.int .u8))(hc:P.cellsOf e=1)(hb:P.bytesOf e=1)(ht1:P.cellsOf t=1)(h:∃y,eQ enc P W n t ((v::l).take (P.cellsOf t))=some y∧ey P t y.1):∃bs,SlB (eP W) v bs:=by
 obtain⟨y,h,hf⟩:=pL ht1 h;obtain⟨rows,h1,h2,h3⟩:=mq ht hc (by omega) hb h hf
 have key:∀rows:List (List Value),(∀r∈rows,r.length=1∧∃m y,m<n∧eQ enc P W m e r=some y∧ey P e y.1)→∃bs:List UInt8,rows.flatten=bs.map bv∧bs.length=rows.length:=by
  intro rows
  induction rows with
  |nil=>exact fun _=>⟨[],rfl,rfl⟩
  |cons r rows ih=>
   intro h;obtain⟨bs,k1,k2⟩:=ih fun x hx=>h x (List.mem_cons_of_mem _ hx)
   obtain⟨_,m,y,_,h5,_⟩:=h r (by simp);obtain⟨x,hx,_,hwf⟩:=DataW.trod_int he h5
   have hr:0≤x∧x<256:=by
    simp only [Lit.wf,Bool.and_eq_true,decide_eq_true_eq]at hwf;have h8:IntKind.u8.min=0:=rfl;have h9:IntKind.u8.max=255:=rfl;omega
   refine⟨UInt8.ofNat x.toNat::bs,?_,by simp [k2]⟩;rw [List.flatten_cons,k1,hx,List.map_cons];simp only [bv,List.cons_append,List.nil_append,List.cons.injEq,and_true];congr 1;simp only [UInt8.toNat_ofNat'];omega
 obtain⟨bs,k1,k2⟩:=key rows h3;refine⟨bs,?_,by omega⟩;rw [k2,←k1];exact h1
end
theorem rk{A':aa}{w w':World}(hs:(eP w).Sub A')(hm:z1 (eP w) A' w w'):Below w.heap.size w w':=by
 have hb:∀k,k<w.heap.size→w'.heap[k]? =w.heap[k]? :=fun k hk=>by
  have h0:w.heap[k]? =some w.heap[k]:=Array.getElem?_eq_getElem hk;rw [hm.sub k _ (hs k _ h0)];exact h0.symm
 refine⟨hm.os,hm.tape,hm.out,?_,hb⟩;rcases Nat.eq_zero_or_pos w.heap.size with h0|h0
 ·omega
 ·have h1:=hb (w.heap.size-1) (by omega)
  have h2:(w.heap[w.heap.size-1]?)=some w.heap[w.heap.size-1]:=Array.getElem?_eq_getElem (by omega);rw [h2]at h1;have:=(Array.getElem?_eq_some_iff.1 h1).1;omega
theorem uq{P:Program}{f:FuncId}{S:aY}(h:FOk P f S){fn:Func}(hf:P.funcs[f]? =some fn)(hn:(fn.name== "runtime.NumGoroutine")=false)(hb:fn.body.isSome=true)(g:S.γ)(vs:List Value)(w:World)(hp:S.pre g vs (eP w))
  (hs:∀v A',S.post g vs (eP w) v A'→(eP w).Sub A'):Calls P f vs.toArray w fun e w'=>∃v,e= .returned v∧(∃A',S.post g vs (eP w) v A')∧Below w.heap.size w w':=
 (rM (h g vs (eP w) w (fun _ _ h=>h) hp) hf hn hb).mono fun _ _ ⟨v,he,A',h1,h2⟩=>⟨v,he,⟨A',h1⟩,rk (hs v A' h1) h2⟩
end
end Go.Sx
namespace Go.Proofs.YtmmlhdiejkknnaaGreatDoor
open Go.Sx Go.RowKit Go.ChangeShapes Go.WideShapes
noncomputable section
section
variable {H : Type} {enc : TypeId × Value → H} {W : World}
theorem AZ{n:Nat}{cs:List Value}(h:∃y,eQ enc Tryz.prog W n 127 cs=some y∧ey Tryz.prog 127 y.1):∃m:bC,cs=m.cells:=by
 obtain⟨y,h,hf⟩:=h;obtain⟨hl,m,_,hx⟩:=nV (P:=Tryz.prog) Tryz.underlying127 h hf;have hl:cs.length=4:=hl.trans (by kernel_rfl);obtain⟨v0,v1,v2,v3,rfl⟩:=list4 hl;obtain⟨c0,rfl,_⟩:=ez (v:=v0) (l:= [v1,v2,v3]) Tryz.underlying3 (by kernel_rfl) (hx 0 _ rfl);obtain⟨c1,rfl,_⟩:=ez (v:=v1) (l:= [v2,v3]) Tryz.underlying125 (by kernel_rfl) (hx 1 _ rfl);obtain⟨c2,rfl,_⟩:=ez (v:=v2) (l:= [v3]) Tryz.underlying3 (by kernel_rfl) (hx 2 _ rfl);obtain⟨c3,rfl,_⟩:=ez (v:=v3) (l:= []) Tryz.underlying3 (by kernel_rfl) (hx 3 _ rfl);exact⟨⟨c0,c1,c2,c3⟩,rfl⟩
theorem x7{n:Nat}{v:Value}{l:List Value}(h:∃y,eQ enc Tryz.prog W n 30 ((v::l).take (Tryz.prog.cellsOf 30))=some y∧ey Tryz.prog 30 y.1):∃ms,gq (eP W) v ms:=by
 obtain⟨y,h,hf⟩:=pL (by kernel_rfl) h;obtain⟨rows,h1,h2,h3⟩:=mq (es:=4) (B:=32) Tryz.underlying30 (by kernel_rfl) (by decide) (by kernel_rfl) h hf
 have key:∀rows:List (List Value),(∀r∈rows,r.length=4∧∃m y,m<n∧eQ enc Tryz.prog W m 127 r=some y∧ey Tryz.prog 127 y.1)→∃ms:List bC,rows=ms.map bC.cells:=by
  intro rows
  induction rows with
  |nil=>exact fun _=>⟨[],rfl⟩
  |cons r rows ih=>
   intro h;obtain⟨ms,rfl⟩:=ih fun x hx=>h x (List.mem_cons_of_mem _ hx)
   obtain⟨_,m,y,_,h5,h6⟩:=h r (by simp);obtain⟨d,rfl⟩:=AZ ⟨y,h5,h6⟩;exact⟨d::ms,rfl⟩
 obtain⟨ms,rfl⟩:=key rows h3;rw [List.length_map]at h1 h2;exact⟨ms,h1,h2⟩
end
end
end Go.Proofs.YtmmlhdiejkknnaaGreatDoor
namespace Go.Proofs.YtmmlhdiejkknnaaGreatDoor
open Go.Sx Go.RowKit Go.ChangeShapes Go.WideShapes
noncomputable section
section
variable {H : Type} {enc : TypeId × Value → H} {W : World}
theorem lU{n:Nat}(ih:∀m,m<n→∀cs,(∃y,eQ enc Tryz.prog W m 34 cs=some y∧ey Tryz.prog 34 y.1)→∃d,cQ (eP W) d cs∧ib d):
  ∀rows:List (List Value),(∀r∈rows,r.length=16∧∃m y,m<n∧eQ enc Tryz.prog W m 34 r=some y∧ey Tryz.prog 34 y.1)→∃ds,dg (eP W) ds rows∧∀d∈ds,ib d
 | [],_=>⟨[],rfl,fun _ h=>(by cases h)⟩
 |r::rows,h=>by
  obtain⟨ds,hd,hi⟩:=lU ih rows fun x hx=>h x (List.mem_cons_of_mem _ hx)
  obtain⟨_,m,y,h4,h5,h6⟩:=h r (by simp);obtain⟨d,hr,hj⟩:=ih m h4 r ⟨y,h5,h6⟩;exact⟨d::ds,⟨r,rows,rfl,hr,hd⟩,List.forall_mem_cons.2 ⟨hj,hi⟩⟩
theorem Er(n:Nat):∀cs,(∃y,eQ enc Tryz.prog W n 34 cs=some y∧ey Tryz.prog 34 y.1)→∃d,cQ (eP W) d cs∧ib d:=by
 induction n using Nat.strongRecOn with
 |_ n ih=>
  intro cs ⟨y,h,hf⟩;obtain⟨hl,m,hm,hx⟩:=nV (P:=Tryz.prog) Tryz.underlying34 h hf;have hl:cs.length=16:=hl.trans (by kernel_rfl);obtain⟨v0,v1,v2,v3,v4,v5,v6,v7,v8,v9,v10,v11,v12,v13,v14,v15,rfl⟩:=list16 hl;obtain⟨c0,rfl,w0⟩:=ez (v:=v0) (l:= [v1,v2,v3,v4,v5,v6,v7,v8,v9,v10,v11,v12,v13,v14,v15]) Tryz.underlying26 (by kernel_rfl) (hx 0 _ rfl);obtain⟨c1,rfl,_⟩:=ez (v:=v1) (l:= [v2,v3,v4,v5,v6,v7,v8,v9,v10,v11,v12,v13,v14,v15]) Tryz.underlying27 (by kernel_rfl) (hx 1 _ rfl);obtain⟨c2,rfl,w2⟩:=ez (v:=v2) (l:= [v3,v4,v5,v6,v7,v8,v9,v10,v11,v12,v13,v14,v15]) Tryz.underlying2 (by kernel_rfl) (hx 2 _ rfl);obtain⟨c3,rfl,w3⟩:=ez (v:=v3) (l:= [v4,v5,v6,v7,v8,v9,v10,v11,v12,v13,v14,v15]) Tryz.underlying3 (by kernel_rfl) (hx 3 _ rfl);obtain⟨c4,rfl,w4⟩:=ez (v:=v4) (l:= [v5,v6,v7,v8,v9,v10,v11,v12,v13,v14,v15]) Tryz.underlying3 (by kernel_rfl) (hx 4 _ rfl);obtain⟨c5,rfl,w5⟩:=ez (v:=v5) (l:= [v6,v7,v8,v9,v10,v11,v12,v13,v14,v15]) Tryz.underlying2 (by kernel_rfl) (hx 5 _ rfl);obtain⟨c6,rfl,hc6⟩:=Ae (v:=v6) (l:= [v7,v8,v9,v10,v11,v12,v13,v14,v15]) Tryz.underlying9 (by kernel_rfl) (hx 6 _ rfl);obtain⟨bs,hbs⟩:=Cp (v:=v7) (l:= [v8,v9,v10,v11,v12,v13,v14,v15]) Tryz.underlying28 Tryz.underlying5 (by kernel_rfl) (by kernel_rfl) (by kernel_rfl) (hx 7 _ rfl);obtain⟨c8,rfl,w8⟩:=ez (v:=v8) (l:= [v9,v10,v11,v12,v13,v14,v15]) Tryz.underlying2 (by kernel_rfl) (hx 8 _ rfl);obtain⟨c9,rfl,w9⟩:=ez (v:=v9) (l:= [v10,v11,v12,v13,v14,v15]) Tryz.underlying3 (by kernel_rfl) (hx 9 _ rfl);obtain⟨c10,rfl,w10⟩:=ez (v:=v10) (l:= [v11,v12,v13,v14,v15]) Tryz.underlying3 (by kernel_rfl) (hx 10 _ rfl);obtain⟨c11,rfl,w11⟩:=ez (v:=v11) (l:= [v12,v13,v14,v15]) Tryz.underlying3 (by kernel_rfl) (hx 11 _ rfl);obtain⟨c12,rfl,w12⟩:=ez (v:=v12) (l:= [v13,v14,v15]) Tryz.underlying29 (by kernel_rfl) (hx 12 _ rfl);have he:∃y,eQ enc Tryz.prog W m 32 ([v13,v14,v15].take (Tryz.prog.cellsOf 32))=some y∧ey Tryz.prog 32 y.1:=hx 13 _ rfl;rw [show Tryz.prog.cellsOf 32=2 by kernel_rfl]at he;obtain⟨ye,he,hfe⟩:=he;obtain⟨_,me,_,hxe⟩:=nV (P:=Tryz.prog) Tryz.underlying32 he hfe;obtain⟨c13,rfl,w13⟩:=ez (v:=v13) (l:= [v14]) Tryz.underlying26 (by kernel_rfl) (hxe 0 _ rfl);have h14:=hxe 1 _ rfl;obtain⟨ms,hms⟩:=x7 (v:=v14) (l:= []) h14;obtain⟨y,h,hf⟩:=pL (P:=Tryz.prog) (t:=22) (v:=v15) (l:= []) (by kernel_rfl) (hx 14 _ rfl);obtain⟨rows,h1,h2,h3⟩:=mq (es:=16) (B:=184) Tryz.underlying22 (by kernel_rfl) (by decide) (by kernel_rfl) h hf;obtain⟨ds,hds,hdi⟩:=lU (n:=m) (fun k hk=>ih k (by omega)) rows h3;have hlen:=hds.length;rw [hlen]at h1 h2;exact⟨.mk ⟨c0,c1,c2,c3,c4,c5,c6,bs,c8,c9,c10,c11,c12,c13,ms⟩ ds,⟨v7,v14,v15,rows,rfl,hc6,hbs,hms,h1,h2,hds⟩,⟨wf_i64 w0,wf_i64 w2,wf_i64 w3,wf_i64 w4,wf_i64 w5,wf_i64 w8,wf_i64 w9,wf_i64 w10,wf_i64 w11,wf_i64 w12,wf_i64 w13⟩,fun p hp=>(hdi p hp).1⟩
theorem BL{v:Value}{d:DataW H}{ps:List MemPlace}(h:DataW.Trod enc Tryz.prog W 0 (fun _=>true) true 22 v d ps)(hf:ey Tryz.prog 22 d)(hv:v.cells.toList= [v]):∃ds,om (eP W) v ds∧∀d∈ds,ib d:=by
 obtain⟨n,h⟩:=h;rw [hv]at h;obtain⟨rows,h1,h2,h3⟩:=mq (es:=16) (B:=184) Tryz.underlying22 (by kernel_rfl) (by decide) (by kernel_rfl) h hf;obtain⟨ds,hds,hdi⟩:=lU (n:=n) (fun k _=>Er k) rows h3;have hlen:=hds.length;rw [hlen]at h1 h2;exact⟨ds,⟨rows,h1,h2,hds⟩,hdi⟩
end
end
end Go.Proofs.YtmmlhdiejkknnaaGreatDoor
