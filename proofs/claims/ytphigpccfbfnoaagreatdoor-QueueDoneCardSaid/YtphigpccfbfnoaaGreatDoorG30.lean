/-
  Parts of the proof: TrE TrF TrG TrHa ApH
-/
import Derived.Sort.KeysCollected
import Derived.Test.YtphigpccfbfnoaaGreatDoorG24
import Derived.Test.YtphigpccfbfnoaaGreatDoorG29
import Derived.Test.YtphigpccfbfnoaaGreatDoorG15
import Derived.Test.YtphigpccfbfnoaaGreatDoorG19
set_option maxRecDepth 100000
set_option maxHeartbeats 0
namespace Go.Proofs.YtphigpccfbfnoaaGreatDoor
open Go.Sx Go.RowKit
noncomputable section
open Classical
def bQ(l:List ByteArray)(p:ByteArray):List (List UInt8):=(l.filter fun q=>decide (aR q=p)).map fun q=>(jk q.data.toList).2
def cZ(T:aT)(p:ByteArray):List (List UInt8):=dL (bQ (T.nodes.map (·.1)) p)
theorem DB{l l':List ByteArray}(h:l.Perm l')(p:ByteArray):dL (bQ l p)=dL (bQ l' p):=mergeSort_of_perm ((h.filter _).map _)
theorem Cx{α:Type}(f:α→Value)(l:List (ByteArray×α)):(fF f l).map (·.1)=(l.map (·.1)).map Value.string:=by simp [fF,Function.comp_def]
theorem Cq{A B:aa}{O:Nat→Prop}{t:Nat}{T:aT}{m s:Nat}{E:List (ByteArray×Nat×bn)}(h:di A B O t T m s E):((fF gV (dv (·.1) E)).map (·.1)).Nodup:=by
 rw [Cx,pC];exact List.pairwise_map.2 (h.keys.imp fun hab e=>hab (by injection e))
theorem jN{a b:ByteArray}(h:a.data.toList=b.data.toList):a=b:=by
 obtain⟨⟨a⟩⟩:=a;obtain⟨⟨b⟩⟩:=b
 obtain rfl:a=b:=h;rfl
theorem tM(q:ByteArray):(aR q).data.toList<+:q.data.toList:=by
 show(jk q.data.toList).1<+:_
 unfold jk
 split
 ·exact List.take_prefix _ _
 ·exact List.nil_prefix
theorem uK(l:List ByteArray)(q p:ByteArray):bQ (l++ [q]) p=bQ l p++if aR q=p then [(jk q.data.toList).2]else []:=by
 unfold bQ;rw [List.filter_append,List.map_append]
 by_cases h:aR q=p<;>simp [h]
theorem wo(l:List ByteArray)(p:ByteArray):(bQ l p).length≤l.length:=by
 rw [bQ,List.length_map];exact List.length_filter_le _ _
theorem Cp{l:List ByteArray}{sk:List ByteArray}(h1:sk.Nodup)(h2:∀q∈sk,q∈l)(h3:l.Nodup)(h4:∀q∈l,q∈sk):sk.Perm l:=
 (List.perm_ext_iff_of_nodup h1 h3).2 fun q=>⟨h2 q,h4 q⟩
theorem ki{α:Type} :∀ {l k:List α},l.Nodup→(∀x∈l,x∈k)→l.length≤k.length
 | [],_,_,_=>Nat.zero_le _
 |x::xs,k,hn,hs=>by
  rw [List.nodup_cons]at hn;obtain⟨a,b,rfl⟩:=List.append_of_mem (hs x (by simp))
  have:=ki (k:=a++b) hn.2 fun y hy=>(by
   have:=hs y (List.mem_cons_of_mem _ hy);simp only [List.mem_append,List.mem_cons]at this ⊢;rcases this with h|rfl|h
   ·exact .inl h
   ·exact absurd hy hn.1
   ·exact .inr h)
  simp only [List.length_append,List.length_cons]at this ⊢;omega
structure LG where
 A:aa
 sk:List ByteArray
 v:Value
def wh(A0 A1:aa)(i m:Nat)(l:List (Value×Value))(keys:List ByteArray)(p:ByteArray):dE:=
 { γ:=LG,G:=fun g=>A0.Sub g.A∧(∀k,g.A.blk k=none→A1.blk k=none)∧ey g.A i m l (g.sk.map Value.string)∧bq A1 g.A 1 9 (bQ g.sk p).length g.v ((bQ g.sk p).map cj)∧g.sk.Nodup∧∀q∈g.sk,q∈keys,
   keepS:= [1,24],keepB:= [],sl:=fun g=> [(6,.v g.v)],bl:=fun _=> [],ar:=fun g=>g.A,mu:=fun g=>keys.length-g.sk.length }
def BG:aL:=⟨TG×ByteArray,fun g vs A=>vs= [.pointer (some ⟨g.1.t,0,none⟩),.string g.2]∧bz A g.1.B g.1.O g.1.t g.1.T∧g.1.T.nodes.length≤1000000,
 fun g _ A v A'=>A.Sub A'∧∃x,v= .tuple #[x,.bool (aM g.2 g.1.T.nodes).isSome]∧Sl (A'.minus A) 1 (if (aM g.2 g.1.T.nodes).isSome then cZ g.1.T g.2 else []).length x ((if (aM g.2 g.1.T.nodes).isSome then cZ g.1.T g.2 else []).map cj)⟩
theorem list_ok:FOk Tryz.prog 69 BG:=by
 refine aS mixed fun⟨⟨T,B,O,t⟩,p⟩ vs A hp=> ?_
 obtain⟨rfl,⟨m,s,E,h⟩,hlen⟩:vs= [.pointer (some ⟨t,0,none⟩),.string p]∧bz A B O t T∧T.nodes.length≤1000000:=hp
 have hCt:aF Tryz.prog (bu [aE 96 qN,aE 123 baseS,aE 122 ng,aE 124 Bj] noC):=az (aj _) (fun x hx=>by
  simp only [List.mem_cons,List.not_mem_nil,or_false]at hx;rcases hx with rfl|rfl|rfl|rfl
  ·exact ai pf
  ·exact ai base_ok
  ·exact ai wA
  ·exact ai Bi)
 refine⟨_,da Tryz.prog _ noL 60 [(69,0)],60,hCt,aH mixed hCt (ak _) _ _,fun blk os out tape D hD=> ?_⟩;have htop:A.rd t 0 1=some [.map (some m)]:=h.top.rd (o:=0) (n:=1) (by show 0+1≤2;omega);conv=>lhs;whnf
 refine af htop ?_;conv=>lhs;whnf
 repeat(first|refine af htop ?_|refine au hD rfl ?_
        conv=>lhs;whnf)
 refine dg (h.look p) ?_
 cases hk:aM p E with
 |none=>
  have hlk:A.look m (.string p)=some none:=by rw [h.look,hk];rfl
  have hT:aM p T.nodes=none:=by rw [h.get,hk];rfl
  conv=>lhs;whnf
  repeat(first|refine af htop ?_|refine dg hlk ?_|refine au hD rfl ?_
         conv=>lhs;whnf)
  have hend:BG.post (⟨T,B,O,t⟩,p) [.pointer (some ⟨t,0,none⟩),.string p] A (.tuple #[.slice none 0 0,.bool false]) A:=by
   refine⟨aa.Sub.refl _,.slice none 0 0,by rw [hT];rfl,?_⟩;rw [hT];exact Sl.nil _ _
  exact(hD _).2 hend
 |some x=>
  obtain⟨g,n⟩:=x;have hlk:A.look m (.string p)=some (some (.pointer (some ⟨g,0,none⟩))):=by rw [h.look,hk];rfl
  have hT:aM p T.nodes=some n:=by rw [h.get,hk];rfl
  conv=>lhs;whnf
  repeat(first|refine af htop ?_|refine dg hlk ?_|refine au hD rfl ?_
         conv=>lhs;whnf)
  refine(hD _).2 ⟨_,h.nmap,Cq h,fun i A1 hi hA1 hI=> ?_⟩;have hA1:∀k,k≠i→A1.blk k=A.blk k:=hA1;have hi:A.blk i=none:=hi;have hsub1:A.Sub A1:=fun k o hk=>by rw [hA1 k fun e=>by subst e;rw [hi]at hk;cases hk];exact hk
  have hdom1:∀k,A1.blk k=none→A.blk k=none:=fun k hk=>by
   cases hA:A.blk k with
   |none=>rfl
   |some o=>rw [hsub1 k o hA]at hk;cases hk
  have hkl:(E.map (·.1)).length≤1000000:=by rw [List.length_map];rw [h.nodes,dv,List.length_map]at hlen;exact hlen
  have hi1:∃o,A1.blk i=some o:=by
   obtain⟨es,clock,seen,h1,h2,h3,h4,h5,h6,h7⟩:=hI;exact⟨_,h6⟩
  have hm1:∃o,A1.blk m=some o:=by
   obtain⟨es,clock,seen,h1,h2,h3,h4,h5,h6,h7⟩:=hI;exact⟨_,h1⟩
  obtain⟨L,hL⟩:∃L:List (Value×Value),L=fF gV (dv (fun x:Nat×bn=>x.1) E):=⟨_,rfl⟩;obtain⟨Ks,hK⟩:∃Ks:List ByteArray,Ks=E.map (fun x:ByteArray×Nat×bn=>x.1):=⟨_,rfl⟩;have hKT:T.nodes.map (·.1)=Ks:=by rw [h.nodes,pC,hK]
  have hIL:ey A1 i m L []:=by rw [hL];exact hI
  have hLm:∀e∈L,∃q g,e=(Value.string q,gV g)∧q∈Ks:=fun e he=>by
   rw [hL]at he;obtain⟨x,hx,rfl⟩:=List.mem_map.1 he;obtain⟨y,hy,rfl⟩:=List.mem_map.1 hx;exact⟨_,_,rfl,by rw [hK];exact List.mem_map.2 ⟨y,hy,rfl⟩⟩
  have hLk:∀q∈Ks,∃e∈L,e.1=Value.string q:=fun q hq=>by
   rw [hK]at hq;obtain⟨y,hy,rfl⟩:=List.mem_map.1 hq;rw [hL];exact⟨_,List.mem_map.2 ⟨_,List.mem_map.2 ⟨y,hy,rfl⟩,rfl⟩,rfl⟩
  have hKn:Ks.Nodup:=by rw [hK];exact h.keys
  have hkl:Ks.length≤1000000:=by rw [hK];exact hkl
  conv=>lhs;whnf
  refine(hD _).2 ⟨wh A A1 i m L Ks p,⟨(⟨A1, [],.slice none 0 0⟩:LG),⟨hsub1,fun _ hk=>hk,hIL,bq.nil _ _ _ _,List.nodup_nil,fun _ hq=>(by cases hq)⟩,⟨rfl,trivial⟩,trivial,rfl⟩,fun(sg:LG) hG=>⟨⟨trivial,trivial⟩,trivial,?_⟩⟩;obtain⟨As,sk,v0⟩:=sg;obtain⟨hAs,hds,hIs,hGs,hnd,hin⟩:A.Sub As∧(∀k,As.blk k=none→A1.blk k=none)∧ey As i m L (sk.map Value.string)∧bq A1 As 1 9 (bQ sk p).length v0 ((bQ sk p).map cj)∧sk.Nodup∧∀q∈sk,q∈Ks:=hG;conv=>lhs;whnf
  refine(hD _).2 (.inl ⟨m,_,_,hIs,fun e he hn A2 hA2 hI2 hent=> ?_,fun hall=> ?_⟩)
  ·obtain⟨q,gq,rfl,hq⟩:=hLm e he
   have hn:q∉sk:=fun hh=>hn (List.mem_map.2 ⟨q,hh,rfl⟩)
   have hA2:∀b,b≠i→A2.blk b=As.blk b:=hA2;have hent:A2.ent i=some (.tuple #[.string q,.pointer (some ⟨gq,0,none⟩)]):=hent;conv=>lhs;whnf
   split
   rotate_left
   ·rename_i hv
    exact absurd (hent.symm.trans hv) (by simp)
   rename_i v hv;obtain rfl:=Option.some.inj (hent.symm.trans hv);conv=>lhs;whnf
   refine(hD _).2 ⟨(q,p),rfl,fun v A' hq'=> ?_⟩;obtain⟨rfl,rfl⟩:A'=A2∧v= .bool (decide (p.data.toList<+:q.data.toList)):=hq';have hAsA:A.Sub A':=fun k o hk=>by rw [hA2 k fun e=>by subst e;rw [hi]at hk;cases hk];exact hAs k o hk
   have hI3:ey A' i m L ((sk++ [q]).map Value.string):=by rw [List.map_append];exact hI2
   have hdsA:∀k,A'.blk k=none→A1.blk k=none:=fun k hk=>by
    by_cases e:k=i
    ·subst e
     obtain⟨es,clock,seen,h1,h2,h3,h4,h5,h6,h7⟩:=hI2;rw [h6]at hk;cases hk
    ·rw [hA2 k e]at hk;exact hds k hk
   have hGk:=hGs.bk (A':=A') fun k hk=>hA2 k fun e=>by subst e;rw [hi1.choose_spec]at hk;cases hk
   have hnd':(sk++ [q]).Nodup:=List.nodup_append.2 ⟨hnd,by simp,fun a ha b hb=>by
    simp only [List.mem_singleton]at hb
    subst hb;exact fun e=>hn (e▸ha)⟩
   have hin':∀x∈sk++ [q],x∈Ks:=fun x hx=>by
    rcases List.mem_append.1 hx with hx|hx
    ·exact hin x hx
    ·simp only [List.mem_singleton]at hx;subst hx;exact hq
   have hcnt:=ki hnd' hin';rw [List.length_append,List.length_singleton]at hcnt;have hmu:Ks.length-(sk++ [q]).length<Ks.length-sk.length:=by rw [List.length_append,List.length_singleton];omega
   have hskip:aR q≠p→(wh A A1 i m L Ks p).G (⟨A',sk++ [q],v0⟩:LG):=fun hne=>⟨hAsA,hdsA,hI3,by
    show bq A1 A' 1 9 (bQ (sk++ [q]) p).length v0 ((bQ (sk++ [q]) p).map cj)
    rw [uK,if_neg hne,List.append_nil];exact hGk,hnd',hin'⟩
   conv=>lhs;whnf
   refine ab (fun hpre=> ?_) (fun hpre=> ?_)<;>(conv=>lhs;whnf)
   rotate_left
   ·exact(hD _).2 ⟨(⟨A',sk++ [q],v0⟩:LG),⟨hskip fun e=>hpre (e▸tM q),⟨rfl,trivial⟩,trivial,rfl⟩,hmu,⟨rfl,rfl,trivial⟩,trivial⟩
   refine(hD _).2 ⟨q,rfl,fun v A9 hq9=> ?_⟩;obtain⟨rfl,rfl⟩:A9=A'∧v= .string (aR q):=hq9;conv=>lhs;whnf
   refine aQ (fun hb=> ?_) (fun hb=> ?_)<;>(conv=>lhs;whnf)
   rotate_left
   ·exact(hD _).2 ⟨(⟨A9,sk++ [q],v0⟩:LG),⟨hskip fun e=>cr.1 hb (by rw [e]),⟨rfl,trivial⟩,trivial,rfl⟩,hmu,⟨rfl,rfl,trivial⟩,trivial⟩
   have hpq:aR q=p:=jN (bh.1 hb);refine(hD _).2 ⟨q,rfl,fun v A8 hq8=> ?_⟩;obtain⟨rfl,rfl⟩:A8=A9∧v= .string (oB q):=hq8;conv=>lhs;whnf
   refine(hD _).2 fun gb A7 hN=> ?_
   have hN:A8.New A7 gb #[.string (oB q)] 9:=hN;have hA7:A.Sub A7:=hAsA.trans hN.sub
   have hds7:∀k,A7.blk k=none→A8.blk k=none:=fun k hk=>by
    cases h8:A8.blk k with
    |none=>rfl
    |some o=>rw [hN.sub k o h8]at hk;cases hk
   have hG7:=hGk.sub hN.sub;have hI7:ey A7 i m L ((sk++ [q]).map Value.string):=hI3.sub fun b o _ hb=>hN.sub b o hb
   obtain⟨base,c,rfl,hbase,hP,hA⟩:=hG7.form;have hP:=hP 16 (by omega) (by have:=wo sk p;omega);have hrow:A7.rd gb 0 (1*1)=some [.string (oB q)]:=hN.rd (o:=0) (n:=1*1) (by show 0+1*1≤1;omega);have hds6:∀k,A7.blk k=none→A1.blk k=none:=fun k hk=>hdsA k (hds7 k hk)
   rcases hbase with rfl|⟨g0,rfl⟩<;>(conv=>lhs;whnf)
   all_goals
    refine(hD _).2 ⟨(bQ sk p).map cj, [.string (oB q)],hP.rd,?_,rfl,?_,?_,hP.cap,rfl,hP.none_,fun g' o' he' hle' _=>hP.room 1 rfl g' o' he' hle',fun v A6 hAp=> ?_⟩
    ·show(if 1=0 then some []else A7.rd gb 0 (1*1))=_
     rw [if_neg (by omega)];exact hrow
    ·intro v hv
     simp only [List.mem_singleton]at hv;subst hv;rfl
    ·have:=wo sk p
     show(bQ sk p).length+1≤9223372036854775807
     omega
    ·obtain⟨hG6,hk6⟩:=hA _ _ _ rfl hds6 hAp
     have hA6:A.Sub A6:=fun k o hk=>by rw [hk6 k o (hsub1 k o hk)];exact hA7 k o hk
     have hd6:∀k,A6.blk k=none→A1.blk k=none:=fun k hk=>by
      cases h1:A1.blk k with
      |none=>rfl
      |some o=>rw [hk6 k o h1]at hk;rw [hds6 k hk]at h1;cases h1
     have hI6:ey A6 i m L ((sk++ [q]).map Value.string):=hI7.sub fun b o hb ho=>by
      rcases hb with rfl|rfl
      ·rw [hk6 _ _ hi1.choose_spec];exact ho
      ·rw [hk6 _ _ hm1.choose_spec];exact ho
     have hg6:(wh A A1 i m L Ks p).G (⟨A6,sk++ [q],v⟩:LG):=⟨hA6,hd6,hI6,by
      show bq A1 A6 1 9 (bQ (sk++ [q]) p).length v ((bQ (sk++ [q]) p).map cj)
      rw [uK,if_pos hpq,List.length_append,List.map_append];exact hG6,hnd',hin'⟩
     conv=>lhs;whnf
     exact(hD _).2 ⟨(⟨A6,sk++ [q],v⟩:LG),⟨hg6,⟨rfl,trivial⟩,trivial,rfl⟩,hmu,⟨rfl,rfl,trivial⟩,trivial⟩
  ·have hall':∀q∈Ks,q∈sk:=fun q hq=>by
     obtain⟨e,he,h1⟩:=hLk q hq;have:=hall e he;rw [h1]at this;obtain⟨q',hq',h2⟩:=List.mem_map.1 this;injection h2 with h2
     exact h2▸hq'
   have hkids:dL (bQ sk p)=cZ T p:=by
    rw [cZ,hKT];exact DB (Cp hnd hin hKn hall') p
   have hsz:(bQ sk p).length≤1000000:=Nat.le_trans (wo sk p) (Nat.le_trans (ki hnd hin) hkl)
   have hfin:∀x A5,A.Sub A5→Sl (A5.minus A) 1 (bQ sk p).length x ((dL (bQ sk p)).map cj)→BG.post (⟨T,B,O,t⟩,p) [.pointer (some ⟨t,0,none⟩),.string p] A (.tuple #[x,.bool true]) A5:=fun x A5 h5 hS=>by
    refine⟨h5,x,by rw [hT];rfl,?_⟩;rw [hT];show Sl (A5.minus A) 1 (cZ T p).length x ((cZ T p).map cj)
    rw [←hkids,dK];exact hS
   obtain⟨hl0,⟨h0,rfl⟩|⟨g0,nc,c,rfl,hle0,hpos0,hg0,hb0,hs0,ht0⟩⟩:=hGs
   ·have hk0:bQ sk p= []:=List.length_eq_zero_iff.1 h0
    conv=>lhs;whnf
    refine(hD _).2 ⟨(0,bQ sk p),.inl ⟨hk0,none,0,rfl⟩,fun v A5 hq=> ?_⟩;obtain rfl:A5=As:=hq.1 hk0;have hend:=hfin (.slice none 0 0) A5 hAs (by rw [hk0];show Sl _ 1 0 _ ((dL []).map cj);rw [show dL []= []from List.mergeSort_nil];exact Sl.nil _ _);conv=>lhs;whnf
    exact(hD _).2 hend
   ·by_cases hk0:bQ sk p= []
    ·conv=>lhs;whnf
     refine(hD _).2 ⟨(0,bQ sk p),.inl ⟨hk0,some ⟨g0,0,none⟩,nc,by rw [hk0];rfl⟩,fun v A5 hq=> ?_⟩;obtain rfl:A5=As:=hq.1 hk0;have hend:=hfin (.slice (some ⟨g0,0,none⟩) (bQ sk p).length nc) A5 hAs (by rw [hk0];show Sl _ 1 0 _ ((dL []).map cj);rw [show dL []= []from List.mergeSort_nil];exact Sl.zero _ _ (fun h=>(by cases h)) fun a ha _=>by injection ha with ha;subst ha;rfl);conv=>lhs;whnf
     exact(hD _).2 hend
    ·have hroom:As.Room g0 0 (bQ sk p).length:=⟨c,9,(0,0),hb0,by omega,.inl rfl⟩
     have hrd0:As.rd g0 0 (bQ sk p).length=some ((bQ sk p).map cj):=by
      rw [rd_mk hb0 (by omega),List.drop_zero];rw [Nat.mul_one]at ht0;rw [ht0]
     conv=>lhs;whnf
     refine(hD _).2 ⟨(g0,bQ sk p),.inr ⟨hk0,by show(bQ sk p).length<_;omega,hroom,hrd0,nc,rfl⟩,fun v A5 hq=> ?_⟩;have hP5:As.Put A5 g0 0 ((dL (bQ sk p)).map cj):=hq.2 hk0;have hAg:A.blk g0=none:=hdom1 g0 hg0;have hA5:A.Sub A5:=hP5.sub hAs hAg
     have hend:=hfin (.slice (some ⟨g0,0,none⟩) (bQ sk p).length nc) A5 hA5 (by
      refine Sl.row hle0 (jA ?_ hAg);obtain⟨c0,t0,fz0,c',k1,k2,k3⟩:=hP5.at_;rw [hb0]at k1;injection k1 with k1;injection k1 with k1 k1' k1''
      subst k1;subst k1';subst k1''
      have hsl:=dK (bQ sk p)
      rw [Nat.mul_one,rd_mk k2 (by
       rw [←Array.length_toList,k3];simp only [List.length_append,List.length_take,List.length_drop,List.length_map,hsl,Array.length_toList]
       omega),List.drop_zero,k3]
      simp [hsl])
     conv=>lhs;whnf
     exact(hD _).2 hend
def fR:ByteArray:=⟨#[47]⟩
def cg:aT:=⟨[(fR,⟨[],⟨0,0,0,0,0,0,0,0,0,0⟩⟩)], []⟩
def alTree:TypeId→Bool:=fun t=>Nat.beq t 57||Nat.beq t 61
def newS:aL:=⟨Unit,fun _ vs _=>vs= [],
 fun _ _ A v A'=>∃t O,v= .pointer (some ⟨t,0,none⟩)∧bz A' aa.void O t cg∧A.Sub A'∧∀k,O k→A.blk k=none⟩
theorem Fs:FOk Tryz.prog 4 newS:=by
 refine sN mixed alTree fun _ vs A hp=> ?_
 obtain rfl:vs= []:=hp;refine⟨noC,noL,60,aj _,ak _,fun blk os out tape D hD=> ?_⟩;conv=>lhs;whnf
 refine(hD _).2 fun m A1 hm hA1 hM1=> ?_
 conv=>lhs;whnf
 refine(hD _).2 fun g A2 hN2=> ?_
 have hN2:A1.New A2 g #[.slice none 0 0,.int .i64 0,.int .i64 0,.int .i64 0,.int .i64 0,.int .i64 0,.int .i64 0,.int .i64 0,.int .i64 0,.int .i64 0,.int .i64 0] 57:=hN2;have hM2:bX A2 m []:=hM1.sub fun o ho=>hN2.sub m o ho
 conv=>lhs;whnf
 refine(hD _).2 ⟨[],hM2,fun e he=>(by cases he),fun A3 hM3 hA3=> ?_⟩;have hM3:bX A3 m [(.string fR,gV g)]:=hM3;have hA3:∀k,k≠m→A3.blk k=A2.blk k:=hA3;conv=>lhs;whnf
 refine(hD _).2 fun s A4 hs hA4 hM4=> ?_
 have hs:A3.blk s=none:=hs;have hA4:∀k,k≠s→A4.blk k=A3.blk k:=hA4;conv=>lhs;whnf
 refine(hD _).2 fun t A5 hN5=> ?_
 have hN5:A4.New A5 t #[.map (some m),.map (some s)] 61:=hN5;conv=>lhs;whnf
 have hm:A.blk m=none:=hm;have hA1:∀k,k≠m→A1.blk k=A.blk k:=hA1
 have map_:∀ {X:aa} {k:Nat} {l:List (Value×Value)},bX X k l→X.blk k≠none:=fun {X k l} h hn=>by
  obtain⟨es,cl,h9,_⟩:=h;rw [h9]at hn;cases hn
 have gm:g≠m:=fun e=>by subst e;exact map_ hM1 hN2.none_
 have sm:s≠m:=fun e=>by subst e;exact map_ hM3 hs
 have sg:s≠g:=fun e=>by subst e;rw [hA3 _ gm,hN2.at_]at hs;cases hs
 have hm4:bX A4 m [(.string fR,gV g)]:=hM3.sub fun o ho=>by rw [hA4 _ fun e=>sm e.symm];exact ho
 have hg4:A4.blk g=some (.cells #[.slice none 0 0,.int .i64 0,.int .i64 0,.int .i64 0,.int .i64 0,.int .i64 0,.int .i64 0,.int .i64 0,.int .i64 0,.int .i64 0,.int .i64 0] 57 (0,0)):=by
  rw [hA4 _ fun e=>sg e.symm,hA3 _ gm];exact hN2.at_
 have tm:t≠m:=fun e=>by subst e;exact map_ hm4 hN5.none_
 have ts:t≠s:=fun e=>by subst e;exact map_ hM4 hN5.none_
 have tg:t≠g:=fun e=>by subst e;have:=hN5.none_;rw [hg4]at this;cases this
 have hm5:bX A5 m [(.string fR,gV g)]:=hm4.sub fun o ho=>hN5.sub _ _ ho
 have hs5:bX A5 s []:=hM4.sub fun o ho=>hN5.sub _ _ ho
 have hg5:=hN5.sub _ _ hg4;have hold:∀k,k≠m→k≠g→k≠s→k≠t→A5.blk k=A.blk k:=fun k h1 h2 h3 h4=>by rw [hN5.other k h4,hA4 k h3,hA3 k h1,hN2.other k h2,hA1 k h1]
 have ag:A.blk g=none:=by rw [←hA1 g gm];exact hN2.none_
 have as_:A.blk s=none:=by rw [←hA1 s sm,←hN2.other s sg,←hA3 s sm];exact hs
 have at_:A.blk t=none:=by rw [←hA1 t tm,←hN2.other t tg,←hA3 t tm,←hA4 t ts];exact hN5.none_
 have hR:di A5 aa.void (fun k=>k=t∨k=m∨k=s∨k=g) t cg m s [(fR,g,⟨[],⟨0,0,0,0,0,0,0,0,0,0⟩⟩)]:=
  { nodes:=rfl
    top:=aG.new hN5
    nmap:=hm5
    smap:=hs5
    cells:=fun e he=>by
     simp only [List.mem_singleton]at he;subst he;exact⟨.slice none 0 0,⟨_,_,_,hg5,.inl rfl,rfl⟩,Sl.nil _ _,by simp⟩
    keys:=by simp
    ptrs:=by simp
    skeys:=by simp [cg]
    sub:=fun k o hk=>(by cases hk)
    own:=⟨.inl rfl,.inr (.inl rfl),.inr (.inr (.inl rfl)),fun e he=>by
     simp only [List.mem_singleton]at he
     subst he;exact .inr (.inr (.inr rfl))⟩
    off:=fun _ _=>rfl
    live:=fun k hk=>by
     rcases hk with rfl|rfl|rfl|rfl
     ·exact⟨_,hN5.at_⟩
     ·obtain⟨es,cl,h9,_⟩:=hm5;exact⟨_,h9⟩
     ·obtain⟨es,cl,h9,_⟩:=hs5;exact⟨_,h9⟩
     ·exact⟨_,hg5⟩
    ne:=⟨fun e=>sm e.symm,fun e he=>by
     simp only [List.mem_singleton]at he
     subst he;exact fun e=>tg e.symm⟩ }
 have hend:newS.post () [] A (.pointer (some ⟨t,0,none⟩)) A5:=by
  refine⟨t,_,rfl,⟨m,s,_,hR⟩,fun k o hk=> ?_,fun k hk=> ?_⟩
  ·rw [hold k (fun e=>by rw [e,hm]at hk;cases hk) (fun e=>by rw [e,ag]at hk;cases hk) (fun e=>by rw [e,as_]at hk;cases hk) (fun e=>by rw [e,at_]at hk;cases hk)];exact hk
  ·rcases hk with rfl|rfl|rfl|rfl
   ·exact at_
   ·exact hm
   ·exact as_
   ·exact ag
 exact(hD _).2 hend
def nQ(p:ByteArray)(vd:Value)(s:ec):Value:=
 .agg #[.string p,vd,.int .i64 s.czxid,.int .i64 s.mzxid,.int .i64 s.pzxid,.int .i64 s.ctime,.int .i64 s.mtime,.int .i64 s.ver,.int .i64 s.cver,.int .i64 s.owner,.int .i64 s.len,.int .i64 s.kids]
def Bd:aL:=⟨TG×ByteArray×bn×Nat,fun g vs A=>vs= [.pointer (some ⟨g.1.t,0,none⟩),.string g.2.1,.int .i64 g.2.2.2]∧bz A g.1.B g.1.O g.1.t g.1.T∧aM g.2.1 g.1.T.nodes=some g.2.2.1,
 fun g _ A v A'=>A.Sub A'∧∃vd,v=nQ g.2.1 vd { g.2.2.1.stat with len:=g.2.2.1.data.length,kids:=g.2.2.2 } ∧SlB (A'.minus A) vd g.2.2.1.data⟩
theorem Bc:FOk Tryz.prog 86 Bd:=by
 refine aS mixed fun⟨⟨T,B,O,t⟩,p,n,c⟩ vs A hp=> ?_
 obtain⟨rfl,⟨m,s,E,h⟩,hk⟩:vs= [.pointer (some ⟨t,0,none⟩),.string p,.int .i64 c]∧bz A B O t T∧aM p T.nodes=some n:=hp
 have hCt:aF Tryz.prog (bu [aE 46 gQ] noC):=az (aj _) (fun x hx=>by
  simp only [List.mem_singleton]at hx
  subst hx;exact ai jm)
 refine⟨_,noL,60,hCt,ak _,fun blk os out tape D hD=> ?_⟩;have htop:A.rd t 0 1=some [.map (some m)]:=h.top.rd (o:=0) (n:=1) (by show 0+1≤2;omega)
 obtain⟨⟨g,n'⟩,hkE,rfl⟩:∃x,aM p E=some x∧x.2=n:=by
  rw [h.get]at hk
  cases hE:aM p E with
  |none=>rw [hE]at hk;cases hk
  |some x=>rw [hE]at hk;exact⟨x,rfl,by injection hk⟩
 have hmem:=iK (eV _) hkE;obtain⟨w,hc,hs⟩:=h.cells _ hmem;have hlk:A.look m (.string p)=some (some (.pointer (some ⟨g,0,none⟩))):=by rw [h.look,hkE];rfl
 obtain⟨aw,kw,rfl⟩:=hs.1.form;have hrdn:A.rd g 0 1=some [.slice aw n'.data.length kw]:=hc.rd (o:=0) (n:=1) (by show 0+1≤11;omega);have hrds:A.rd g 1 10=some n'.stat.cells:=hc.rd (o:=1) (n:=10) (by show 1+10≤11;omega);have hend:∀(v:Value) (A':aa),A.Sub A'→SlB (A'.minus A) v n'.data→Bd.post (⟨T,B,O,t⟩,p,n',c) [.pointer (some ⟨t,0,none⟩),.string p,.int .i64 c] A (nQ p v { n'.stat with len:=n'.data.length,kids:=c }) A':=fun v A' h1 h2=>⟨h1,v,rfl,h2⟩
 conv=>lhs;whnf
 repeat(first|refine af htop ?_|refine dg hlk ?_|refine af hrdn ?_|refine af hrds ?_|refine au hD rfl ?_
        conv=>lhs;whnf)
 refine cK ?_ ?_
 ·refine(hD _).2 ⟨n'.data,⟨_,rfl,hs.sub h.sub⟩,fun v A' hq=> ?_⟩
  obtain⟨hsub,hS⟩:A.Sub A'∧SlB (A'.minus A) v n'.data:=hq;obtain⟨a,k,rfl⟩:=hS.1.form;have h1:=aJ hsub htop;have h2:=aJ hsub hrdn;have h3:=aJ hsub hrds
  have h4:A'.look m (.string p)=some (some (.pointer (some ⟨g,0,none⟩))):=by
   rw [lu (h.nmap.sub fun o ho=>hsub _ _ ho),lA,hkE];rfl
  conv=>lhs;whnf
  repeat(first|refine af h1 ?_|refine dg h4 ?_|refine af h2 ?_|refine af h3 ?_|refine au hD rfl ?_
         conv=>lhs;whnf)
  exact(hD _).2 (hend _ _ hsub hS)
 ·conv=>lhs;whnf
  repeat(first|refine af htop ?_|refine dg hlk ?_|refine af hrdn ?_|refine af hrds ?_|refine au hD rfl ?_
         conv=>lhs;whnf)
  refine(hD _).2 ⟨n'.data,⟨_,rfl,hs.sub h.sub⟩,fun v A' hq=> ?_⟩;obtain⟨hsub,hS⟩:A.Sub A'∧SlB (A'.minus A) v n'.data:=hq;obtain⟨a,k,rfl⟩:=hS.1.form;have h1:=aJ hsub htop;have h2:=aJ hsub hrdn;have h3:=aJ hsub hrds
  have h4:A'.look m (.string p)=some (some (.pointer (some ⟨g,0,none⟩))):=by
   rw [lu (h.nmap.sub fun o ho=>hsub _ _ ho),lA,hkE];rfl
  conv=>lhs;whnf
  repeat(first|refine af h1 ?_|refine dg h4 ?_|refine af h2 ?_|refine af h3 ?_|refine au hD rfl ?_
         conv=>lhs;whnf)
  exact(hD _).2 (hend _ _ hsub hS)
def gg(T:aT):Prop:=∀e∈T.nodes,bO e.1.data.toList=true
theorem gE{κ α:Type} [BEq κ](p:κ)(f:α→α):∀l:List (κ×α),(ev p f l).map (·.1)=l.map (·.1)
 | []=>rfl
 |(q,x)::l=>by
  simp only [ev]
  cases p==q
  ·simp [gE p f l]
  ·rfl
theorem pA{κ α:Type} [BEq κ](p:κ)(x:α):∀(l:List (κ×α)) (q:κ),q∈(cH p x l).map (·.1)→q∈l.map (·.1)∨q=p
 | [],q,h=>by simpa [cH]using h
 |(r,y)::l,q,h=>by
  simp only [cH]at h
  cases hb:p==r<;>rw [hb]at h<;>simp only [cond_true,cond_false,List.map_cons,List.mem_cons]at h ⊢
  ·rcases h with h|h
   ·exact .inl (.inl h)
   ·rcases pA p x l q h with h|h
    ·exact .inl (.inr h)
    ·exact .inr h
  ·rcases h with h|h
   ·exact .inr h
   ·exact .inl (.inr h)
theorem jI{κ α:Type} [BEq κ](p:κ)(x:α):∀l:List (κ×α),(cH p x l).length≤l.length+1
 | []=>by simp [cH]
 |(r,y)::l=>by
  simp only [cH]
  cases p==r
  ·have:=jI p x l
   simp;omega
  ·simp
theorem nb{T:aT} :gg T↔∀q∈T.nodes.map (·.1),bO q.data.toList=true:=by
 simp [gg]
theorem pr{T:aT}(h:gg T)(p:ByteArray)(z cv:Int):gg (cB T p z cv):=by
 rw [nb]at h ⊢;rw [cB];show ∀q∈(ev _ _ T.nodes).map (·.1),_
 rw [gE];exact h
theorem qt{T:aT}(h:gg T){d:bJ}(hd:d.kind=1→bO d.path.data.toList=true)(z time:Int):gg (aV T d z time):=by
 rw [aV]
 split
 ·rw [nb]at h ⊢
  show ∀q∈(ev _ _ T.nodes).map (·.1),_
  rw [gE];exact h
 ·split
  ·rename_i h1
   refine pr ?_ _ _ _;rw [nb]at h ⊢;intro q hq;rcases pA _ _ _ _ hq with h2|rfl
   ·exact h q h2
   ·exact hd h1
  ·split
   ·refine pr ?_ _ _ _
    intro e he;exact h e ((fX _ _).subset he)
   ·exact pr h _ _ _
theorem r7(T:aT)(p:ByteArray)(z cv:Int):(cB T p z cv).nodes.length=T.nodes.length:=by
 rw [cB];have:=congrArg List.length (gE (aR p) (gN z cv) T.nodes);simpa using this
theorem tj(T:aT)(d:bJ)(z time:Int):(aV T d z time).nodes.length≤T.nodes.length+1:=by
 rw [aV]
 split
 ·have:=congrArg List.length (gE d.path (kj d z time) T.nodes)
  simp only [List.length_map]at this;show(ev _ _ T.nodes).length≤_
  omega
 ·split
  ·rw [r7];exact jI _ _ _
  ·split
   ·rw [r7]
    have:=(fX d.path T.nodes).length_le;show(eJ _ T.nodes).length≤_
    omega
   ·rw [r7];omega
theorem mV(z time:Int):∀(ps:List aB) (T:aT),gg T→(∀p∈ps,p.h.kind=1→bO p.h.path.data.toList=true)→gg (bU T ps z time)
 | [],_,h,_=>h
 |p::ps,_,h,hp=>mV z time ps _ (qt h (hp p (by simp)) z time) fun q hq=>hp q (List.mem_cons_of_mem _ hq)
theorem o8(z time:Int):∀(ps:List aB) (T:aT),(bU T ps z time).nodes.length≤T.nodes.length+ps.length
 | [],_=>Nat.le_refl _
 |p::ps,T=>by
  have h1:=o8 z time ps (aV T p.h z time);have h2:=tj T p.h z time;show(bU (aV T p.h z time) ps z time).nodes.length≤_
  simp only [List.length_cons];omega
theorem pN{h:bJ}{np:Nat}(hf:cu h np)(h1:h.kind=1):bO h.path.data.toList=true:=by
 refine hf.2.2.2.2.2.2.2.2.2.2.1 ?_;rw [h1];rfl
theorem pX(T:aT)(ses ah:Int):(bc T ses ah).nodes=T.nodes:=by
 rw [bc];split<;>rfl
theorem AR{T:aT}(h:gg T)(d:aB):gg (aN T d):=by
 rw [aN]
 split
 ·rename_i hr
  have hk:gg (cX T d):=by
   rw [cX]
   split
   ·exact qt h (pN hr.2.2.2.2.2.2.1) _ _
   ·split
    ·exact h
    ·split
     ·rename_i h5
      exact mV _ _ _ _ h fun p hp=>pN ((hr.2.2.2.2.2.2.2.1 h5).2.2 p hp).2.2.2.2.2.1
     ·split
      ·rename_i h8
       exact mV _ _ _ _ h fun p hp=>pN ((hr.2.2.2.2.2.2.2.2.2 h8).2.2 p hp).2.2.2.2.2.1
      ·exact h
  intro e he;rw [pX]at he;exact hk e he
 ·exact h
theorem Ed(T:aT)(d:aB):(aN T d).nodes.length≤T.nodes.length+1+d.parts.length:=by
 rw [aN]
 split
 ·rw [pX,cX]
  split
  ·have:=tj T d.h d.h.zxid d.h.time;omega
  ·split
   ·show T.nodes.length≤_;omega
   ·split
    ·have:=o8 d.h.zxid d.h.time d.parts ⟨T.nodes,eJ d.h.owner T.aK⟩
     dsimp only at this;omega
    ·split
     ·have:=o8 d.h.zxid d.h.time d.parts T;omega
     ·omega
 ·omega
def xh:ec:=⟨0,0,0,0,0,0,0,0,0,0⟩
def AX(A A':aa)(T:aT)(p:ByteArray)(v:Value):Prop:=match aM p T.nodes with
 |none=>v= .tuple #[nQ ⟨#[]⟩ (.slice none 0 0) xh,.bool false]
 |some n=>∃vd,v= .tuple #[nQ p vd { n.stat with len:=n.data.length,kids:=(cZ T p).length },.bool true]∧SlB (A'.minus A) vd n.data
def getS:aL:=⟨TG×ByteArray,fun g vs A=>vs= [.pointer (some ⟨g.1.t,0,none⟩),.string g.2]∧bz A g.1.B g.1.O g.1.t g.1.T∧g.1.T.nodes.length≤1000000,
 fun g _ A v A'=>A.Sub A'∧AX A A' g.1.T g.2 v⟩
theorem bM{A B A':aa}{O:Nat→Prop}{t:Nat}{T:aT}(h:bz A B O t T)(hs:A.Sub A'):bz A' B O t T:=by
 refine h.frame (fun k hk=> ?_) ?_
 ·obtain⟨m,s,E,hR⟩:=h
  obtain⟨o,ho⟩:=hR.live k hk;rw [hs k o ho,ho]
 ·obtain⟨m,s,E,hR⟩:=h
  exact hR.sub.trans hs
theorem get_ok:FOk Tryz.prog 39 getS:=by
 refine aS mixed fun⟨⟨T,B,O,t⟩,p⟩ vs A hp=> ?_
 obtain⟨rfl,hT,hlen⟩:vs= [.pointer (some ⟨t,0,none⟩),.string p]∧bz A B O t T∧T.nodes.length≤1000000:=hp
 have hCt:aF Tryz.prog (bu [aE 69 BG,aE 86 Bd] noC):=az (aj _) (fun x hx=>by
  simp only [List.mem_cons,List.not_mem_nil,or_false]at hx;rcases hx with rfl|rfl
  ·exact ai list_ok
  ·exact ai Bc)
 refine⟨_,noL,60,hCt,ak _,fun blk os out tape D hD=> ?_⟩;conv=>lhs;whnf
 refine(hD _).2 ⟨(⟨T,B,O,t⟩,p),⟨rfl,hT,hlen⟩,fun v A1 hq=> ?_⟩;obtain⟨h1,x,rfl,hx⟩:A.Sub A1∧∃x,v= .tuple #[x,.bool (aM p T.nodes).isSome]∧Sl (A1.minus A) 1 (if (aM p T.nodes).isSome then cZ T p else []).length x ((if (aM p T.nodes).isSome then cZ T p else []).map cj):=hq;obtain⟨a,k,rfl⟩:=hx.form
 cases hk:aM p T.nodes with
 |none=>
  have hend:getS.post (⟨T,B,O,t⟩,p) [.pointer (some ⟨t,0,none⟩),.string p] A (.tuple #[nQ ⟨#[]⟩ (.slice none 0 0) xh,.bool false]) A1:=⟨h1,(by
   show AX A A1 T p _
   rw [AX,hk])⟩
  conv=>lhs;whnf
  exact(hD _).2 hend
 |some n=>
  rw [hk]at hx;conv=>lhs;whnf
  refine(hD _).2 ⟨(⟨T,B,O,t⟩,p,n,(cZ T p).length),⟨rfl,bM hT h1,hk⟩,fun v A2 hq=> ?_⟩;obtain⟨h2,vd,rfl,hS⟩:A1.Sub A2∧∃vd,v=nQ p vd { n.stat with len:=n.data.length,kids:=(cZ T p).length } ∧SlB (A2.minus A1) vd n.data:=hq
  have hend:getS.post (⟨T,B,O,t⟩,p) [.pointer (some ⟨t,0,none⟩),.string p] A (.tuple #[nQ p vd { n.stat with len:=n.data.length,kids:=(cZ T p).length },.bool true]) A2:=⟨h1.trans h2,(by
   show AX A A2 T p _
   rw [AX,hk]
   exact⟨vd,rfl,hS.sub (xZ h1)⟩)⟩
  obtain⟨b,k',rfl⟩:=hS.1.form;conv=>lhs;whnf
  exact(hD _).2 hend
theorem yT{A A1 A2:aa}{base:Option (Nat×Nat)}{es n:Nat}{e:TypeId}{ys:List Value}{v:Value}(h1:A.Sub A1)(ha:dC A1 base 0 0 es e [] ys n v A2)(hl:ys.length=n*es):∃L:LsD,L.v=v∧L.n=n∧LsR A2 es e L ys∧∀g,L.g=some g→A.blk g=none:=by
 by_cases h0:n=0
 ·subst h0
  have hy:ys= []:=List.length_eq_zero_iff.1 (by rw [hl];simp);subst hy;rcases ha with⟨_,hv,_⟩|⟨h9,_⟩
  ·exact⟨⟨v,0,0,none⟩,rfl,rfl,.inl ⟨rfl,rfl,rfl,rfl,base,hv⟩,fun g h=>by cases h⟩
  ·omega
 ·have hL:LsR A1 es e (⟨.slice (aD base) 0 0,0,0,none⟩:LsD) []:= .inl ⟨rfl,rfl,rfl,rfl,base,rfl⟩
  rcases ha with⟨h9,_⟩|⟨_,g,nc,cs,zs,hv,hn,hcs,hz,hN⟩
  ·omega
  ·refine⟨⟨v,n,nc,some g⟩,rfl,rfl,.inr ⟨g,rfl,by rw [hv,Nat.zero_add],by show 0<nc;omega,⟨cs,hN.at_,?_,?_⟩,by show n≤nc;omega,hl⟩,fun g' hg=> ?_⟩
   ·rw [←Array.length_toList,hcs]
    simp only [List.nil_append,List.length_append,hl,hz];have:nc*es=(n+(nc-(0+n)))*es:=by congr 1;omega
    rw [this,Nat.add_mul]
   ·show cs.toList.take (n*es)=_
    rw [hcs,List.nil_append,List.take_append_of_le_length (by omega),List.take_of_length_le (by omega)]
   ·have hg:some g=some g':=hg
    injection hg with hg
    subst hg
    cases h:A.blk g with
    |none=>rfl
    |some o=>
     have:=hN.none_;rw [h1 g o h]at this
     cases this
theorem LsR.sl{A:aa}{es:Nat}{e:TypeId}{L:LsD}{cs:List Value}(h:LsR A es e L cs):Sl A es L.n L.v cs:=by
 rcases h with⟨_,h2,_,rfl,base,h5⟩|⟨g,_,h2,_,h4⟩
 ·rw [h5,h2]
  cases base with
  |none=>exact Sl.nil _ _
  |some x=>exact Sl.zero _ _ (fun _=>rfl) fun a _ h=>absurd h (Nat.lt_irrefl 0)
 ·rw [h2]
  exact Sl.row h4.le h4.rd
def pS:aL:=⟨List bT,fun g vs A=>∃x,vs= [x]∧kD A x g,fun g _ A v A'=>A.Sub A'∧∃L:LsD,L.v=v∧L.n=g.length∧LsR A' 4 97 L (bD g)∧∀b,L.g=some b→A.blk b=none⟩
theorem yU:FOk Tryz.prog 40 pS:=by
 refine aS mixed fun bs vs A hp=> ?_
 simp only [pS]at hp;obtain⟨x,rfl,⟨ao,c,rfl,hc,hl,ha1,ha2,ha3⟩,hxl⟩:=hp;refine⟨noC,noL,60,aj _,ak _,fun blk os out tape D hD=> ?_⟩;conv=>lhs;whnf
 refine aQ (fun hb=> ?_) (fun hb=> ?_)<;>(conv=>lhs;whnf)
 ·have h0:ao=none:=by simpa using hb
  have h1:=ha1 h0;have h2:bs= []:=List.length_eq_zero_iff.1 (by omega);subst h2;exact(hD _).2 ⟨aa.Sub.refl _,nlL,rfl,rfl,.inl ⟨rfl,rfl,rfl,rfl,none,rfl⟩,fun _ h=>by cases h⟩
 ·have h0:∃a,ao=some a:=by cases ao with
    |none=>simp at hb
    |some a=>exact⟨a,rfl⟩
  obtain⟨⟨g,o,sp⟩,rfl⟩:=h0
  have hsp:sp=none∨bs.length=0:=by
   rcases Nat.eq_zero_or_pos c with h|h
   ·right;omega
   ·left;exact ha2 _ rfl h
  rcases sp with _|sp
  all_goals
   refine(hD _).2 fun g1 A1 hN=> ?_
   conv=>lhs;whnf
   refine(hD _).2 ⟨[],bD bs,rfl,?_,hl,nW bs,by omega,?_,rfl,fun h=>(by cases h),fun _ _ _ h1 h2=> ?_,fun v A2 hA=> ?_⟩
   ·first
    |(show(if bs.length=0 then some []else A1.rd g o (bs.length*4))=_
      by_cases h0:bs.length=0
      ·rw [if_pos h0,List.length_eq_zero_iff.1 h0];rfl
      ·rw [if_neg h0];exact aJ hN.sub (ha3 (by omega) _ rfl))
    |(have h9:bs.length=0:=hsp.resolve_left (by simp)
      show(if bs.length=0 then some []else none)=_
      (rw [if_pos h9,List.length_eq_zero_iff.1 h9];rfl))
   ·intro h0
    rw [ft h0];show bs.length*32≤_
    omega
   ·exfalso
    have:bs.length=0:=by omega
    exact h2 (by rw [List.length_eq_zero_iff.1 this];rfl)
   ·obtain⟨k1,k2⟩:=er hN.sub hA hl
    have hcl:=yT hN.sub hA hl;conv=>lhs;whnf
    exact(hD _).2 ⟨k1,hcl⟩
def bE(T:Option aT)(p:ByteArray):ec:=match T with
 |none=>st0
 |some T=>match aM p T.nodes with
  |none=>st0
  |some n=> { n.stat with len:=n.data.length,kids:=(cZ T p).length }
def tx(A:aa)(t:Option Nat)(T:Option aT):Prop:=(t=none∧T=none)∨∃t' T' B O,t=some t'∧T=some T'∧bz A B O t' T'∧T'.nodes.length≤1000000
def mT(t:Option Nat):Value:= .pointer (t.map fun g=>⟨g,0,none⟩)
def getOS:aL:=⟨Option Nat×Option aT×ByteArray,fun g vs A=>vs= [mT g.1,.string g.2.2]∧tx A g.1 g.2.1,
 fun g _ A v A'=>A.Sub A'∧∃(q:ByteArray) (ad:Option Addr) (ld cd:Nat) (b:Bool),v= .tuple #[.agg (.string q:: .slice ad ld cd::(bE g.2.1 g.2.2).cells).toArray,.bool b]⟩
theorem DM:FOk Tryz.prog 39 ⟨ByteArray,fun p vs _=>vs= [.pointer none,.string p],fun _ _ A v A'=>A'=A∧v= .tuple #[.agg (.string ⟨#[]⟩:: .slice none 0 0::st0.cells).toArray,.bool false]⟩:=by
 refine aS mixed fun p vs A hp=> ?_
 obtain rfl:vs= [.pointer none,.string p]:=hp;refine⟨noC,noL,60,aj _,ak _,fun blk os out tape D hD=> ?_⟩;conv=>lhs;whnf
 repeat(first|refine au hD rfl ?_
        conv=>lhs;whnf)
 exact(hD _).2 ⟨rfl,rfl⟩
theorem getO_ok:FOk Tryz.prog 39 getOS:=by
 rintro⟨t,T,p⟩ vs A w hA ⟨rfl,hT⟩
 rcases hT with⟨rfl,rfl⟩|⟨t',T',B,O,rfl,rfl,hT,hl⟩
 ·refine(DM p _ A w hA rfl).mono (fun v w' ⟨A',⟨hA',hv⟩,hm⟩=>⟨A',⟨by rw [hA'];exact aa.Sub.refl _,_,_,_,_,_,hv⟩,hm⟩) fun _ _ h=>h
 ·refine(get_ok ((⟨T',B,O,t'⟩:TG),p) _ A w hA ⟨rfl,hT,hl⟩).mono (fun v w' ⟨A',⟨hs,hg⟩,hm⟩=>⟨A',⟨hs,?_⟩,hm⟩) fun _ _ h=>h
  have hg:AX A A' T' p v:=hg;unfold AX at hg;show ∃(q:ByteArray) (ad:Option Addr) (ld cd:Nat) (b:Bool),v= .tuple #[.agg (.string q:: .slice ad ld cd::(bE (some T') p).cells).toArray,.bool b]
  unfold bE;dsimp only
  cases hk:aM p T'.nodes with
  |none=>
   rw [hk]at hg;exact⟨⟨#[]⟩,none,0,0,false,hg⟩
  |some n=>
   rw [hk]at hg;obtain⟨vd,hv,hd⟩:=hg;obtain⟨ad,cd,rfl⟩:=hd.1.form;exact⟨p,ad,_,cd,true,hv⟩
end
end Go.Proofs.YtphigpccfbfnoaaGreatDoor
