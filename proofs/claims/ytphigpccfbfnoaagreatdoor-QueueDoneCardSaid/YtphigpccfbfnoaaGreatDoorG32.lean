/-
  Parts of the proof: WkA TrI TrL TrP TrJ
-/
import Derived.Test.YtphigpccfbfnoaaGreatDoorG15
import Derived.Test.YtphigpccfbfnoaaGreatDoorG16
import Derived.Lib.SlKeysI
import Derived.Test.YtphigpccfbfnoaaGreatDoorG30
import Derived.Test.YtphigpccfbfnoaaGreatDoorG31
set_option maxRecDepth 100000
set_option maxHeartbeats 0
namespace Go.Sx
noncomputable section
theorem jg{α:Type} :∀ {l k:List α},l.Nodup→(∀x∈l,x∈k)→l.length≤k.length
 | [],_,_,_=>Nat.zero_le _
 |x::xs,k,hn,hs=>by
  rw [List.nodup_cons]at hn;obtain⟨a,b,rfl⟩:=List.append_of_mem (hs x (by simp))
  have:=jg (k:=a++b) hn.2 fun y hy=>(by
   have:=hs y (List.mem_cons_of_mem _ hy);simp only [List.mem_append,List.mem_cons]at this ⊢;rcases this with h|rfl|h
   ·exact .inl h
   ·exact absurd hy hn.1
   ·exact .inr h)
  simp only [List.length_append,List.length_cons]at this ⊢;omega
theorem kr{κ α:Type}{l:List (κ×α)}(h:(l.map (·.1)).Nodup):l.Nodup:=
 (List.pairwise_map.1 h).imp fun hab e=>hab (by rw [e])
structure dG{κ α:Type}(kv:κ→Value)(f:α→Value)(A A1 As:aa)(i m:Nat)(l sk:List (κ×α)):Prop where
 old:A.Sub As
 dom:∀k,As.blk k=none→A1.blk k=none
 it:ey As i m (l.map fun e=>(kv e.1,f e.2)) (sk.map fun e=>kv e.1)
 nd:(sk.map (·.1)).Nodup
 mem:∀e∈sk,e∈l
 fresh:A.blk i=none
 sub1:A.Sub A1
 iex:∃o,A1.blk i=some o
 mex:∃o,A1.blk m=some o
section
variable {κ α:Type} {kv:κ→Value} {f:α→Value} {A A1 As A':aa} {i m:Nat} {l sk:List (κ×α)}
theorem dG.start(hi:A.blk i=none)(hA1:∀k,k≠i→A1.blk k=A.blk k)(hI:ey A1 i m (l.map fun e=>(kv e.1,f e.2)) []):dG kv f A A1 A1 i m l [] where
 old:=fun k o hk=>by rw [hA1 k fun e=>by subst e;rw [hi]at hk;cases hk];exact hk
 dom:=fun _ h=>h
 it:=hI
 nd:=List.nodup_nil
 mem:=fun _ h=>by cases h
 fresh:=hi
 sub1:=fun k o hk=>by rw [hA1 k fun e=>by subst e;rw [hi]at hk;cases hk];exact hk
 iex:=by
  obtain⟨es,clock,seen,h1,h2,h3,h4,h5,h6,h7⟩:=hI;exact⟨_,h6⟩
 mex:=by
  obtain⟨es,clock,seen,h1,h2,h3,h4,h5,h6,h7⟩:=hI;exact⟨_,h1⟩
theorem dG.start'{C:aa}(hCA:C.Sub A)(hm:∃o,C.blk m=some o)(hi:A.blk i=none)(hA1:∀k,k≠i→A1.blk k=A.blk k)(hI:ey A1 i m (l.map fun e=>(kv e.1,f e.2)) []):
  dG kv f C (aa.of fun k=>if k=i then A1.blk k else C.blk k) A1 i m l []:=by
 have hiC:C.blk i=none:=by
  cases h:C.blk i with
  |none=>rfl
  |some o=>have:=hCA _ _ h;rw [hi]at this;cases this
 have hold:C.Sub A1:=fun k o hk=>by
  rw [hA1 k fun e=>by subst e;rw [hiC]at hk;cases hk];exact hCA k o hk
 refine⟨hold,fun k hk=> ?_,hI,List.nodup_nil,fun _ h=>(by cases h),hiC,fun k o hk=> ?_,?_,?_⟩
 ·show(if k=i then A1.blk k else C.blk k)=none
  by_cases e:k=i
  ·rw [if_pos e];exact hk
  ·rw [if_neg e]
   cases h:C.blk k with
   |none=>rfl
   |some o=>have:=hold _ _ h;rw [hk]at this;cases this
 ·show(if k=i then A1.blk k else C.blk k)=some o
  rw [if_neg fun e=>by subst e;rw [hiC]at hk;cases hk];exact hk
 ·obtain⟨es,clock,seen,h1,h2,h3,h4,h5,h6,h7⟩:=hI
  exact⟨_,(if_pos rfl).trans h6⟩
 ·obtain⟨o,ho⟩:=hm
  exact⟨o,(if_neg fun e=>by subst e;rw [hiC]at ho;cases ho).trans ho⟩
theorem dG.dom1(h:dG kv f A A1 As i m l sk):∀k,As.blk k=none→A.blk k=none:=fun k hk=>by
 cases hA:A.blk k with
 |none=>rfl
 |some o=>rw [h.old k o hA]at hk;cases hk
theorem dG.next(h:dG kv f A A1 As i m l sk){e:Value×Value}(he:e∈l.map fun e=>(kv e.1,f e.2))(hn:e.1∉sk.map fun e=>kv e.1)
  (hA2:∀b,b≠i→A'.blk b=As.blk b) (hI2:ey A' i m (l.map fun e=>(kv e.1,f e.2)) ((sk.map fun e=>kv e.1)++ [e.1])):
  ∃x∈l,e=(kv x.1,f x.2)∧x.1∉sk.map (·.1)∧dG kv f A A1 A' i m l (sk++ [x])∧sk.length<l.length:=by
 obtain⟨x,hx,rfl⟩:=List.mem_map.1 he
 have hns:x.1∉sk.map (·.1):=fun hh=>by
  obtain⟨y,hy,e⟩:=List.mem_map.1 hh;exact hn (List.mem_map.2 ⟨y,hy,by rw [e]⟩)
 have hnd:((sk++ [x]).map (·.1)).Nodup:=by
  rw [List.map_append];refine List.nodup_append.2 ⟨h.nd,by simp,fun a ha b hb=> ?_⟩;simp only [List.map_cons,List.map_nil,List.mem_singleton]at hb;subst hb;exact fun e=>hns (e▸ha)
 have hmem:∀e∈sk++ [x],e∈l:=fun e he=>by
  rcases List.mem_append.1 he with he|he
  ·exact h.mem e he
  ·simp only [List.mem_singleton]at he;subst he;exact hx
 have hlen:=jg (kr hnd) hmem;rw [List.length_append,List.length_singleton]at hlen;refine⟨x,hx,rfl,hns, { h with old:=fun k o hk=> ?_,dom:=fun k hk=> ?_,it:= ?_,nd:=hnd,mem:=hmem },by omega⟩
 ·rw [hA2 k fun e=>by subst e;rw [h.fresh]at hk;cases hk];exact h.old k o hk
 ·by_cases e:k=i
  ·subst e
   obtain⟨es,clock,seen,h1,h2,h3,h4,h5,h6,h7⟩:=hI2;rw [h6]at hk;cases hk
  ·rw [hA2 k e]at hk;exact h.dom k hk
 ·rw [List.map_append];exact hI2
theorem dG.more(h:dG kv f A A1 As i m l sk)(hk:∀k o,A1.blk k=some o→A'.blk k=As.blk k):dG kv f A A1 A' i m l sk:=
 { h with
   old:=fun k o ho=>by rw [hk k o (h.sub1 k o ho)];exact h.old k o ho
   dom:=fun k hn=>by
    cases h1:A1.blk k with
    |none=>rfl
    |some o=>rw [hk k o h1]at hn;rw [h.dom k hn]at h1;cases h1
   it:=h.it.sub fun b o hb ho=>by
    rcases hb with rfl|rfl
    ·rw [hk _ _ h.iex.choose_spec];exact ho
    ·rw [hk _ _ h.mex.choose_spec];exact ho }
theorem dG.sub(h:dG kv f A A1 As i m l sk)(hs:As.Sub A'):dG kv f A A1 A' i m l sk:=
 { h with
   old:=h.old.trans hs
   dom:=fun k hk=>h.dom k (by
    cases h8:As.blk k with
    |none=>rfl
    |some o=>rw [hs k o h8]at hk;cases hk)
   it:=h.it.sub fun b o _ hb=>hs b o hb }
theorem dG.done(h:dG kv f A A1 As i m l sk)(inj:∀a b,kv a=kv b→a=b)(hl:(l.map (·.1)).Nodup)(hall:∀e∈l.map fun e=>(kv e.1,f e.2),e.1∈sk.map fun e=>kv e.1):sk.Perm l:=by
 refine(List.perm_ext_iff_of_nodup (kr h.nd) (kr hl)).2 fun x=>⟨h.mem x,fun hx=> ?_⟩
 obtain⟨y,hy,e⟩:=List.mem_map.1 (hall _ (List.mem_map.2 ⟨x,hx,rfl⟩));have e1:y.1=x.1:=inj _ _ e;have hyl:=h.mem y hy
 have:y=x:=by
  obtain⟨a,b,rfl⟩:=List.append_of_mem hx;rw [List.map_append,List.map_cons]at hl;obtain⟨_,h2,h3⟩:=List.nodup_append.1 hl;rw [List.nodup_cons]at h2;rcases List.mem_append.1 hyl with h4|h4
  ·exact absurd e1 (h3 _ (List.mem_map.2 ⟨y,h4,rfl⟩) _ (by simp))
  ·rcases List.mem_cons.1 h4 with h4|h4
   ·exact h4
   ·exact absurd (List.mem_map.2 ⟨y,h4,e1⟩) h2.1
 exact this▸hy
theorem dG.le(h:dG kv f A A1 As i m l sk):sk.length≤l.length:=jg (kr h.nd) h.mem
theorem mP(inj:∀a b,kv a=kv b→a=b)(hl:(l.map (·.1)).Nodup):((l.map fun e=>(kv e.1,f e.2)).map (·.1)).Nodup:=by
 rw [List.map_map];refine List.pairwise_map.2 ((List.pairwise_map.1 hl).imp fun hab e=>hab (inj _ _ e))
end
end
end Go.Sx
namespace Go.Proofs.YtphigpccfbfnoaaGreatDoor
open Go.Sx Go.RowKit
noncomputable section
open Classical
def kC(T:aT):Prop:=∀e∈T.aK,e.2.ses=e.1
def fq(l:List (Int×bb))(s:Int):bb:=match aM s l with
 |some x=>if x.ses=s then x else⟨s,0,0⟩
 |none=>⟨s,0,0⟩
theorem lT(l:List (Int×bb))(s:Int):(fq l s).ses=s:=by
 unfold fq
 split
 ·split
  ·assumption
  ·rfl
 ·rfl
def aU(T:aT):List bb:=(fH (T.aK.map (·.1))).map (fq T.aK)
theorem lz{κ α:Type} [BEq κ](hr:∀q:κ,(q==q)=true)(hq:∀p q:κ,(p==q)=true→q=p){p:κ}{x:α} :∀ {l:List (κ×α)},(l.map (·.1)).Nodup→(p,x)∈l→aM p l=some x
 | [],_,h=>by cases h
 |(q,y)::l,hn,h=>by
  rw [List.map_cons,List.nodup_cons]at hn;simp only [aM];rcases List.mem_cons.1 h with h|h
  ·injection h with h1 h2
   subst h1;subst h2
   rw [hr];rfl
  ·cases hb:p==q with
   |false=>exact lz hr hq hn.2 h
   |true=>
    have e:=hq _ _ hb;subst e;exact absurd (List.mem_map.2 ⟨_,h,rfl⟩) hn.1
theorem oM{l:List (Int×bb)}(hn:(l.map (·.1)).Nodup)(hs:∀e∈l,e.2.ses=e.1){e:Int×bb}(he:e∈l):fq l e.1=e.2:=by
 unfold fq;rw [lz (fun q=>by simp) BM hn (show(e.1,e.2)∈l from he)];exact if_pos (hs e he)
theorem ja{l l':List Int}(h:l.Perm l'):fH l=fH l':=by
 rw [rn,rn];exact mergeSort_of_perm_i h
structure SG where
 A:aa
 sk:List (Int×bb)
 v:Value
theorem sU{α β:Type}{f g:α→List β} :∀ {l:List α},(∀e∈l,f e=g e)→l.flatMap f=l.flatMap g
 | [],_=>rfl
 |x::l,h=>by rw [List.flatMap_cons,List.flatMap_cons,h x (by simp),sU fun e he=>h e (List.mem_cons_of_mem _ he)]
abbrev intV(k:Int):Value:= .int .i64 k
def Bl(A0 A1:aa)(i m:Nat)(l:List (Int×bb)):dE:=
 { γ:=SG,G:=fun g=>dG intV eP A0 A1 g.A i m l g.sk∧bq A1 g.A 3 83 g.sk.length g.v (g.sk.flatMap fun e=>br e.2),
   keepS:= [13],keepB:= [],sl:=fun g=> [(3,.v g.v)],bl:=fun _=> [],ar:=fun g=>g.A,mu:=fun g=>l.length-g.sk.length }
def lS:aL:=⟨TG,fun g vs A=>vs= [.pointer (some ⟨g.t,0,none⟩)]∧bz A g.B g.O g.t g.T∧kC g.T∧g.T.aK.length≤1000000,
 fun g _ A v A'=>A.Sub A'∧Sl (A'.minus A) 3 (aU g.T).length v ((aU g.T).flatMap br)⟩
theorem qa:FOk Tryz.prog 48 lS:=by
 refine aS mixed fun⟨T,B,O,t⟩ vs A hp=> ?_
 obtain⟨rfl,⟨m,s,E,h⟩,hok,hlen⟩:vs= [.pointer (some ⟨t,0,none⟩)]∧bz A B O t T∧kC T∧T.aK.length≤1000000:=hp
 have hCt:aF Tryz.prog (bu [aE 91 ri] noC):=az (aj _) (fun x hx=>by
  simp only [List.mem_singleton]at hx
  subst hx;exact ai zq)
 refine⟨_,da Tryz.prog _ noL 60 [(48,0)],60,hCt,aH mixed hCt (ak _) _ _,fun blk os out tape D hD=> ?_⟩;have htop0:A.rd t 0 1=some [.map (some m)]:=h.top.rd (o:=0) (n:=1) (by show 0+1≤2;omega);have htop:A.rd t 1 1=some [.map (some s)]:=h.top.rd (o:=1) (n:=1) (by show 1+1≤2;omega);conv=>lhs;whnf
 repeat(first|refine af htop0 ?_|refine af htop ?_|refine au hD rfl ?_
        conv=>lhs;whnf)
 have hnd:=mP (kv:=intV) (f:=eP) (fun a b e=>by injection e) h.skeys;refine(hD _).2 ⟨_,h.smap,hnd,fun i A1 hi hA1 hI=> ?_⟩;have hM1:dG intV eP A A1 A1 i s T.aK []:=dG.start hi hA1 hI;conv=>lhs;whnf
 refine(hD _).2 ⟨Bl A A1 i s T.aK,⟨(⟨A1, [],.slice none 0 0⟩:SG),⟨hM1,bq.nil _ _ _ _⟩,⟨rfl,trivial⟩,trivial,rfl⟩,fun(sg:SG) hG=>⟨⟨trivial,trivial⟩,trivial,?_⟩⟩;obtain⟨As,sk,v0⟩:=sg;obtain⟨hM,hGs⟩:dG intV eP A A1 As i s T.aK sk∧bq A1 As 3 83 sk.length v0 (sk.flatMap fun e:Int×bb=>br e.2):=hG;have hle:=hM.le;conv=>lhs;whnf
 refine(hD _).2 (.inl ⟨s,_,_,hM.it,fun e he hn A2 hA2 hI2 hent=> ?_,fun hall=> ?_⟩)
 ·obtain⟨⟨k,⟨a,b,c⟩⟩,hx,rfl,hns,hM2,hlt⟩:=hM.next he hn hA2 hI2
  have hent:A2.ent i=some (.tuple #[.int .i64 k,.agg #[.int .i64 a,.int .i64 b,.int .i64 c]]):=hent;have hG2:=hGs.bk (A':=A2) fun q hq=>hA2 q fun e=>by subst e;rw [hM.iex.choose_spec]at hq;cases hq
  conv=>lhs;whnf
  split
  rotate_left
  ·rename_i hv
   exact absurd (hent.symm.trans hv) (by simp)
  rename_i v hv;obtain rfl:=Option.some.inj (hent.symm.trans hv);conv=>lhs;whnf
  refine(hD _).2 fun gb A7 hN=> ?_
  have hN:A2.New A7 gb #[.int .i64 a,.int .i64 b,.int .i64 c] 83:=hN;have hM7:=hM2.sub hN.sub;have hG7:=hG2.sub hN.sub;obtain⟨base,cp,rfl,hbase,hP,hA⟩:=hG7.form;have hP:=hP 24 (by omega) (by omega);have hrow:A7.rd gb 0 (1*3)=some [.int .i64 a,.int .i64 b,.int .i64 c]:=hN.rd (o:=0) (n:=1*3) (by show 0+1*3≤3;omega);rcases hbase with rfl|⟨g0,rfl⟩<;>(conv=>lhs;whnf)
  all_goals
   refine(hD _).2 ⟨sk.flatMap fun e:Int×bb=>br e.2, [.int .i64 a,.int .i64 b,.int .i64 c],hP.rd,?_,rfl,?_,?_,hP.cap,rfl,hP.none_,fun g' o' he' hle' _=>hP.room 3 rfl g' o' he' hle',fun v A6 hAp=> ?_⟩
   ·show(if 1*3=0 then some []else A7.rd gb 0 (1*3))=_
    rw [if_neg (by omega)];exact hrow
   ·intro v hv
    simp only [List.mem_cons,List.not_mem_nil,or_false]at hv;rcases hv with rfl|rfl|rfl<;>rfl
   ·show sk.length+1≤9223372036854775807
    omega
   ·obtain⟨hG6,hk6⟩:=hA _ _ _ rfl hM7.dom hAp
    have hM6:=hM7.more hk6;have hmu:T.aK.length-(sk++ [(k,(⟨a,b,c⟩:bb))]).length<T.aK.length-sk.length:=by rw [List.length_append,List.length_singleton];omega
    have hg6:(Bl A A1 i s T.aK).G (⟨A6,sk++ [(k,(⟨a,b,c⟩:bb))],v⟩:SG):=⟨hM6,by
     show bq A1 A6 3 83 (sk++ [(k,(⟨a,b,c⟩:bb))]).length v ((sk++ [(k,(⟨a,b,c⟩:bb))]).flatMap fun e=>br e.2)
     rw [List.length_append,List.flatMap_append];exact hG6⟩
    conv=>lhs;whnf
    exact(hD _).2 ⟨(⟨A6,sk++ [(k,(⟨a,b,c⟩:bb))],v⟩:SG),⟨hg6,⟨rfl,trivial⟩,trivial,rfl⟩,hmu,⟨rfl,trivial⟩,trivial⟩
 ·have hperm:=hM.done (fun a b e=>by injection e) h.skeys hall
  have hkeys:fH (sk.map (·.1))=fH (T.aK.map (·.1)):=ja (hperm.map _)
  have hrows:∀l:List (Int×bb),(∀e∈l,e∈T.aK)→l.flatMap (fun e=>br e.2)=(l.map (·.1)).flatMap fun k=>br (fq T.aK k):=fun l hl=>by
   rw [List.flatMap_map];refine sU fun e he=> ?_
   rw [oM h.skeys hok (hl e he)]
  have hsk:=hrows sk hM.mem;have hlk:(sk.map (·.1)).length=sk.length:=List.length_map _
  have hlT:(aU T).length=sk.length:=by
   rw [aU,List.length_map,←hkeys,eN,hlk]
  have hend:∀x A5,A.Sub A5→Sl (A5.minus A) 3 sk.length x ((fH (sk.map (·.1))).flatMap fun k=>br (fq T.aK k))→lS.post ⟨T,B,O,t⟩ [.pointer (some ⟨t,0,none⟩)] A x A5:=fun x A5 h5 hS=>by
   refine⟨h5,?_⟩;show Sl _ 3 (aU T).length x ((aU T).flatMap br)
   rw [hlT,aU,List.flatMap_map,←hkeys];exact hS
  obtain⟨hl0,⟨h0,rfl⟩|⟨g0,nc,c,rfl,hle0,hpos0,hg0,hb0,hs0,ht0⟩⟩:=hGs
  ·have hk0:sk.map (·.1)= []:=List.length_eq_zero_iff.1 (hlk.trans h0)
   rw [hk0]at hend;conv=>lhs;whnf
   refine(hD _).2 ⟨(0,fq T.aK, []),⟨lT _,.inl ⟨rfl,none,0,rfl⟩⟩,fun v A5 hq=> ?_⟩;obtain rfl:A5=As:=hq.1 rfl;have hend:=hend (.slice none 0 0) A5 hM.old (by rw [h0];show Sl _ 3 0 _ ((fH []).flatMap _);rw [show fH []= []from List.mergeSort_nil];exact Sl.nil _ _);conv=>lhs;whnf
   exact(hD _).2 hend
  ·by_cases hk0:sk= []
   ·subst hk0
    conv=>lhs;whnf
    refine(hD _).2 ⟨(0,fq T.aK, []),⟨lT _,.inl ⟨rfl,some ⟨g0,0,none⟩,nc,rfl⟩⟩,fun v A5 hq=> ?_⟩;obtain rfl:A5=As:=hq.1 rfl;have hend:=hend (.slice (some ⟨g0,0,none⟩) 0 nc) A5 hM.old (by show Sl _ 3 0 _ ((fH []).flatMap _);rw [show fH []= []from List.mergeSort_nil];exact Sl.zero _ _ (fun h=>(by cases h)) fun a ha _=>by injection ha with ha;subst ha;rfl);conv=>lhs;whnf
    exact(hD _).2 hend
   ·have hroom:As.Room g0 0 ((sk.map (·.1)).length*3):=⟨c,83,(0,0),hb0,by rw [hlk,hs0];have:=Nat.mul_le_mul_right 3 hle0;omega,.inl rfl⟩
    have hrd0:As.rd g0 0 ((sk.map (·.1)).length*3)=some ((sk.map (·.1)).flatMap fun k=>br (fq T.aK k)):=by
     rw [rd_mk hb0 (by rw [hlk,hs0];have:=Nat.mul_le_mul_right 3 hle0;omega),List.drop_zero,hlk,ht0,hsk]
    have hne:sk.map (·.1)≠ []:=fun e=>hk0 (List.map_eq_nil_iff.1 e)
    have hpre:ri.pre (g0,fq T.aK,sk.map (fun x:Int×bb=>x.1)) [.slice (some ⟨g0,0,none⟩) sk.length nc,cmpV] As:=by
     refine⟨lT _,.inr ⟨hne,?_,hroom,hrd0,nc,?_⟩⟩
     ·show(sk.map (·.1)).length<_;omega
     ·rw [←hlk]
    conv=>lhs;whnf
    refine(hD _).2 ⟨(g0,fq T.aK,sk.map (fun x:Int×bb=>x.1)),hpre,fun v A5 hq=> ?_⟩;have hP5:As.Put A5 g0 0 ((fH (sk.map (·.1))).flatMap fun k=>br (fq T.aK k)):=hq.2 hne
    have hAg:A.blk g0=none:=by
     cases hA:A.blk g0 with
     |none=>rfl
     |some o=>rw [hM.sub1 _ _ hA]at hg0;cases hg0
    have hA5:A.Sub A5:=hP5.sub hM.old hAg
    have hsl:((fH (sk.map (·.1))).flatMap fun k=>br (fq T.aK k)).length=sk.length*3:=by
     have:∀l:List Int,(l.flatMap fun k=>br (fq T.aK k)).length=l.length*3:=fun l=>by
      induction l with
      |nil=>rfl
      |cons x l ih=>rw [List.flatMap_cons,List.length_append,ih,List.length_cons,Nat.succ_mul];show 3+_=_;omega
     rw [this,eN,hlk]
    have hend:=hend (.slice (some ⟨g0,0,none⟩) sk.length nc) A5 hA5 (by
     refine Sl.row hle0 (jA ?_ hAg);obtain⟨c0,t0,fz0,c',k1,k2,k3⟩:=hP5.at_;rw [hb0]at k1;injection k1 with k1;injection k1 with k1 k1' k1''
     subst k1;subst k1';subst k1''
     have h3:=Nat.mul_le_mul_right 3 hle0
     rw [rd_mk k2 (by
      rw [←Array.length_toList,k3];simp only [List.length_append,List.length_take,List.length_drop,hsl,Array.length_toList]
      omega),List.drop_zero,k3]
     simp [hsl])
    conv=>lhs;whnf
    exact(hD _).2 hend
def eC(q:ByteArray):List UInt8:=q.data.toList
def cq(T:aT):List (List UInt8):=dL (T.nodes.map fun e=>eC e.1)
theorem zj(q:ByteArray):cj (eC q)= .string q:=by
 obtain⟨⟨l⟩⟩:=q;rfl
abbrev xf(p:ByteArray):Value:= .string p
abbrev xV(x:Nat×bn):Value:=gV x.1
structure PG where
 A:aa
 sk:List (ByteArray×Nat×bn)
 v:Value
def xQ(A0 A1:aa)(i m:Nat)(l:List (ByteArray×Nat×bn)):dE:=
 { γ:=PG,G:=fun g=>dG xf xV A0 A1 g.A i m l g.sk∧bq A1 g.A 1 9 g.sk.length g.v (g.sk.map fun e=>cj (eC e.1)),
   keepS:= [11],keepB:= [],sl:=fun g=> [(3,.v g.v)],bl:=fun _=> [],ar:=fun g=>g.A,mu:=fun g=>l.length-g.sk.length }
def zQ:aL:=⟨TG,fun g vs A=>vs= [.pointer (some ⟨g.t,0,none⟩)]∧bz A g.B g.O g.t g.T∧g.T.nodes.length≤1000000,
 fun g _ A v A'=>A.Sub A'∧Sl (A'.minus A) 1 (cq g.T).length v ((cq g.T).map cj)⟩
theorem Fi:FOk Tryz.prog 95 zQ:=by
 refine aS mixed fun⟨T,B,O,t⟩ vs A hp=> ?_
 obtain⟨rfl,⟨m,s,E,h⟩,hlen⟩:vs= [.pointer (some ⟨t,0,none⟩)]∧bz A B O t T∧T.nodes.length≤1000000:=hp;have hlE:E.length≤1000000:=by rw [h.nodes,dv,List.length_map]at hlen;exact hlen
 have hCt:aF Tryz.prog (bu [aE 124 Bj] noC):=az (aj _) (fun x hx=>by
  simp only [List.mem_singleton]at hx
  subst hx;exact ai Bi)
 refine⟨_,da Tryz.prog _ noL 60 [(95,0)],60,hCt,aH mixed hCt (ak _) _ _,fun blk os out tape D hD=> ?_⟩;have htop0:A.rd t 0 1=some [.map (some m)]:=h.top.rd (o:=0) (n:=1) (by show 0+1≤2;omega);conv=>lhs;whnf
 repeat(first|refine af htop0 ?_|refine au hD rfl ?_
        conv=>lhs;whnf)
 have hLE:fF gV (dv (·.1) E)=E.map fun e=>(xf e.1,xV e.2):=by simp [fF,dv]
 have hnm:=h.nmap;rw [hLE]at hnm;have hnd:=mP (kv:=xf) (f:=xV) (fun a b e=>by injection e) h.keys;refine(hD _).2 ⟨_,hnm,hnd,fun i A1 hi hA1 hI=> ?_⟩;have hM1:dG xf xV A A1 A1 i m E []:=dG.start hi hA1 hI;conv=>lhs;whnf
 refine(hD _).2 ⟨xQ A A1 i m E,⟨(⟨A1, [],.slice none 0 0⟩:PG),⟨hM1,bq.nil _ _ _ _⟩,⟨rfl,trivial⟩,trivial,rfl⟩,fun(sg:PG) hG=>⟨⟨trivial,trivial⟩,trivial,?_⟩⟩;obtain⟨As,sk,v0⟩:=sg;obtain⟨hM,hGs⟩:dG xf xV A A1 As i m E sk∧bq A1 As 1 9 sk.length v0 (sk.map fun e:ByteArray×Nat×bn=>cj (eC e.1)):=hG;have hle:=hM.le;conv=>lhs;whnf
 refine(hD _).2 (.inl ⟨m,_,_,hM.it,fun e he hn A2 hA2 hI2 hent=> ?_,fun hall=> ?_⟩)
 ·obtain⟨⟨p,gn,n⟩,hx,rfl,hns,hM2,hlt⟩:=hM.next he hn hA2 hI2
  have hent:A2.ent i=some (.tuple #[.string p,.pointer (some ⟨gn,0,none⟩)]):=hent;have hG2:=hGs.bk (A':=A2) fun q hq=>hA2 q fun e=>by subst e;rw [hM.iex.choose_spec]at hq;cases hq
  conv=>lhs;whnf
  split
  rotate_left
  ·rename_i hv
   exact absurd (hent.symm.trans hv) (by simp)
  rename_i v hv;obtain rfl:=Option.some.inj (hent.symm.trans hv);conv=>lhs;whnf
  refine(hD _).2 fun gb A7 hN=> ?_
  have hN:A2.New A7 gb #[.string p] 9:=hN;have hM7:=hM2.sub hN.sub;have hG7:=hG2.sub hN.sub;obtain⟨base,cp,rfl,hbase,hP,hA⟩:=hG7.form;have hP:=hP 16 (by omega) (by omega);have hrow:A7.rd gb 0 (1*1)=some [.string p]:=hN.rd (o:=0) (n:=1*1) (by show 0+1*1≤1;omega);rcases hbase with rfl|⟨g0,rfl⟩<;>(conv=>lhs;whnf)
  all_goals
   refine(hD _).2 ⟨sk.map fun e:ByteArray×Nat×bn=>cj (eC e.1), [.string p],hP.rd,?_,rfl,?_,?_,hP.cap,rfl,hP.none_,fun g' o' he' hle' _=>hP.room 1 rfl g' o' he' hle',fun v A6 hAp=> ?_⟩
   ·show(if 1*1=0 then some []else A7.rd gb 0 (1*1))=_
    rw [if_neg (by omega)];exact hrow
   ·intro v hv
    simp only [List.mem_cons,List.not_mem_nil,or_false]at hv;subst hv;rfl
   ·show sk.length+1≤9223372036854775807
    omega
   ·obtain⟨hG6,hk6⟩:=hA _ _ _ rfl hM7.dom hAp
    have hM6:=hM7.more hk6;have hmu:E.length-(sk++ [(p,gn,n)]).length<E.length-sk.length:=by rw [List.length_append,List.length_singleton];omega
    have hg6:(xQ A A1 i m E).G (⟨A6,sk++ [(p,gn,n)],v⟩:PG):=⟨hM6,by
     show bq A1 A6 1 9 (sk++ [(p,gn,n)]).length v ((sk++ [(p,gn,n)]).map fun e=>cj (eC e.1))
     rw [List.length_append,List.map_append,List.map_singleton,zj];exact hG6⟩
    conv=>lhs;whnf
    exact(hD _).2 ⟨(⟨A6,sk++ [(p,gn,n)],v⟩:PG),⟨hg6,⟨rfl,trivial⟩,trivial,rfl⟩,hmu,⟨rfl,trivial⟩,trivial⟩
 ·have hperm:=hM.done (fun a b e=>by injection e) h.keys hall
  obtain⟨ps,hps⟩:∃ps:List (List UInt8),ps=sk.map fun e:ByteArray×Nat×bn=>eC e.1:=⟨_,rfl⟩
  have hsort:dL ps=cq T:=by
   rw [hps,cq,h.nodes,dv,List.map_map];exact mergeSort_of_perm (hperm.map _)
  have hpl:ps.length=sk.length:=by rw [hps,List.length_map]
  have hpv:(sk.map fun e:ByteArray×Nat×bn=>cj (eC e.1))=ps.map cj:=by rw [hps,List.map_map];rfl
  rw [hpv]at hGs
  have hend:∀x A5,A.Sub A5→Sl (A5.minus A) 1 ps.length x ((dL ps).map cj)→zQ.post ⟨T,B,O,t⟩ [.pointer (some ⟨t,0,none⟩)] A x A5:=fun x A5 h5 hS=>by
   refine⟨h5,?_⟩;show Sl _ 1 (cq T).length x ((cq T).map cj)
   rw [←hsort,dK];exact hS
  have hold:=hM.old;have hsub1:=hM.sub1;rw [←hpl]at hGs;clear hpv hps;obtain⟨hl0,⟨h0,rfl⟩|⟨g0,nc,c,rfl,hle0,hpos0,hg0,hb0,hs0,ht0⟩⟩:=hGs
  ·obtain rfl:ps= []:=List.length_eq_zero_iff.1 h0
   conv=>lhs;whnf
   refine(hD _).2 ⟨(0, []),.inl ⟨rfl,none,0,rfl⟩,fun v A5 hq=> ?_⟩;obtain rfl:A5=As:=hq.1 rfl;have hend:=hend (.slice none 0 0) A5 hold (by show Sl _ 1 0 _ ((dL []).map cj);rw [show dL []= []from List.mergeSort_nil];exact Sl.nil _ _);conv=>lhs;whnf
   exact(hD _).2 hend
  ·by_cases hk0:ps= []
   ·subst hk0
    conv=>lhs;whnf
    refine(hD _).2 ⟨(0, []),.inl ⟨rfl,some ⟨g0,0,none⟩,nc,rfl⟩,fun v A5 hq=> ?_⟩;obtain rfl:A5=As:=hq.1 rfl;have hend:=hend (.slice (some ⟨g0,0,none⟩) 0 nc) A5 hold (by show Sl _ 1 0 _ ((dL []).map cj);rw [show dL []= []from List.mergeSort_nil];exact Sl.zero _ _ (fun h=>(by cases h)) fun a ha _=>by injection ha with ha;subst ha;rfl);conv=>lhs;whnf
    exact(hD _).2 hend
   ·have hroom:As.Room g0 0 ps.length:=⟨c,9,(0,0),hb0,by omega,.inl rfl⟩
    have hrd0:As.rd g0 0 ps.length=some (ps.map cj):=by
     rw [rd_mk hb0 (by omega),List.drop_zero];rw [Nat.mul_one]at ht0;rw [ht0]
    have hlt:ps.length<4611686018427387904:=by omega
    have hpre:Bj.pre (g0,ps) [.slice (some ⟨g0,0,none⟩) ps.length nc] As:= .inr ⟨hk0,hlt,hroom,hrd0,nc,rfl⟩;conv=>lhs;whnf
    refine(hD _).2 ⟨(g0,ps),hpre,fun v A5 hq=> ?_⟩;have hP5:As.Put A5 g0 0 ((dL ps).map cj):=hq.2 hk0
    have hAg:A.blk g0=none:=by
     cases hA:A.blk g0 with
     |none=>rfl
     |some o=>rw [hsub1 _ _ hA]at hg0;cases hg0
    have hA5:A.Sub A5:=hP5.sub hold hAg
    have hend:=hend (.slice (some ⟨g0,0,none⟩) ps.length nc) A5 hA5 (by
     refine Sl.row hle0 (jA ?_ hAg);obtain⟨c0,t0,fz0,c',k1,k2,k3⟩:=hP5.at_;rw [hb0]at k1;injection k1 with k1;injection k1 with k1 k1' k1''
     subst k1;subst k1';subst k1''
     have hsl:=dK ps
     rw [Nat.mul_one,rd_mk k2 (by
      rw [←Array.length_toList,k3];simp only [List.length_append,List.length_take,List.length_drop,List.length_map,hsl,Array.length_toList]
      omega),List.drop_zero,k3]
     simp [hsl])
    conv=>lhs;whnf
    exact(hD _).2 hend
end
end Go.Proofs.YtphigpccfbfnoaaGreatDoor
namespace Go.Proofs.YtphigpccfbfnoaaGreatDoor
open Go.Sx Go.RowKit
noncomputable section
open Classical
instance :LawfulBEq ByteArray where
 eq_of_beq h:=(eV _ _ h).symm
 rfl:=lH _
section
variable {κ α:Type} [BEq κ] [LawfulBEq κ]
theorem jJ [DecidableEq κ](p q:κ)(x:α):∀l:List (κ×α),aM q (cH p x l)=if q=p then some x else aM q l
 | []=>by
   by_cases h:q=p
   ·subst h;simp [cH,aM]
   ·have hb:(q==p)=false:=by simpa using h
    simp [cH,aM,h,hb]
 |(r,y)::l=>by
  simp only [cH]
  by_cases hr:p=r
  ·subst hr
   simp only [BEq.rfl,cond_true,aM]
   by_cases h:q=p
   ·subst h;simp
   ·have hb:(q==p)=false:=by simpa using h
    simp [h,hb]
  ·have:(p==r)=false:=by simpa using hr
   simp only [this,cond_false,aM,jJ p q x l]
   by_cases h:q=p
   ·subst h
    simp [this]
   ·simp [h]
theorem sw [DecidableEq κ](p q:κ)(f:α→α):∀l:List (κ×α),aM q (ev p f l)=if q=p then(aM q l).map f else aM q l
 | []=>by simp [ev,aM]
 |(r,y)::l=>by
  simp only [ev]
  by_cases hr:p=r
  ·subst hr
   simp only [BEq.rfl,cond_true,aM]
   by_cases h:q=p
   ·subst h;simp
   ·have hb:(q==p)=false:=by simpa using h
    simp [h,hb]
  ·have:(p==r)=false:=by simpa using hr
   simp only [this,cond_false,aM,sw p q f l]
   by_cases h:q=p
   ·subst h
    simp [this]
   ·simp [h]
theorem jK{p:κ} :∀ {l:List (κ×α)},p∉l.map (·.1)→aM p l=none
 | [],_=>rfl
 |(r,y)::l,h=>by
  simp only [List.map_cons,List.mem_cons,not_or]at h;have:(p==r)=false:=by simpa using h.1
  simp only [aM,this,cond_false];exact jK h.2
theorem sy [DecidableEq κ](p q:κ):∀ {l:List (κ×α)},(l.map (·.1)).Nodup→aM q (eJ p l)=if q=p then none else aM q l
 | [],_=>by simp [eJ,aM]
 |(r,y)::l,hn=>by
  rw [List.map_cons,List.nodup_cons]at hn;simp only [eJ]
  by_cases hr:p=r
  ·subst hr
   simp only [BEq.rfl,cond_true,aM]
   by_cases h:q=p
   ·subst h
    rw [if_pos rfl];exact jK hn.1
   ·have hb:(q==p)=false:=by simpa using h
    simp [h,hb]
  ·have:(p==r)=false:=by simpa using hr
   simp only [this,cond_false,aM,sy p q hn.2]
   by_cases h:q=p
   ·subst h
    simp [this]
   ·simp [h]
theorem qQ(p:κ)(x:α):∀ {l:List (κ×α)},(l.map (·.1)).Nodup→((cH p x l).map (·.1)).Nodup
 | [],_=>by simp [cH]
 |(r,y)::l,hn=>by
  rw [List.map_cons,List.nodup_cons]at hn;simp only [cH]
  by_cases hr:p=r
  ·subst hr
   simp only [BEq.rfl,cond_true,List.map_cons,List.nodup_cons];exact hn
  ·have:(p==r)=false:=by simpa using hr
   simp only [this,cond_false,List.map_cons,List.nodup_cons];refine⟨fun h=> ?_,qQ p x hn.2⟩;rcases pA p x l r h with h|h
   ·exact hn.1 h
   ·exact hr h.symm
theorem fX(p:κ):∀(l:List (κ×α)),(eJ p l).Sublist l
 | []=>by simp [eJ]
 |(r,y)::l=>by
  simp only [eJ]
  by_cases hr:p=r
  ·subst hr
   simp
  ·have:(p==r)=false:=by simpa using hr
   simp only [this,cond_false];exact(fX p l).cons_cons _
theorem BJ(p:κ){l:List (κ×α)}(h:(l.map (·.1)).Nodup):((eJ p l).map (·.1)).Nodup:=h.sublist ((fX p l).map _)
theorem lB{p:κ}{l:List (κ×α)} :aM p l≠none↔p∈l.map (·.1):=by
 constructor
 ·intro h
  by_cases hm:p∈l.map (·.1)
  ·exact hm
  ·exact absurd (jK hm) h
 ·intro hm h
  exact iz (by simp) h hm
end
def owN(a:Option (List UInt8×Int×Int×Int))(b:Option (Int×Int))(n:bn):bn:=
 ⟨match a with|some x=>x.1|none=>n.data,
  { n.stat with
    mzxid:=match a with|some x=>x.2.1|none=>n.stat.mzxid
    mtime:=match a with|some x=>x.2.2.1|none=>n.stat.mtime
    ver:=match a with|some x=>x.2.2.2|none=>n.stat.ver
    cver:=match b with|some x=>x.1|none=>n.stat.cver
    pzxid:=match b with|some x=>x.2|none=>n.stat.pzxid }⟩
def Ow(f:Option bn→Option bn):Prop:=(∃c,f=fun _=>c)∨∃a b,f=Option.map (owN a b)
def mG(h:bJ)(z:Int)(q:ByteArray)(o:Option bn):Option bn:=if q=aR h.path then o.map (gN z h.cver)else o
def oz(h:bJ)(z time:Int)(q:ByteArray)(o:Option bn):Option bn:=
 if h.kind=3 then(if q=h.path then o.map (kj h z time)else o)
 else if h.kind=1 then mG h z q (if q=h.path then some (iT h z time)else o)
 else if h.kind=2 then mG h z q (if q=h.path then none else o)
 else mG h z q o
def ND(T:aT):Prop:=(T.nodes.map (·.1)).Nodup∧(T.aK.map (·.1)).Nodup
theorem sI(T:aT)(h:bJ)(z:Int)(q:ByteArray):aM q (cB T h.path z h.cver).nodes=mG h z q (aM q T.nodes):=by
 unfold cB mG;exact sw (aR h.path) q (gN z h.cver) T.nodes
theorem sJ{T:aT}(hn:ND T)(h:bJ)(z time:Int)(q:ByteArray):aM q (aV T h z time).nodes=oz h z time q (aM q T.nodes):=by
 unfold aV oz
 by_cases h3:h.kind=3
 ·rw [if_pos h3,if_pos h3];exact sw h.path q (kj h z time) T.nodes
 ·rw [if_neg h3,if_neg h3]
  by_cases h1:h.kind=1
  ·rw [if_pos h1,if_pos h1,sI,jJ]
  ·rw [if_neg h1,if_neg h1]
   by_cases h2:h.kind=2
   ·rw [if_pos h2,if_pos h2,sI,sy _ _ hn.1]
   ·rw [if_neg h2,if_neg h2,sI]
theorem vS{T:aT}(hn:ND T)(p:ByteArray)(z cv:Int):ND (cB T p z cv):=⟨by
 show((ev _ _ T.nodes).map (·.1)).Nodup
 rw [gE];exact hn.1,hn.2⟩
theorem iv(T:aT)(h:bJ)(z time:Int):(aV T h z time).aK=T.aK:=by
 unfold aV cB
 split<;>(try split)<;>(try split)<;>rfl
theorem uA{T:aT}(hn:ND T)(h:bJ)(z time:Int):ND (aV T h z time):=by
 unfold aV
 split
 ·exact⟨by show((ev _ _ T.nodes).map (·.1)).Nodup;rw [gE];exact hn.1,hn.2⟩
 ·split
  ·exact vS (T:=⟨cH h.path (iT h z time) T.nodes,T.aK⟩) ⟨qQ _ _ hn.1,hn.2⟩ _ _ _
  ·split
   ·exact vS (T:=⟨eJ h.path T.nodes,T.aK⟩) ⟨BJ _ hn.1,hn.2⟩ _ _ _
   ·exact vS hn _ _ _
def rP(ps:List aB)(z time:Int)(q:ByteArray)(o:Option bn):Option bn:=ps.foldl (fun o p=>oz p.h z time q o) o
theorem pb(z time:Int):∀(ps:List aB) {T:aT},ND T→ND (bU T ps z time)∧(bU T ps z time).aK=T.aK∧∀q,aM q (bU T ps z time).nodes=rP ps z time q (aM q T.nodes)
 | [],T,hn=>⟨hn,rfl,fun _=>rfl⟩
 |p::ps,T,hn=>by
  obtain⟨h1,h2,h3⟩:=pb z time ps (uA hn p.h z time);refine⟨h1,h2.trans (iv T p.h z time),fun q=> ?_⟩;show aM q (bU (aV T p.h z time) ps z time).nodes=_
  rw [h3,sJ hn];rfl
def doF(d:aB)(q:ByteArray)(o:Option bn):Option bn:=
 if d.h.kind=1∨d.h.kind=2∨d.h.kind=3 then oz d.h d.h.zxid d.h.time q o
 else if d.h.kind=5∨d.h.kind=8 then rP d.parts d.h.zxid d.h.time q o
 else o
def mQ(d:aB)(s:Int)(o:Option bb):Option bb:=if s=d.h.ses then o.map fun x=>⟨x.ses,x.tmo,max x.ah d.h.ah⟩else o
def sitF(d:aB)(s:Int)(o:Option bb):Option bb:=
 mQ d s (if d.h.kind=4 then(if s=d.h.zxid then some ⟨d.h.zxid,d.h.tmo,d.h.ah⟩else o)
  else if d.h.kind=5 then(if s=d.h.owner then none else o)else o)
theorem do_all{T:aT}(hn:ND T)(d:aB):ND (cX T d)∧(∀q,aM q (cX T d).nodes=doF d q (aM q T.nodes))∧
  ∀s,aM s (cX T d).aK=if d.h.kind=4 then(if s=d.h.zxid then some ⟨d.h.zxid,d.h.tmo,d.h.ah⟩else aM s T.aK)else if d.h.kind=5 then(if s=d.h.owner then none else aM s T.aK)else aM s T.aK:=by
 unfold cX doF
 by_cases h1:d.h.kind=1∨d.h.kind=2∨d.h.kind=3
 ·simp only [h1,if_true]
  refine⟨uA hn _ _ _,fun q=>sJ hn _ _ _ q,fun s=> ?_⟩;rw [iv,if_neg (by omega),if_neg (by omega)]
 ·simp only [h1,if_false]
  by_cases h4:d.h.kind=4
  ·simp only [h4,if_true]
   refine⟨⟨hn.1,qQ _ _ hn.2⟩,fun q=>rfl,fun s=>jJ _ _ _ _⟩
  ·simp only [h4,if_false]
   by_cases h5:d.h.kind=5
   ·simp only [h5,if_true,true_or]
    obtain⟨k1,k2,k3⟩:=pb d.h.zxid d.h.time d.parts (T:=⟨T.nodes,eJ d.h.owner T.aK⟩) ⟨hn.1,BJ _ hn.2⟩;refine⟨k1,k3,fun s=> ?_⟩;rw [k2];exact sy _ _ hn.2
   ·simp only [h5,if_false,false_or]
    by_cases h8:d.h.kind=8
    ·simp only [h8,if_true]
     obtain⟨k1,k2,k3⟩:=pb d.h.zxid d.h.time d.parts hn;exact⟨k1,k3,fun s=>by rw [k2]⟩
    ·simp only [h8,if_false]
     exact⟨hn,fun _=>trivial,fun _=>trivial⟩
theorem Cu{T:aT}(hn:ND T)(d:aB):ND (bc T d.h.ses d.h.ah)∧(bc T d.h.ses d.h.ah).nodes=T.nodes∧∀s,aM s (bc T d.h.ses d.h.ah).aK=mQ d s (aM s T.aK):=by
 unfold bc mQ
 cases hk:aM d.h.ses T.aK with
 |none=>
  refine⟨hn,rfl,fun s=> ?_⟩
  by_cases e:s=d.h.ses
  ·rw [if_pos e,e,hk];rfl
  ·rw [if_neg e]
 |some x=>
  refine⟨⟨hn.1,qQ _ _ hn.2⟩,rfl,fun s=> ?_⟩;rw [jJ]
  by_cases e:s=d.h.ses
  ·rw [if_pos e,if_pos e,e,hk];rfl
  ·rw [if_neg e,if_neg e]
theorem uX{T:aT}(hn:ND T)(d:aB):ND (aN T d)∧(∀q,aM q (aN T d).nodes=if cJ d then doF d q (aM q T.nodes)else aM q T.nodes)∧
  ∀s,aM s (aN T d).aK=if cJ d then sitF d s (aM s T.aK)else aM s T.aK:=by
 unfold aN
 by_cases h:cJ d
 ·simp only [h,if_true]
  obtain⟨k1,k2,k3⟩:=do_all hn d;obtain⟨j1,j2,j3⟩:=Cu k1 d;refine⟨j1,fun q=>by rw [j2,k2],fun s=> ?_⟩;rw [j3,k3];rfl
 ·simp only [h,if_false]
  exact⟨hn,fun _=>trivial,fun _=>trivial⟩
def TEq(T U:aT):Prop:=(∀q,aM q T.nodes=aM q U.nodes)∧∀s,aM s T.aK=aM s U.aK
end
end Go.Proofs.YtphigpccfbfnoaaGreatDoor
namespace Go.Proofs.YtphigpccfbfnoaaGreatDoor
open Go.Sx Go.RowKit
noncomputable section
open Classical
def SlS(A:aa)(v:Value)(l:List bb):Prop:=Sl A 3 l.length v (l.flatMap br)∧l.length≤140737488351232
theorem BS{α:Type}(enc:α→List Value)(k:Nat)(hk:∀x,(enc x).length=k):∀(l:List α) (i:Nat) (hi:i<l.length),((l.flatMap enc).drop (i*k)).take k=enc l[i]
 | [],i,hi=>by simp at hi
 |x::l,0,_=>by
  rw [Nat.zero_mul,List.drop_zero,List.flatMap_cons,List.take_append_of_le_length (by rw [hk];omega),List.take_of_length_le (by rw [hk];omega)];rfl
 |x::l,i+1,hi=>by
  rw [List.flatMap_cons,Nat.succ_mul,Nat.add_comm,←List.drop_drop,List.drop_left' (hk x)];exact BS enc k hk l i (by simpa using hi)
theorem fQ{α:Type}{enc:α→List Value}{k:Nat}(hk:∀x,(enc x).length=k){A:aa}{g o n:Nat}{l:List α}(h:A.rd g o (n*k)=some (l.flatMap enc))(i:Nat)(hi:i<l.length)(hn:n=l.length):A.rd g (o+i*k) k=some (enc l[i]):=by
 have hle:i*k+k≤n*k:=by rw [←Nat.succ_mul];exact Nat.mul_le_mul_right _ (by omega)
 rw [cU h (i:=i*k) (m:=k) hle,BS enc k hk l i hi]
def fO(l:List (Int×bb))(s:bb):List (Int×bb):=if s.ses<1 then l else cH s.ses s l
def cC(l:List bb):List (Int×bb):=l.foldl fO []
theorem nD(l:List bb)(s:bb):cC (l++ [s])=fO (cC l) s:=by
 unfold cC;rw [List.foldl_append];rfl
def bY(sk:List (ByteArray×Nat×bn)):List (ByteArray×bn):=sk.foldl (fun l e=>cH e.1 e.2.2 l) cg.nodes
theorem th(sk:List (ByteArray×Nat×bn))(e:ByteArray×Nat×bn):bY (sk++ [e])=cH e.1 e.2.2 (bY sk):=by
 unfold bY;rw [List.foldl_append];rfl
end
end Go.Proofs.YtphigpccfbfnoaaGreatDoor
