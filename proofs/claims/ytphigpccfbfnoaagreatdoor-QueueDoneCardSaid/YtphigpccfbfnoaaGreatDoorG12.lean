/-
  Parts of the proof: SxP
-/
import Derived.Test.YtphigpccfbfnoaaGreatDoorG11
set_option maxRecDepth 100000
set_option maxHeartbeats 0
namespace Go.Sx
noncomputable section
variable {dfs : List Deferred}
def tb(m i:Nat):Bool:=Nat.beq (Nat.land (Nat.shiftRight m i) 1) 1
theorem Be(m i:Nat):tb m i=m.testBit i:=by
 unfold tb;have h1:Nat.land (Nat.shiftRight m i) 1=(m>>>i)%2:=Nat.and_one_is_mod (m>>>i);rw [h1,Nat.testBit_eq_decide_div_mod_eq,Nat.shiftRight_eq_div_pow]
 cases h:Nat.beq (m/2^i%2) 1 with
 |true=>have:=Nat.eq_of_beq_eq_true h;simp [this]
 |false=>
  have:m/2^i%2≠1:=fun e=>by rw [e]at h;cases h
  simp [this]
def bit(i:Nat):Nat:=Nat.shiftLeft 1 i
theorem lJ(i j:Nat):(bit i).testBit j=decide (i=j):=by
 show(1<<<i).testBit j=_
 rw [Nat.one_shiftLeft,Nat.testBit_two_pow]
theorem iH(a b i:Nat):(Nat.lor a b).testBit i=(a.testBit i||b.testBit i):=Nat.testBit_or a b i
theorem pw(a b i:Nat):(Nat.land a b).testBit i=(a.testBit i&&b.testBit i):=Nat.testBit_and a b i
def dis(a b:Nat):Bool:=Nat.beq (Nat.land a b) 0
theorem te{a b:Nat}(h:dis a b=true){i:Nat}(ha:a.testBit i=true):b.testBit i=false:=by
 have h:=Nat.eq_of_beq_eq_true h;have h2:(Nat.land a b).testBit i=false:=by rw [h];simp
 rw [pw,ha]at h2;simpa using h2
def sub(a b:Nat):Bool:=Nat.beq (Nat.land a b) a
theorem iR{a b:Nat} :sub a b=true↔∀i,a.testBit i=true→b.testBit i=true:=by
 unfold sub;constructor
 ·intro h i hi
  have h:=Nat.eq_of_beq_eq_true h;rw [←h,pw]at hi;simp at hi;exact hi.2
 ·intro h
  have:Nat.land a b=a:=by
   apply Nat.eq_of_testBit_eq;intro i;rw [pw]
   cases ha:a.testBit i with
   |false=>rfl
   |true=>simp [h i ha]
  rw [this,Nat.beq_refl]
def oA(g:Ground):Bool:=match g with
 | .textOnly _=>false
 | .gcOnly _=>false
 |_=>true
theorem pU(e:Edge):Region.binds .any e=oA e.ground:=by
 unfold Region.binds oA
 cases e.ground<;>rfl
def uz:List Edge→Nat
 | []=>0
 |e::es=>bif oA e.ground then Nat.lor (bit e.on) (uz es)else uz es
theorem mX(i:Nat):∀(es:List Edge),(uz es).testBit i=true↔∃e∈es,Region.binds .any e=true∧e.on=i:=by
 intro es
 induction es with
 |nil=>simp [uz]
 |cons e es ih=>
  simp only [uz,List.mem_cons,exists_eq_or_imp,pU]
  cases hb:oA e.ground with
  |false=>simp only [cond_false,Bool.false_eq_true,false_and,false_or];rw [ih];simp only [pU]
  |true=>
   simp only [cond_true,iH,lJ,Bool.or_eq_true,decide_eq_true_eq,true_and];rw [ih];simp only [pU]
def zf:List Operand→Nat
 | []=>0
 |x::xs=>match x with
  | .tmp t=>Nat.lor (bit t) (zf xs)
  |_=>zf xs
theorem Cw(d:Nat):∀(xs:List Operand),(zf xs).testBit d=true↔d∈xs.filterMap fun| .tmp t=>some t|_=>none:=by
 intro xs
 induction xs with
 |nil=>simp [zf]
 |cons x xs ih=>
  cases x with
  |tmp t=>
   simp only [zf,iH,lJ,Bool.or_eq_true,decide_eq_true_eq,ih,List.filterMap_cons,List.mem_cons];exact or_congr ⟨Eq.symm,Eq.symm⟩ Iff.rfl
  |_=>simp [zf,ih]
def Gz(c:Call):List Operand:=match c.callee with
 | .value f=>f::c.args.toList
 | .invoke r _=>r::c.args.toList
 | .builtin _=>c.args.toList
def opdL(o:Op):List Operand:=match o with
 | .makeFunc _ f c=>f.toList++c.toList
 | .slice _ x l h m=>x::(l.toList++(h.toList++m.toList))
 | .call c=>Gz c
 |o=>o.operands.toList
theorem Gy(c:Call):c.operands.toList=Gz c:=by
 unfold Call.operands Gz
 cases c.callee<;>simp
theorem opdL_eq(o:Op):o.operands.toList=opdL o:=by
 cases o<;>first
  |rfl
  |exact Gy _
  |(simp [opdL,Op.operands])
def tX:Option Tmp→Nat
 |none=>0
 |some d=>bit d
theorem mh{o:Option Tmp}{d:Nat} :(tX o).testBit d=true↔o=some d:=by
 cases o with
 |none=>simp [tX]
 |some e=>simp [tX,lJ]
inductive Gd where
 |free
 |on (d:Tmp) (want:Bool)
 |bad
def guardOf(ol:List Oper)(o:Oper):Gd:=match o.guard with
 |none=> .free
 |some (j,want)=>match nth ol j with
  |none=> .bad
  |some x=>match x.dst with
   |none=> .bad
   |some d=> .on d want
def gdM:Gd→Nat
 | .on d _=>bit d
 |_=>0
def kF(ol:List Oper)(o:Oper):Nat:=Nat.lor (zf (opdL o.op)) (gdM (guardOf ol o))
theorem mZ(ops:Array Oper)(o:Oper)(d:Nat):(kF ops.toList o).testBit d=true↔d∈o.looksAt ops:=by
 unfold kF Oper.looksAt;rw [iH,Bool.or_eq_true,List.mem_append,Cw,opdL_eq];refine or_congr Iff.rfl ?_;unfold guardOf
 cases o.guard with
 |none=>simp [gdM]
 |some gw=>
  obtain⟨g,w⟩:=gw;simp only [lh,Array.getElem?_toList]
  cases ops[g]? with
  |none=>simp [gdM]
  |some x=>cases hx:x.dst with
   |none=>simp [gdM,hx]
   |some e=>simp [gdM,lJ,hx,eq_comm]
def effB(b:Builtin):Bool:=match b with
 | .append| .copy| .delete| .unsafeString=>true
 |_=>false
def toSlc(P:Program)(d:TypeId):Bool:=match ty P d with
 |some s=>yu s.und
 |none=>false
def Gg(P:Program)(o:Op):Bool:=match o with
 | .alloc _| .box _ _| .store _ _ _| .makeSlice _ _ _| .makeMap _ _| .buildSlice _ _ _| .mapUpdate _ _ _ _| .insert _ _ _ _| .range _ _| .next _ _| .panic _=>true
 | .call c=>match c.callee with
   | .builtin b=>effB b
   |_=>true
 | .convert _ d _=>toSlc P d
 |_=>false
def DE(o:Op):Bool:=match o with
 | .load _ _| .lookup _ _ _ _| .convert _ _ _| .entry _| .call _=>true
 |_=>false
theorem zD{P:Program}{tm:T SV}{h:HS}{op:Op}{v:SV}(hr:eb P tm h op=some v):DE op=true:=by
 cases op<;>first|rfl|simp [eb]at hr
def isSel(o:Op):Bool:=match o with
 | .select _ _=>true
 |_=>false
structure OpI where
 o:Oper
 dm:Nat
 lk:Nat
 nd:Nat
def fo(ol:List Oper)(o:Oper):OpI:=⟨o,tX o.dst,kF ol o,uz o.after.toList⟩
def infos(ol:List Oper):List Oper→List OpI
 | []=> []
 |o::os=>fo ol o::infos ol os
theorem pF(ol:List Oper):∀(os:List Oper) (i:Nat),nth (infos ol os) i=(nth os i).map (fo ol)
 | [],_=>rfl
 |_::_,0=>rfl
 |_::os,i+1=>pF ol os i
def wV(x y:OpI):Bool:=bif dis x.dm (Nat.lor y.lk y.dm)then dis y.dm x.lk else false
theorem y9{ops:Array Oper}{x y:Oper}(h:wV (fo ops.toList x) (fo ops.toList y)=true):x.apart ops y=true:=by
 unfold wV at h
 cases h1:dis (fo ops.toList x).dm (Nat.lor (fo ops.toList y).lk (fo ops.toList y).dm)with
 |false=>rw [h1]at h;cases h
 |true=>
  rw [h1]at h;simp only [cond_true]at h
  have k1:∀d,x.dst=some d→d∉y.looksAt ops∧y.dst≠some d:=fun d hd=>by
   have:=te h1 (i:=d) (mh.2 hd);rw [iH,Bool.or_eq_false_iff]at this
   exact⟨fun hm=>by rw [←mZ]at hm;exact absurd hm (by rw [show(kF ops.toList y).testBit d=false from this.1];simp),fun he=>by
    have h2:=mh.2 he
    rw [show(tX y.dst).testBit d=false from this.2]at h2;cases h2⟩
  have k2:∀d,y.dst=some d→d∉x.looksAt ops:=fun d hd hm=>by
   have:=te h (i:=d) (mh.2 hd);rw [←mZ]at hm;rw [show(kF ops.toList x).testBit d=false from this]at hm;cases hm
  unfold Oper.apart;rw [Bool.and_eq_true];constructor
  ·cases hx:x.dst with
   |none=>rfl
   |some d=>
    obtain⟨a,b⟩:=k1 d hx;simp [a,b]
  ·cases hy:y.dst with
   |none=>rfl
   |some d=>simp [k2 d hy]
structure qF(ops:Array Oper)(ls:Nat)(listed:Array Bool):Prop where
 size:listed.size=ops.size
 at_:∀k,ls.testBit k=listed.getD k false
theorem qF.getD{ops:Array Oper}{ls:Nat}{listed:Array Bool}(h:qF ops ls listed){k:Nat}(hk:k<ops.size):listed.getD k true=ls.testBit k:=by
 rw [h.at_ k];have:k<listed.size:=by rw [h.size];exact hk
 simp [this]
theorem qF.start(ops:Array Oper):qF ops 0 (Array.replicate ops.size false):=
 ⟨by simp,fun k=>by simp [Array.getD_eq_getD_getElem?,Array.getElem?_replicate];split<;>rfl⟩
theorem qF.step{ops:Array Oper}{ls:Nat}{listed:Array Bool}(h:qF ops ls listed){i:Nat}(hi:i<ops.size):qF ops (Nat.lor ls (bit i)) (listed.setIfInBounds i true):=by
 refine⟨by simp [h.size],fun k=> ?_⟩;rw [iH,lJ,h.at_ k];have hs:i<listed.size:=by rw [h.size];exact hi
 by_cases hik:i=k
 ·subst hik;simp [Array.getD_eq_getD_getElem?,hs]
 ·simp [Array.getD_eq_getD_getElem?,hik]
def mS(ls:Nat):List OpI→Nat→List Nat
 | [],_=> []
 |x::xs,i=>bif (bif tb ls i then false else sub x.nd ls)then i::mS ls xs (Nat.succ i)else mS ls xs (Nat.succ i)
theorem CN{ops:Array Oper}{ls:Nat}{listed:Array Bool}(h:qF ops ls listed):∀(os:List Oper) (i:Nat),(∀k,os[k]? =ops[i+k]?)→
  mS ls (infos ops.toList os) i=(List.range' i os.length).filter fun i=> !listed.getD i true&&((ops[i]?).map (·.after.all fun e=> !Region.binds .any e||listed.getD e.on false)).getD false:=by
 intro os
 induction os with
 |nil=>intro i _;rfl
 |cons o os ih=>
  intro i ho;have h0:ops[i]? =some o:=by have:=ho 0;simpa using this.symm
  have hi:i<ops.size:=(Array.getElem?_eq_some_iff.1 h0).1
  have ih:=ih (i+1) fun k=>by
   have:=ho (k+1);rw [List.getElem?_cons_succ]at this;rw [this];congr 1;omega
  simp only [infos,mS,List.length_cons,List.range'_succ,List.filter_cons]
  have hp:(bif tb ls i then false else sub (fo ops.toList o).nd ls)=(!listed.getD i true&&((ops[i]?).map (·.after.all fun e=> !Region.binds .any e||listed.getD e.on false)).getD false):=by
   rw [h0,h.getD hi,Be]
   cases ls.testBit i with
   |true=>rfl
   |false=>
    simp only [cond_false,Bool.not_false,Bool.true_and,Option.map_some,Option.getD_some];rw [Bool.eq_iff_iff,iR,Array.all_eq_true_iff_forall_mem];constructor
    ·intro hs e he
     cases hb:Region.binds .any e with
     |false=>rfl
     |true=>
      have:=hs e.on ((mX e.on _).2 ⟨e,by simpa using he,hb,rfl⟩);rw [h.at_]at this;simpa using this
    ·intro ha k hk
     obtain⟨e,he,hb,rfl⟩:=(mX k _).1 hk;have:=ha e (by simpa using he);rw [hb]at this;rw [h.at_];simpa using this
  rw [hp]
  cases hq:(!listed.getD i true&&((ops[i]?).map (·.after.all fun e=> !Region.binds .any e||listed.getD e.on false)).getD false)with
  |true=>simp only [cond_true,if_true];rw [←ih]
  |false=>simp only [cond_false,Bool.false_eq_true,if_false];rw [←ih]
theorem nK{ops:Array Oper}{ls:Nat}{listed:Array Bool}(h:qF ops ls listed):mS ls (infos ops.toList ops.toList) 0=Region.ready .any ops listed:=by
 rw [CN h ops.toList 0 (fun k=>by simp)];unfold Region.ready;rw [List.range_eq_range'];simp
def uN(ls i:Nat)(x:OpI):List OpI→Nat→Bool
 | [],_=>true
 |y::ys,j=>bif (bif Nat.beq j i then true else bif tb ls j then true else bif tb y.nd i then true else wV x y)then uN ls i x ys (Nat.succ j)else false
theorem Ao{ops:Array Oper}{ls:Nat}{listed:Array Bool}(h:qF ops ls listed){i:Nat}{oi:Oper} :∀(os:List Oper) (s:Nat),(∀k,os[k]? =ops[s+k]?)→
  uN ls i (fo ops.toList oi) (infos ops.toList os) s=true→∀j oj,s≤j→ops[j]? =some oj→j≠i→listed.getD j true=false→(∀e∈oj.after,Region.binds .any e=true→e.on≠i)→oi.apart ops oj=true:=by
 intro os
 induction os with
 |nil=>
  intro s ho _ j oj hj hoj;have:=ho (j-s);rw [show s+(j-s)=j by omega,hoj]at this;simp at this
 |cons o os ih=>
  intro s ho hf j oj hj hoj hne hun hno;have h0:ops[s]? =some o:=by have:=ho 0;simpa using this.symm
  have hs:s<ops.size:=(Array.getElem?_eq_some_iff.1 h0).1;simp only [infos,uN]at hf
  cases hc:(bif Nat.beq s i then true else bif tb ls s then true else bif tb (fo ops.toList o).nd i then true else wV (fo ops.toList oi) (fo ops.toList o))with
  |false=>rw [hc]at hf;cases hf
  |true=>
   rw [hc]at hf;simp only [cond_true]at hf;rcases Nat.eq_or_lt_of_le hj with rfl|hlt
   ·rw [h0]at hoj;injection hoj with hoj;subst hoj
    rw [show Nat.beq s i=false from(by
     cases hb:Nat.beq s i with
     |false=>rfl
     |true=>exact absurd (Nat.eq_of_beq_eq_true hb) hne)]at hc
    rw [Be,←h.getD hs,hun]at hc;simp only [cond_false]at hc
    cases ht:tb (fo ops.toList o).nd i with
    |true=>
     rw [Be]at ht;obtain⟨e,he,hb,hon⟩:=(mX i _).1 ht;exact absurd hon (hno e (by simpa using he) hb)
    |false=>
     rw [ht]at hc;exact y9 hc
   ·exact ih (s+1) (fun k=>by
     have:=ho (k+1);rw [List.getElem?_cons_succ]at this
     rw [this];congr 1;omega) hf j oj hlt hoj hne hun hno
inductive cW where
 |done
 |stop
 |take (i:Nat) (o:Oper) (g:Gd) (next:cW)
 |eff (i:Nat) (o:Oper) (g:Gd) (m:Nat) (next alt:cW)
def By(P:Program)(ls:Nat)(is:List OpI):List Nat→Option (Nat×OpI)
 | []=>none
 |i::r=>match nth is i with
  |none=>none
  |some x=>bif (bif Gg P x.o.op then false else uN ls i x is 0)then some (i,x)else By P ls is r
def okT(x:OpI)(lk:Nat):Bool:=bif dis x.dm lk then(bif DE x.o.op then dis x.dm x.lk else true)else false
def seen(x:OpI)(lk:Nat):Nat:=bif DE x.o.op then Nat.lor lk x.lk else lk
def conT(i:Nat)(o:Oper)(g:Gd)(p:Option cW):Option cW:=match p with
 |none=>none
 |some l=>some (.take i o g l)
def conE(i:Nat)(o:Oper)(g:Gd)(m:Nat)(p q:Option cW):Option cW:=match p with
 |none=>none
 |some l=>match q with
  |none=>none
  |some r=>some (.eff i o g m l r)
def mkAlts(ol:List Oper)(is:List OpI)(cl:List Nat)(lk:Nat)(F:Nat→Option cW):List Nat→Option cW
 | []=>some .stop
 |i::r=>match nth is i with
  |none=>none
  |some x=>match nth cl i with
   |none=>none
   |some m=>bif dis x.dm lk then conE i x.o (guardOf ol x.o) m (F i) (mkAlts ol is cl lk F r)else none
def mY(P:Program)(ol:List Oper)(is:List OpI)(cl:List Nat):Nat→Nat→Nat→Option cW
 |0,ls,_=>match mS ls is 0 with
  | []=>some .done
  |_::_=>none
 |n+1,ls,lk=>match mS ls is 0 with
  | []=>some .done
  |i0::r=>match By P ls is (i0::r)with
   |some (i,x)=>bif okT x lk then conT i x.o (guardOf ol x.o) (mY P ol is cl n (Nat.lor ls (bit i)) (seen x lk))else none
   |none=>mkAlts ol is cl lk (fun i=>mY P ol is cl n (Nat.lor ls (bit i)) lk) (i0::r)
inductive Alt:cW→Nat→Oper→Gd→Nat→cW→Prop
 |here {i:Nat} {o:Oper} {g:Gd} {m:Nat} {q a:cW} :Alt (.eff i o g m q a) i o g m q
 |there {i i':Nat} {o o':Oper} {g g':Gd} {m m':Nat} {q q' a:cW} :Alt a i o g m q→Alt (.eff i' o' g' m' q' a) i o g m q
inductive lN(ops:Array Oper):Nat→cW→Array Bool→Nat→Prop
 |nil {n:Nat} {listed:Array Bool} {lk:Nat} :Region.ready .any ops listed= []→lN ops n .done listed lk
 |take {n i:Nat} {o:Oper} {listed:Array Bool} {lk lk':Nat} {r:cW} :ops[i]? =some o→i∈Region.ready .any ops listed→
   (∀j oj,ops[j]? =some oj→j≠i→listed.getD j true=false→(∀e∈oj.after,Region.binds .any e=true→e.on≠i)→o.apart ops oj=true)→
   dis (tX o.dst) lk=true→(DE o.op=true→dis (tX o.dst) (kF ops.toList o)=true∧sub (kF ops.toList o) lk'=true)→sub lk lk'=true→
   lN ops n r (listed.setIfInBounds i true) lk'→lN ops (n+1) (.take i o (guardOf ops.toList o) r) listed lk
 |effs {n:Nat} {listed:Array Bool} {lk:Nat} {p:cW} (q:Nat→cW):Region.ready .any ops listed≠ []→p≠ .stop→
   (∀i,i∈Region.ready .any ops listed→∃o m,ops[i]? =some o∧dis (tX o.dst) lk=true∧m=(jl .any ops).getD i 0∧Alt p i o (guardOf ops.toList o) m (q i))→
   (∀i,i∈Region.ready .any ops listed→lN ops n (q i) (listed.setIfInBounds i true) lk)→lN ops (n+1) p listed lk
theorem xa(a:Nat):sub a a=true:=iR.2 fun _ h=>h
theorem vi(a b:Nat):sub a (Nat.lor a b)=true:=iR.2 fun _ h=>by rw [iH,h];rfl
theorem tB(a b:Nat):sub b (Nat.lor a b)=true:=iR.2 fun _ h=>by rw [iH,h];simp
theorem zO{P:Program}{ls:Nat}{is:List OpI} :∀ {r:List Nat} {i:Nat} {x:OpI},By P ls is r=some (i,x)→i∈r∧nth is i=some x∧uN ls i x is 0=true:=by
 intro r
 induction r with
 |nil=>intro i x h;cases h
 |cons j r ih=>
  intro i x h;simp only [By]at h
  split at h
  ·cases h
  ·rename_i y hy
   cases hb:(bif Gg P y.o.op then false else uN ls j y is 0)with
   |true=>
    rw [hb]at h;simp only [cond_true,Option.some.injEq,Prod.mk.injEq]at h;obtain⟨rfl,rfl⟩:=h;refine⟨List.mem_cons_self,hy,?_⟩
    cases he:Gg P y.o.op with
    |true=>rw [he]at hb;cases hb
    |false=>rw [he]at hb;exact hb
   |false=>
    rw [hb]at h;obtain⟨h1,h2,h3⟩:=ih h;exact⟨List.mem_cons_of_mem _ h1,h2,h3⟩
theorem D1{i:Nat}{o:Oper}{g:Gd}{p:Option cW}{l:cW}(h:conT i o g p=some l):∃r,p=some r∧l= .take i o g r:=by
 unfold conT at h
 split at h
 ·cases h
 ·injection h with h;exact⟨_,rfl,h.symm⟩
theorem D2{i:Nat}{o:Oper}{g:Gd}{m:Nat}{p q:Option cW}{l:cW}(h:conE i o g m p q=some l):∃r t,p=some r∧q=some t∧l= .eff i o g m r t:=by
 unfold conE at h
 split at h
 ·cases h
 ·split at h
  ·cases h
  ·injection h with h;exact⟨_,_,rfl,rfl,h.symm⟩
theorem Dh{ops:Array Oper}{lk:Nat}{F:Nat→Option cW} :∀ {r:List Nat} {p:cW},mkAlts ops.toList (infos ops.toList ops.toList) (jl .any ops) lk F r=some p→
  (∀i∈r,∃o m q,F i=some q∧ops[i]? =some o∧dis (tX o.dst) lk=true∧m=(jl .any ops).getD i 0∧Alt p i o (guardOf ops.toList o) m q)∧(r≠ []→p≠ .stop):=by
 intro r
 induction r with
 |nil=>intro p _;exact⟨fun _ h=>(nomatch h),fun h=>absurd rfl h⟩
 |cons i r ih=>
  intro p h;simp only [mkAlts]at h
  split at h
  ·cases h
  ·rename_i x hx
   split at h
   ·cases h
   ·rename_i m hm
    cases hd:dis x.dm lk with
    |false=>rw [hd]at h;cases h
    |true=>
     rw [hd]at h;obtain⟨q,t,hq,ht,rfl⟩:=D2 h;rw [pF,lh,Array.getElem?_toList]at hx
     cases hoi:ops[i]? with
     |none=>rw [hoi]at hx;cases hx
     |some o=>
      rw [hoi]at hx;injection hx with hx;subst hx
      refine⟨fun j hj=> ?_,fun _ h=>by cases h⟩;rcases List.mem_cons.1 hj with rfl|hj
      ·refine⟨o,m,q,hq,hoi,hd,?_,.here⟩
       rw [lh]at hm;rw [List.getD_eq_getElem?_getD,hm];rfl
      ·obtain⟨o',m',q',h1,h2,h3,h4,h5⟩:=(ih ht).1 j hj
       exact⟨o',m',q',h1,h2,h3,h4,.there h5⟩
theorem Dg{P:Program}{ops:Array Oper} :∀(n ls lk:Nat) (listed:Array Bool) (p:cW),qF ops ls listed→mY P ops.toList (infos ops.toList ops.toList) (jl .any ops) n ls lk=some p→lN ops n p listed lk:=by
 intro n
 induction n with
 |zero=>
  intro ls lk listed p hs h;simp only [mY,nK hs]at h
  split at h
  ·rename_i hr
   injection h with h;subst h
   exact .nil hr
  ·cases h
 |succ n ih=>
  intro ls lk listed p hs h;simp only [mY,nK hs]at h
  split at h
  ·rename_i hr
   injection h with h;subst h
   exact .nil hr
  ·rename_i i0 r hr
   split at h
   ·rename_i i x hp
    obtain⟨h1,h2,h3⟩:=zO hp
    cases hok:okT x lk with
    |false=>rw [hok]at h;cases h
    |true=>
     rw [hok]at h;obtain⟨p',hp',rfl⟩:=D1 h;rw [pF,lh,Array.getElem?_toList]at h2
     cases hoi:ops[i]? with
     |none=>rw [hoi]at h2;cases h2
     |some o=>
      rw [hoi]at h2;injection h2 with h2;subst h2
      have hlt:i<ops.size:=(Array.getElem?_eq_some_iff.1 hoi).1;have k1:=ih _ _ _ _ (hs.step hlt) hp';unfold okT at hok
      cases hd:dis (fo ops.toList o).dm lk with
      |false=>rw [hd]at hok;cases hok
      |true=>
       rw [hd]at hok;simp only [cond_true]at hok;refine .take hoi (by rw [hr];exact h1) (fun j oj=>Ao hs ops.toList 0 (fun k=>by simp) h3 j oj (Nat.zero_le _)) hd (fun hrd=> ?_) ?_ k1
       ·have hrd':DE (fo ops.toList o).o.op=true:=hrd
        rw [hrd']at hok;refine⟨hok,?_⟩;unfold seen;rw [hrd'];exact tB _ _
       ·unfold seen
        cases DE (fo ops.toList o).o.op with
        |true=>exact vi _ _
        |false=>exact xa _
   ·obtain⟨h1,h2⟩:=Dh h
    refine .effs (fun i=>(mY P ops.toList (infos ops.toList ops.toList) (jl .any ops) n (Nat.lor ls (bit i)) lk).getD .stop) (by rw [hr];simp) (h2 (by simp)) (fun i hi=> ?_) fun i hi=> ?_
    ·rw [hr]at hi
     obtain⟨o,m,q,k1,k2,k3,k4,k5⟩:=h1 i hi;refine⟨o,m,k2,k3,k4,?_⟩;simp only [k1,Option.getD_some];exact k5
    ·rw [hr]at hi
     obtain⟨o,m,q,k1,k2,_⟩:=h1 i hi;simp only [k1,Option.getD_some];exact ih _ _ _ _ (hs.step (Array.getElem?_eq_some_iff.1 k2).1) k1
def xW:List Oper→Bool
 | []=>true
 |o::os=>bif isSel o.op then false else xW os
theorem zR:∀(l:List Oper),xW l=true→∀o∈l,∀cs b,o.op≠ .select cs b:=by
 intro l
 induction l with
 |nil=>intro _ o h;cases h
 |cons x l ih=>
  intro h o ho cs b he;simp only [xW]at h
  cases hs:isSel x.op with
  |true=>rw [hs]at h;cases h
  |false=>
   rw [hs]at h;rcases List.mem_cons.1 ho with rfl|ho
   ·rw [he]at hs;cases hs
   ·exact ih h o ho cs b he
def zM(P:Program)(ops:Array Oper):Option cW:=
 bif xW ops.toList then mY P ops.toList (infos ops.toList ops.toList) (jl .any ops) ops.toList.length 0 0 else none
theorem CW{P:Program}{ops:Array Oper}{p:cW}(h:zM P ops=some p):lN ops ops.size p (Array.replicate ops.size false) 0∧∀(j:Nat) (o:Oper) cs b,ops[j]? =some o→o.op≠ .select cs b:=by
 unfold zM at h
 cases hs:xW ops.toList with
 |false=>rw [hs]at h;cases h
 |true=>
  rw [hs]at h;have h1:=Dg _ _ _ _ _ (qF.start ops) h;exact⟨by simpa using h1,fun j o cs b hj=>zR _ hs o (by simpa using Array.mem_of_getElem? hj) cs b⟩
theorem yC{α:Type} :∀(f:Nat) (t:T α) (i k:Nat) (x:Option α),i+1<2^f→k≠i→(T.oN f t i x).get k=t.get k:=by
 intro f
 induction f with
 |zero=>intro t i k x h;simp at h
 |succ f ih=>
  intro t i k x h hne;have hp:2^(f+1)=2*2^f:=by rw [Nat.pow_succ];omega
  cases t with
  |e=>
   cases i with
   |zero=>
    cases k with
    |zero=>exact absurd rfl hne
    |succ m=>simp only [T.Bp,T.pJ,T.eE];cases Nat.beq (m%2) 0<;>rfl
   |succ j=>
    have hj:j/2+1<2^f:=by omega
    simp only [T.vq]
    cases hb:Nat.beq (j%2) 0<;>simp only [cond_true,cond_false]<;>cases k with
    |zero=>simp only [T.FZ,T.eE]
    |succ m=>
     simp only [T.pJ,T.eE]
     cases hm:Nat.beq (m%2) 0<;>simp only [cond_true,cond_false]
     all_goals first
      |rfl
      |(rw [ih _ _ _ _ hj (fun e=>hne (by rw [T.qS hb hm e]))];rfl)
  |n l v r=>
   cases i with
   |zero=>
    cases k with
    |zero=>exact absurd rfl hne
    |succ m=>rfl
   |succ j=>
    have hj:j/2+1<2^f:=by omega
    simp only [T.vo]
    cases hb:Nat.beq (j%2) 0<;>simp only [cond_true,cond_false]<;>cases k with
    |zero=>rfl
    |succ m=>
     simp only [T.pJ]
     cases hm:Nat.beq (m%2) 0<;>simp only [cond_true,cond_false]
     all_goals first
      |rfl
      |(rw [ih _ _ _ _ hj (fun e=>hne (by rw [T.qS hb hm e]))])
def BL(h:HS)(op:Op):Bool:=match op with
 | .alloc t=> !h.M.X.al t
 | .box t _=> !h.M.X.al t
 | .makeSlice _ _ _=> !h.M.X.op
 |_=>false
open Classical in
theorem Gf{P:Program}{call:ed}{tm:T SV}{h:HS}{op:Op}{K E:SV→HS→Bool}(hn:BL h op=true)(hk:wJ P call tm h op K E=true):
  ∃K':SV→HS→Bool,wJ P call tm h op K' E=true∧∀v h',K' v h'=true→K v h'=true∧∃B,h'=h.new B:=by
 have ex:∀ {v:SV} {B:bS},K v (h.new B)=true→(K v (h.new B)&&decide (∃B',h.new B=h.new B'))=true:=fun {v B} hk=>by
  rw [hk,Bool.true_and];exact decide_eq_true ⟨B,rfl⟩
 refine⟨fun v h'=>K v h'&&decide (∃B,h'=h.new B),?_,fun v h' hk=> ?_⟩
 ·unfold BL at hn
  split at hn
  ·simp only [Bool.not_eq_true']at hn
   simp only [wJ,tv,hn,cond_false]at hk ⊢
   split at hk
   ·exact absurd hk Bool.false_ne_true
   ·rename_i s hs
    try rw [hs]
    exact ex hk
  ·simp only [Bool.not_eq_true']at hn
   simp only [wJ]at hk ⊢
   split at hk
   ·rename_i x hx
    try rw [hx]
    simp only [GF,hn,cond_false]at hk ⊢
    split at hk
    ·exact absurd hk Bool.false_ne_true
    ·rename_i cs hcs
     try rw [hcs]
     exact ex hk
   ·exact absurd hk Bool.false_ne_true
  ·simp only [Bool.not_eq_true']at hn
   simp only [wJ]at hk ⊢
   split at hk
   ·rename_i l c hl hc
    try rw [hl,hc]
    simp only [yd,hn,cond_false]at hk ⊢
    split at hk
    ·rename_i s _ li _ ci hs hli hci
     try rw [hs,hli,hci]
     try simp only
     split at hk
     ·rename_i e he
      try rw [he]
      try simp only
      split at hk
      ·rename_i se hse
       try rw [hse]
       try simp only
       cases hb:(decide (0≤li)&&decide (li≤ci)&&decide (ci≤9223372036854775807)&&Nat.ble (se.bytes*ci.toNat) 281474976710656&&Nat.beq se.zero.cells.size se.size)with
       |false=>rw [hb]at hk;exact absurd hk Bool.false_ne_true
       |true=>
        rw [hb]at hk;exact ex hk
      ·exact absurd hk Bool.false_ne_true
     ·exact absurd hk Bool.false_ne_true
    ·exact absurd hk Bool.false_ne_true
   ·exact absurd hk Bool.false_ne_true
  ·cases hn
 ·simp only [Bool.and_eq_true,decide_eq_true_eq]at hk
  exact hk
theorem Dy{P:Program}{h:HS}{t:TypeId}{x v:SV}{B:bS}(hl:iW P h t x=some v)(hlt:∀b B',h.H.get b=some B'→b<h.nx)(hb:h.nx+1<2^32):iW P (h.new B) t x=some v:=by
 obtain⟨H,nx,M⟩:=h;unfold iW at hl ⊢
 split at hl
 ·cases hl
 ·rename_i s hs
  split at hl
  ·rename_i b o
   split at hl
   ·rename_i cs es τ hg
    have hne:b≠nx:=fun e=>by
     have:=hlt b _ hg;have:b<nx:=this;omega
    have:(H.set nx B).get b=H.get b:=yC 32 H nx b (some B) hb hne
    show(match (H.set nx B).get b with
     |some (.cells cs _ _)=>bif TypeDesc.isAgg s.und then(takeN s.size (cs.drop o)).map .agg else cs[o]?
     |_=>none)=some v
    rw [this];have hg:H.get b=some (.cells cs es τ):=hg;rw [hg];exact hl
   ·cases hl
  ·exact hl
  ·cases hl
def isLd(op:Op):Bool:=match op with
 | .load _ _=>true
 |_=>false
def eqO(h:HS)(x y:SV):Bool:=bif h.M.X.op then h.M.D (x=y)else iM x y
theorem F9{h:HS}{x y:SV}(hk:eqO h x y=true):x=y:=by
 unfold eqO at hk
 cases hop:h.M.X.op with
 |true=>rw [hop]at hk;exact(h.M.X.hD _).1 hk
 |false=>rw [hop]at hk;exact vh _ _ hk
def kV(P:Program)(tm:T SV)(h:HS)(tm':T SV)(h':HS):List dQ→Bool→Bool
 | [],X=>X
 |p::L,X=>bif isLd p.o.op then rD P tm h p.o.op (fun _=>kV P tm h tm' h' L X)
  else rD P tm' h' p.o.op fun v=>bif eqO h' v p.v then kV P tm h tm' h' L X else false
theorem tJ{P:Program}{tm tm':T SV}{h h':HS} :∀ {L:List dQ} {X:Bool},kV P tm h tm' h' L X=true→X=true∧∀p∈L,(isLd p.o.op=true∧∃v,eb P tm h p.o.op=some v)∨eb P tm' h' p.o.op=some p.v:=by
 intro L
 induction L with
 |nil=>intro X h;exact⟨h,fun _ h=>by cases h⟩
 |cons p L ih=>
  intro X hx;simp only [kV,nL]at hx
  cases hl:isLd p.o.op with
  |true=>
   rw [hl]at hx;simp only [cond_true]at hx
   split at hx
   ·rename_i v hv
    obtain⟨h1,h2⟩:=ih hx
    exact⟨h1,fun q hq=>by
     rcases List.mem_cons.1 hq with rfl|hq
     ·exact .inl ⟨hl,v,hv⟩
     ·exact h2 q hq⟩
   ·exact absurd hx Bool.false_ne_true
  |false=>
   rw [hl]at hx;simp only [cond_false]at hx
   split at hx
   ·rename_i v hv
    cases he:eqO h' v p.v with
    |false=>rw [he]at hx;exact absurd hx Bool.false_ne_true
    |true=>
     rw [he]at hx;have:=F9 he;obtain⟨h1,h2⟩:=ih hx
     exact⟨h1,fun q hq=>by
      rcases List.mem_cons.1 hq with rfl|hq
      ·right;rw [hv,this]
      ·exact h2 q hq⟩
   ·exact absurd hx Bool.false_ne_true
def yw(tm:T SV)(h:HS)(op:Op):Bool:=match op with
 | .load _ x=>(match opd tm x with
   |some (.v _)=> !h.M.X.op
   |_=>false)
 |_=>false
def kU(P:Program)(tm:T SV)(h:HS)(tm':T SV)(h':HS):List dQ→Bool→Bool
 | [],X=>X
 |p::L,X=>bif yw tm h p.o.op then(match eb P tm h p.o.op with
    |some _=>kU P tm h tm' h' L X
    |none=>false)
  else rD P tm' h' p.o.op fun v=>bif eqO h' v p.v then kU P tm h tm' h' L X else false
theorem tI{P:Program}{tm tm':T SV}{h h':HS} :∀ {L:List dQ} {X:Bool},kU P tm h tm' h' L X=true→X=true∧∀p∈L,(yw tm h p.o.op=true∧∃v,eb P tm h p.o.op=some v)∨eb P tm' h' p.o.op=some p.v:=by
 intro L
 induction L with
 |nil=>intro X h;exact⟨h,fun _ h=>by cases h⟩
 |cons p L ih=>
  intro X hx;simp only [kU,nL]at hx
  cases hl:yw tm h p.o.op with
  |true=>
   rw [hl]at hx;simp only [cond_true]at hx
   split at hx
   ·rename_i v hv
    obtain⟨h1,h2⟩:=ih hx
    exact⟨h1,fun q hq=>by
     rcases List.mem_cons.1 hq with rfl|hq
     ·exact .inl ⟨hl,v,hv⟩
     ·exact h2 q hq⟩
   ·exact absurd hx Bool.false_ne_true
  |false=>
   rw [hl]at hx;simp only [cond_false]at hx
   split at hx
   ·rename_i v hv
    cases he:eqO h' v p.v with
    |false=>rw [he]at hx;exact absurd hx Bool.false_ne_true
    |true=>
     rw [he]at hx;have:=F9 he;obtain⟨h1,h2⟩:=ih hx
     exact⟨h1,fun q hq=>by
      rcases List.mem_cons.1 hq with rfl|hq
      ·right;rw [hv,this]
      ·exact h2 q hq⟩
   ·exact absurd hx Bool.false_ne_true
theorem CO{P:Program}{tm:T SV}{h:HS}{op:Op}{v:SV}(ho:yw tm h op=true)(hr:eb P tm h op=some v):eb P tm ⟨.e,h.nx,h.M.still⟩ op=some v:=by
 unfold yw at ho
 split at ho
 ·rename_i t x
  split at ho
  ·rename_i y hy
   simp only [Bool.not_eq_true']at ho;simp only [eb,hy]at hr ⊢;unfold iW at hr ⊢
   split at hr
   ·cases hr
   ·rename_i s hs
    split at hr
    ·rename_i b o he;cases he
    ·rw [ho]at hr
     have:(HS.mk .e h.nx h.M.still).M.X.op=false:=ho;rw [this];exact hr
    ·cases hr
  ·cases ho
 ·cases ho
theorem ba.old{ρ ρ':Nat→Loc}{h h':HS}{w':World}(H':ba ρ' h' w')(hm:h.M.le h'.M):ba ρ ⟨.e,h.nx,h.M.still⟩ w' where
 os:=H'.os.trans hm.2.1
 out:=H'.out.trans hm.2.2.1
 tape:=H'.tape.trans hm.2.2.2
 mem:=fun k o hk=>H'.mem k o (hm.1 k o hk)
 blk:=fun b B hb=>by
  have hb:(T.e:T bS).get b=some B:=hb;rw [T.eE]at hb;cases hb
 inj:=fun b b' B B' hb=>by
  have hb:(T.e:T bS).get b=some B:=hb;rw [T.eE]at hb;cases hb
 apart:=fun b B hb=>by
  have hb:(T.e:T bS).get b=some B:=hb;rw [T.eE]at hb;cases hb
 are:=fun k o hk=>by cases hk
 aprA:=fun b B hb=>rfl
 disj:=fun k o hk=>by cases hk
def sH(g:Gd)(tm:T SV)(F:Bool→T SV→Bool):Bool:=match g with
 | .free=>F true tm
 | .bad=>false
 | .on d want=>match tm.get d with
   |some (.v (.bool t))=>bif t then F want (tm.set d (.v (.bool true)))else F (!want) (tm.set d (.v (.bool false)))
   |some (.v (.tuple _))=>F false tm
   |_=>false
theorem nh{ops:Array Oper}{o:Oper}{tm:T SV}{F:Bool→T SV→Bool}(h:sH (guardOf ops.toList o) tm F){ρ:Nat→Loc}{sz nx:Nat}{a:Act}(A:dR dfs ρ tm sz nx a):
  ∃b tm',F b tm'∧dR dfs ρ tm' sz nx a∧Region.wanted o (yielded ops a.tmps)=b:=by
 unfold guardOf at h
 cases hg:o.guard with
 |none=>rw [hg]at h;exact⟨true,tm,h,A,by simp [Region.wanted,hg]⟩
 |some gw=>
  obtain⟨j,want⟩:=gw;rw [hg]at h;simp only [lh,Array.getElem?_toList]at h
  cases hj:ops[j]? with
  |none=>rw [hj]at h;exact absurd h Bool.false_ne_true
  |some x=>
   rw [hj]at h
   cases hx:x.dst with
   |none=>simp only [hx]at h;exact absurd h Bool.false_ne_true
   |some d=>
    simp only [hx,sH]at h
    split at h
    ·rename_i t ht
     obtain⟨_,h2⟩:=A.at_ d _ ht;have hy:yielded ops a.tmps j=some t:=by simp [yielded,hj,hx,h2,SV.den]
     cases t with
     |true=>exact⟨want,_,h,A.same ht rfl trivial,by simp only [Region.wanted,hg,hy];cases want<;>rfl⟩
     |false=>exact⟨!want,_,h,A.same ht rfl trivial,by simp only [Region.wanted,hg,hy];cases want<;>rfl⟩
    ·rename_i vs ht
     obtain⟨_,h2⟩:=A.at_ d _ ht;have hy:yielded ops a.tmps j=none:=by simp [yielded,hj,hx,h2,SV.den]
     exact⟨false,tm,h,A,by simp only [Region.wanted,hg,hy];cases want<;>rfl⟩
    ·exact absurd h Bool.false_ne_true
def dh(m:Nat):List dQ→List dQ
 | []=> []
 |⟨i,o,v⟩::L=>bif tb m i then dh m L else⟨i,o,v⟩::dh m L
theorem yP(cl:List Nat)(i m:Nat)(hm:m=cl.getD i 0)(L:List dQ):dh m L=L.filter fun p=> !behind cl p.i i:=by
 induction L with
 |nil=>rfl
 |cons p L ih=>
  simp only [dh,List.filter_cons,behind,←hm,Be,ih]
  cases m.testBit p.i<;>rfl
def structEq(P:Program):Op→Bool
 | .binOp .eql t _ _ _=>isStruct (ty P t)
 | .binOp .neq t _ _ _=>isStruct (ty P t)
 |_=>false
  where isStruct:Option STy→Bool
 |some s=>match s.und with
  | .struct _=>true
  |_=>false
 |none=>false
def BQ(P:Program)(h:HS)(op:Op)(r:Bool)(X Y:Bool):Bool:=bif h.M.X.op&&structEq P op then(bif h.M.D (r=true)then X else Y)else bif r then X else Y
theorem yF{P:Program}{h:HS}{op:Op}{r X Y:Bool}(hk:BQ P h op r X Y=true):Y=true∨(r=true∧X=true):=by
 unfold BQ at hk
 cases hb:(h.M.X.op&&structEq P op)with
 |true=>
  rw [hb]at hk;simp only [cond_true]at hk
  cases hd:h.M.D (r=true)with
  |true=>rw [hd]at hk;exact .inr ⟨(h.M.X.hD _).1 hd,hk⟩
  |false=>rw [hd]at hk;exact .inl hk
 |false=>
  rw [hb]at hk;simp only [cond_false]at hk
  cases r with
  |true=>exact .inr ⟨rfl,hk⟩
  |false=>exact .inl hk
def xO(P:Program)(i:Nat)(o:Oper)(sz:Nat)(tm:T SV)(h:HS)(L:List dQ)(F:List dQ→T SV→Bool):Bool:=
 match Fe P tm o.op with
 |some (r,v)=>BQ P h o.op r (fi sz o.dst v (F L) tm) (Cf (altF P tm o.op) fun v=>fi sz o.dst v (F L) tm)
 |none=>rD P tm h o.op fun v=>fi sz o.dst v (F (⟨i,o,v⟩::L)) tm
def vF(P:Program)(sz:Nat)(nw:Bool)(dst:Option Tmp)(tm:T SV)(h0:HS)(L:List dQ)(F:List dQ→T SV→HS→Bool)(v:SV)(h:HS):Bool:=
 uf h fun h=>fi sz dst v (fun tm'=>bif nw then(bif Nat.blt h0.nx 4294967295 then kV P tm h0 tm' h L (F L tm' h)else false)else kU P tm h0 tm' h L (F L tm' h)) tm
def rH(P:Program)(sz i:Nat)(o:Oper)(g:Gd)(F:List dQ→T SV→HS→Bool)(L:List dQ)(tm:T SV)(h:HS):Bool:=sH g tm fun run tm=>
 bif run then xO P i o sz tm h L (fun L tm=>F L tm h)else fi sz o.dst iQ (fun tm=>F L tm h) tm
def pncK(E:SV→T SV→HS→Bool)(tm:T SV)(x:SV)(h:HS):Bool:=uf h fun h=>ue x fun x=>E x tm h
theorem vE(E:SV→T SV→HS→Bool)(tm:T SV)(x:SV)(h:HS):pncK E tm x h=E x tm h:=by unfold pncK;rw [kP,xm]
def oZ(P:Program)(call:ed)(sz:Nat)(E:SV→T SV→HS→Bool)(o:Oper)(g:Gd)(m:Nat)(F:List dQ→T SV→HS→Bool)(L:List dQ)(tm:T SV)(h:HS):Bool:=sH g tm fun run tm=>
 bif run then effF P call tm h o.op (vF P sz (BL h o.op) o.dst tm h (dh m L) F) (pncK E tm)else fi sz o.dst iQ (fun tm=>F L tm h) tm
def orElse(p:cW)(A B:Bool):Bool:=match p with
 | .stop=>A
 |_=>bif A then B else false
def fE(P:Program)(call:ed)(sz:Nat)(K:T SV→HS→Bool)(E:SV→T SV→HS→Bool)(pl:cW):List dQ→T SV→HS→Bool:=
 cW.rec (motive:=fun _=>List dQ→T SV→HS→Bool) (fun _ tm h=>K tm h) (fun _ _ _=>false) (fun i o g _ ih L tm h=>rH P sz i o g ih L tm h)
  (fun _ o g m _ a ih ia L tm h=>orElse a (oZ P call sz E o g m ih L tm h) (ia L tm h)) pl
theorem w8(P:Program)(call:ed)(sz:Nat)(K:T SV→HS→Bool)(E:SV→T SV→HS→Bool)(i:Nat)(o:Oper)(g:Gd)(r:cW)(L:List dQ)(tm:T SV)(h:HS):
 fE P call sz K E (.take i o g r) L tm h=rH P sz i o g (fE P call sz K E r) L tm h:=rfl
theorem re(P:Program)(call:ed)(sz:Nat)(K:T SV→HS→Bool)(E:SV→T SV→HS→Bool)(i:Nat)(o:Oper)(g:Gd)(m:Nat)(q a:cW)(L:List dQ)(tm:T SV)(h:HS):
 fE P call sz K E (.eff i o g m q a) L tm h=orElse a (oZ P call sz E o g m (fE P call sz K E q) L tm h) (fE P call sz K E a L tm h):=rfl
theorem zh{P:Program}{call:ed}{sz:Nat}{K:T SV→HS→Bool}{E:SV→T SV→HS→Bool}{L:List dQ}{tm:T SV}{h:HS}{p q:cW}{i m:Nat}{o:Oper}{g:Gd}(ha:Alt p i o g m q):
  fE P call sz K E p L tm h→oZ P call sz E o g m (fE P call sz K E q) L tm h:=by
 induction ha with
 | @here i o g m q a=>
   intro hk;rw [re]at hk;unfold orElse at hk
   split at hk
   ·exact hk
   ·revert hk
    cases oZ P call sz E o g m (fE P call sz K E q) L tm h with
    |true=>intro _;rfl
    |false=>intro hk;exact hk
 | @there i i' o o' g g' m m' q q' a ha ih=>
   intro hk;rw [re]at hk;unfold orElse at hk
   split at hk
   ·cases ha
   ·revert hk
    cases oZ P call sz E o' g' m' (fE P call sz K E q') L tm h with
    |true=>intro hk;exact ih hk
    |false=>intro hk;exact absurd hk Bool.false_ne_true
theorem kk{ops:Array Oper}{L:List dQ}{lk:Nat}(hL:∀p∈L,sub (kF ops.toList p.o) lk=true){o:Oper}(hd:dis (tX o.dst) lk=true):kl ops L o=true:=by
 unfold kl
 cases ho:o.dst with
 |none=>rfl
 |some d=>
  simp only [List.all_eq_true,Bool.not_eq_true'];intro p hp;have h1:=te hd (i:=d) (mh.2 ho)
  cases hc:(p.o.looksAt ops).contains d with
  |false=>rfl
  |true=>
   have h2:=(mZ ops p.o d).2 (by simpa using hc);have:=iR.1 (hL p hp) d h2;rw [h1]at this;cases this
theorem ub{P:Program}{call:ed}(CS:iA P call){sz:Nat}{ops:Array Oper}{K:T SV→HS→Bool}{E:SV→T SV→HS→Bool}{Q:Exit→Act→World→Prop}(hsel':∀(j:Nat) (o:Oper) cs b,ops[j]? =some o→o.op≠ .select cs b)
  (hQ:∀(j:Nat) (o:Oper),ops[j]? =some o→∀v c a w,Q (.panic c) (a.put o.dst v) w→Q (.panic c) a w):∀(fuel:Nat) (pl:cW) (listed:Array Bool) (lk:Nat) (L:List dQ) {tm:T SV} {h:HS},lN ops fuel pl listed lk→(∀p∈L,sub (kF ops.toList p.o) lk=true)→fE P call sz K E pl L tm h→
  ∀ {ρ:Nat→Loc} {a:Act} {w:World} (Hs:List qG),dR dfs ρ tm sz h.nx a→ba ρ h w→Down .any ops listed→(∀D∈Hs,D.inv w∧∃p∈L,∃ε u,Fits P (jl .any ops) ρ h.nx a p D ε u)→
  (∀a' w',oH dfs ρ h sz K a' w'→Q .normal a' w')→(∀c a' w',oG dfs ρ h sz E c a' w'→Q (.panic c) a' w')→gz P .any ops Q fuel Hs listed a w:=by
 classical
 have fin:∀(fuel:Nat) (listed:Array Bool) (L:List dQ) {tm:T SV} {h:HS},Region.ready .any ops listed= []→K tm h→
   ∀ {ρ:Nat→Loc} {a:Act} {w:World} (Hs:List qG),dR dfs ρ tm sz h.nx a→ba ρ h w→(∀D∈Hs,D.inv w∧∃p∈L,∃ε u,Fits P (jl .any ops) ρ h.nx a p D ε u)→
   (∀a' w',oH dfs ρ h sz K a' w'→Q .normal a' w')→gz P .any ops Q fuel Hs listed a w:=by
  intro fuel listed L tm h hr hk ρ a w Hs A H hHs hn;have hn':Q .normal a w:=hn a w ⟨tm,h,ρ,hk,A,H,Ext.refl _ _,Nat.le_refl _,Mem.le_refl _⟩
  cases fuel with
  |zero=>exact⟨fun p hp=>(hHs p hp).1,hr,hn'⟩
  |succ fuel=>exact⟨fun p hp=>(hHs p hp).1,fun _=>hn',by rw [hr];simp⟩
 intro fuel
 induction fuel with
 |zero=>
  intro pl listed lk L tm h hpl _ hk ρ a w Hs A H hd hHs hn hp
  cases hpl with
  |nil hr=>exact fin 0 listed L hr hk Hs A H hHs hn
 |succ fuel ih=>
  intro pl listed lk L tm h hpl hLk hk ρ a w Hs A H hd hHs hn hp
  cases hpl with
  |nil hr=>exact fin _ listed L hr hk Hs A H hHs hn
  | @take _ i o _ _ lk' r ho hready hfree hdl hrdl hsub hrest=>
    rw [w8]at hk;unfold rH at hk;obtain⟨run,tm1,hk,A1,hw⟩:=nh hk A;have hnc:kl ops L o=true:=kk hLk hdl;have hLk':∀p∈L,sub (kF ops.toList p.o) lk'=true:=fun p hp=>iR.2 fun d hd=>iR.1 hsub d (iR.1 (hLk p hp) d hd)
    have take:∀(D:qG) (v:SV) (L':List dQ),(∀p∈L',sub (kF ops.toList p.o) lk'=true)→fc P ops D.inv o (v.den ρ) a→v.lt ρ h.nx→
      (∀(listed:Array Bool) (j:Nat),Down .any ops listed→j∈Region.ready .any ops listed→listed.getD i true=false→D.dep j=false)→
      fi sz o.dst v (fun tm=>fE P call sz K E r L' tm h) tm1→
      (∀D'∈D::Hs,D'.inv w∧(D'=⟨fun _=>false,fun _=>True⟩∨∃p∈L',∃ε u,Fits P (jl .any ops) ρ h.nx (a.put o.dst (v.den ρ)) p D' ε u))→
      gz P .any ops Q (fuel+1) Hs listed a w:=by
     intro D v L' hL' hy hv hdep hset hall;obtain⟨tm2,hk2,A2⟩:=ee hset A1 hv;refine vf (D:=D) ho hsel' (fun c a w hq=>hQ i o ho _ c a w hq) hdep fuel Hs listed a w hd hfree hready hy ?_
     have key:=ih r (listed.setIfInBounds i true) lk' L' hrest hL' hk2 ((D::Hs).filter fun D'=>decide (∃p∈L',∃ε u,Fits P (jl .any ops) ρ h.nx (a.put o.dst (v.den ρ)) p D' ε u)) A2 H (hd.step hready) (fun D' hD'=>by
      obtain⟨h1,h2⟩:=List.mem_filter.1 hD'
      exact⟨(hall D' h1).1,of_decide_eq_true h2⟩) hn hp
     have add:∀(fuel:Nat) (L1 L2:List qG) (listed:Array Bool) (a:Act) (w:World),(∀p∈L2,p∈L1∨p=⟨fun _=>false,fun _=>True⟩)→gz P .any ops Q fuel L1 listed a w→gz P .any ops Q fuel L2 listed a w:=by
      intro fuel
      induction fuel with
      |zero=>intro L1 L2 listed a w hs h;exact⟨fun p hp=>(hs p hp).elim (h.1 p) (fun e=>by subst e;trivial),h.2⟩
      |succ fuel ih=>
       intro L1 L2 listed a w hs h;refine⟨fun p hp=>(hs p hp).elim (h.1 p) (fun e=>by subst e;trivial),h.2.1,fun k hk=>wpOp_mono (fun a w h'=>ih _ _ _ a w (fun p hp=> ?_) h') (h.2.2 k hk)⟩;rw [List.mem_filter]at hp;rcases hs p hp.1 with h'|h'
       ·exact .inl (List.mem_filter.2 ⟨h',hp.2⟩)
       ·exact .inr h'
     refine add _ _ _ _ _ _ (fun p hp=> ?_) key;rcases(hall p hp).2 with h'|h'
     ·exact .inr h'
     ·exact .inl (List.mem_filter.2 ⟨hp,decide_eq_true h'⟩)
    have old:∀(v:SV),∀D'∈Hs,D'.inv w∧∃p∈L,∃ε u,Fits P (jl .any ops) ρ h.nx (a.put o.dst (v.den ρ)) p D' ε u:=fun v D' hD'=>by
     obtain⟨h1,p,hp,ε,u,F⟩:=hHs D' hD';exact⟨h1,p,hp,ε,u,F.eq,(eS hnc hp F.sel a _).trans F.same,F.val,F.lt,F.sel⟩
    cases run with
    |true=>
     simp only [cond_true,xO,xN,nL]at hk
     split at hk
     ·rename_i rb v hp
      cases yF hk with
      |inl hk=>
       obtain⟨va,vb,hab,ha,hb⟩:=yZ hk;obtain⟨z,hz,hlt,hrun⟩:=za hab A1 o rfl;have hk:fi sz o.dst z (fun tm=>fE P call sz K E r L tm h) tm1=true:=by rcases hz with rfl|rfl<;>assumption
       refine take ⟨fun _=>false,fun _=>True⟩ z L hLk' (.inl ⟨hw,fun w' _=>hrun w'⟩) hlt (fun _ _ _ _ _=>rfl) hk fun D' hD'=> ?_
       rcases List.mem_cons.1 hD' with rfl|hD'
       ·exact⟨trivial,.inl rfl⟩
       ·exact⟨(old z D' hD').1,.inr (old z D' hD').2⟩
      |inr hg=>
       obtain⟨hr1,hg⟩:=hg;clear hk;have hk:=hg;subst hr1;have hlt:=(oX hp rfl A1 o rfl w).2;refine take ⟨fun _=>false,fun _=>True⟩ v L hLk' (.inl ⟨hw,fun w' _=>(oX hp rfl A1 o rfl w').1⟩) hlt (fun _ _ _ _ _=>rfl) hk fun D' hD'=> ?_
       rcases List.mem_cons.1 hD' with rfl|hD'
       ·exact⟨trivial,.inl rfl⟩
       ·exact⟨(old v D' hD').1,.inr (old v D' hD').2⟩
     ·split at hk
      ·rename_i v hp
       obtain⟨hself,hlk'⟩:=hrdl (zD hp)
       have hnc2:kl ops [⟨i,o,v⟩] o=true:=kk (lk:=kF ops.toList o) (fun p hp=>by
        have:p=⟨i,o,v⟩:=by simpa using hp
        subst this;exact xa _) hself
       obtain⟨hrun,hlt⟩:=fI hp A1 H o rfl
       refine take (GQ P (jl .any ops) ⟨i,o,v⟩ a.eval (v.den ρ)) v (⟨i,o,v⟩::L) (fun p hp=>by
        rcases List.mem_cons.1 hp with rfl|hp
        ·exact hlk'
        ·exact hLk' p hp) (.inl ⟨hw,fun w' hw'=>hw'⟩) hlt (fun listed j hd hj hi=>Ay hd hi hj) hk fun D' hD'=> ?_
       rcases List.mem_cons.1 hD' with rfl|hD'
       ·exact⟨hrun,.inr ⟨_,List.mem_cons_self,a.eval,v.den ρ,rfl,eS hnc2 List.mem_cons_self (kW hp) a _,rfl,hlt,kW hp⟩⟩
       ·obtain⟨h1,p,hp,ε,u,F⟩:=old v D' hD'
        exact⟨h1,.inr ⟨p,List.mem_cons_of_mem _ hp,ε,u,F⟩⟩
      ·exact absurd hk Bool.false_ne_true
    |false=>
     simp only [cond_false]at hk;refine take ⟨fun _=>false,fun _=>True⟩ iQ L hLk' (.inr ⟨hw,rfl⟩) trivial (fun _ _ _ _ _=>rfl) hk fun D' hD'=> ?_
     rcases List.mem_cons.1 hD' with rfl|hD'
     ·exact⟨trivial,.inl rfl⟩
     ·exact⟨(old iQ D' hD').1,.inr (old iQ D' hD').2⟩
  |effs q hr _ halt hrests=>
   refine⟨fun p hp=>(hHs p hp).1,fun h0=>absurd h0 hr,fun j hj=> ?_⟩;obtain⟨o,m,ho,hdl,hm,hA⟩:=halt j hj;have hrest:=hrests j hj;have hk:=zh hA hk;unfold oZ at hk;obtain⟨run,tm1,hk,A1,hw⟩:=nh hk A;have hnc:kl ops L o=true:=kk hLk hdl;have hready:=hj;unfold wpOp;simp only [ho,hw]
   cases run with
   |true=>
    simp only [cond_true,BY]at hk;simp only [if_true]
    have rest:∀(z:SV) (h':HS) (ρ':Nat→Loc) (w':World) (tm2:T SV),z.lt ρ' h'.nx→ba ρ' h' w'→Ext ρ ρ' h.nx→h.nx≤h'.nx→h.M.le h'.M→dR dfs ρ' tm2 sz h'.nx (a.put o.dst (z.den ρ'))→
      fE P call sz K E (q j) (L.filter fun p=> !behind (jl .any ops) p.i j) tm2 h'=true→
      (∀p∈L.filter (fun p=> !behind (jl .any ops) p.i j),∀ε u,(execOp ε p.o).run P w= .ok (.value u) w→execOp a.eval p.o=execOp ε p.o→u=p.v.den ρ→p.v.lt ρ h.nx→(∀cs b,p.o.op≠ .select cs b)→p∈L→(execOp ε p.o).run P w'= .ok (.value u) w')→
      gz P .any ops Q fuel (Hs.filter fun p=> !p.dep j) (listed.setIfInBounds j true) (a.put o.dst (z.den ρ')) w':=by
     intro z h' ρ' w' tm2 hlt H' hx hnx hm' A2 hk3 hre;refine ih (q j) (listed.setIfInBounds j true) lk _ hrest (fun p hp=>hLk p (List.mem_filter.1 hp).1) hk3 (Hs.filter fun p=> !p.dep j) A2 H' (hd.step hready) (fun D hD=> ?_) (fun a3 w3 g3=>hn a3 w3 (g3.trans hx hnx hm')) fun c a3 w3 g3=>hp c a3 w3 (g3.trans hx hnx hm')
     obtain⟨hD1,hD2⟩:=List.mem_filter.1 hD;obtain⟨hinv,p,hp,ε,u,F⟩:=hHs D hD1
     have hpL:p∈L.filter fun p=> !behind (jl .any ops) p.i j:=by
      refine List.mem_filter.2 ⟨hp,?_⟩;rw [F.eq]at hD2;exact hD2
     have hsame:execOp (a.put o.dst (z.den ρ')).eval p.o=execOp ε p.o:=(eS hnc hp F.sel a _).trans F.same;have hval:u=p.v.den ρ':=by rw [F.val,SV.eU hx _ F.lt]
     refine⟨?_,p,hpL,ε,u,F.eq,hsame,hval,SV.fV hx hnx _ F.lt,F.sel⟩;rw [F.eq]at hinv ⊢;exact hre p hpL ε u hinv F.same F.val F.lt F.sel hp
    cases hnew:BL h o.op with
    |false=>
     rw [hnew]at hk;refine .inl (wI CS hk A1 H o rfl (fun v w' ⟨z,h',ρ',hz,hv,hlt,H',hx,hnx,hm'⟩=> ?_) fun v w' ⟨z,h',ρ',hz,hv,hlt,H',hx,hnx,hm'⟩=>hp _ _ _ ⟨z,tm1,h',ρ',by rw [hv],hlt,by rw [vE]at hz;exact hz,A1.ext hx hnx,H',hx,hnx,hm'⟩);subst hv;simp only [vF,kP,cond_false]at hz;obtain⟨tm2,hk2,A2⟩:=ee hz (A1.ext hx hnx) hlt;simp only [yP _ j m hm L]at hk2;obtain⟨hk3,hre⟩:=tI hk2;refine rest z h' ρ' w' tm2 hlt H' hx hnx hm' A2 hk3 fun p hpL ε u hrun0 hs hu hl hsel hp=> ?_
     rcases hre p hpL with⟨hold,v0,hv0⟩|hv0
     ·obtain⟨r1,r2⟩:=fI hv0 A1 H p.o rfl
      rw [hs,hrun0]at r1;have hu0:u=v0.den ρ:=by injection r1 with r1;injection r1
      obtain⟨r3,_⟩:=fI (CO hold hv0) (h:=⟨.e,h.nx,h.M.still⟩) A1 (ba.old (ρ:=ρ) H' hm') p.o rfl;rw [←hs,r3,hu0]
     ·have hsame:execOp (a.put o.dst (z.den ρ')).eval p.o=execOp ε p.o:=(eS hnc hp hsel a _).trans hs
      obtain⟨hrun,_⟩:=fI hv0 A2 H' p.o rfl;rw [←hsame,hrun,hu,SV.eU hx _ hl]
    |true=>
     rw [hnew]at hk;obtain⟨K',hk,hK'⟩:=Gf hnew hk;refine .inl (wI CS hk A1 H o rfl (fun v w' ⟨z,h',ρ',hz,hv,hlt,H',hx,hnx,hm'⟩=> ?_) fun v w' ⟨z,h',ρ',hz,hv,hlt,H',hx,hnx,hm'⟩=>hp _ _ _ ⟨z,tm1,h',ρ',by rw [hv],hlt,by rw [vE]at hz;exact hz,A1.ext hx hnx,H',hx,hnx,hm'⟩);subst hv;obtain⟨hz,B,hB⟩:=hK' z h' hz;simp only [vF,kP,cond_true]at hz;obtain⟨tm2,hk2,A2⟩:=ee hz (A1.ext hx hnx) hlt
     cases hblt:Nat.blt h.nx 4294967295 with
     |false=>rw [hblt]at hk2;exact absurd hk2 Bool.false_ne_true
     |true=>
      rw [hblt]at hk2
      have hb32:h.nx+1<2^32:=by
       have:=Nat.le_of_ble_eq_true hblt;have:h.nx<4294967295:=this;have h32:(2^32:Nat)=4294967296:=by decide
       omega
      simp only [cond_true,yP _ j m hm L]at hk2;obtain⟨hk3,hre⟩:=tJ hk2;refine rest z h' ρ' w' tm2 hlt H' hx hnx hm' A2 hk3 fun p hpL ε u hrun0 hs hu hl hsel hp=> ?_
      rcases hre p hpL with⟨hld,v0,hv0⟩|hv0
      ·obtain⟨r1,r2⟩:=fI hv0 A1 H p.o rfl
       rw [hs,hrun0]at r1;have hu0:u=v0.den ρ:=by injection r1 with r1;injection r1
       have hv1:eb P tm1 h' p.o.op=some v0:=by
        unfold isLd at hld
        split at hld
        ·rename_i t x hop
         rw [hop]at hv0 ⊢;simp only [eb]at hv0 ⊢
         split at hv0
         ·rename_i y hy
          try rw [hy]
          rw [hB];exact Dy hv0 (fun b B' hg=>(H.blk b B' hg).1) hb32
         ·cases hv0
        ·cases hld
       obtain⟨r3,_⟩:=fI hv1 (A1.ext hx hnx) H' p.o rfl;rw [←hs,r3,hu0,SV.eU hx _ r2]
      ·have hsame:execOp (a.put o.dst (z.den ρ')).eval p.o=execOp ε p.o:=(eS hnc hp hsel a _).trans hs
       obtain⟨hrun,_⟩:=fI hv0 A2 H' p.o rfl;rw [←hsame,hrun,hu,SV.eU hx _ hl]
   |false=>
    simp only [cond_false]at hk;simp only [Bool.false_eq_true,if_false];obtain⟨tm2,hk2,A2⟩:=ee (v:=iQ) hk A1 trivial;refine ih (q j) (listed.setIfInBounds j true) lk L hrest hLk hk2 (Hs.filter fun p=> !p.dep j) A2 H (hd.step hready) (fun D hD=> ?_) hn hp;obtain⟨hD1,hD2⟩:=List.mem_filter.1 hD;obtain⟨h1,p,hp',ε,u,F⟩:=hHs D hD1;exact⟨h1,p,hp',ε,u,F.eq,(eS hnc hp' F.sel a _).trans F.same,F.val,F.lt,F.sel⟩
def fxOp(P:Program)(call:ed)(sz:Nat)(E:SV→T SV→HS→Bool)(o:Oper)(K:T SV→HS→Bool)(tm:T SV)(h:HS):Bool:=
 bif Gg P o.op then effF P call tm h o.op (fun v h'=>uf h' fun h'=>fi sz o.dst v (fun tm=>K tm h') tm) (pncK E tm)
 else match Fe P tm o.op with
 |some (r,v)=>BQ P h o.op r (fi sz o.dst v (fun tm=>K tm h) tm) (Cf (altF P tm o.op) fun v=>fi sz o.dst v (fun tm=>K tm h) tm)
 |none=>rD P tm h o.op fun v=>fi sz o.dst v (fun tm=>K tm h) tm
theorem fxOp_wp{P:Program}{call:ed}(CS:iA P call){sz:Nat}{E:SV→T SV→HS→Bool}{o:Oper}{K:T SV→HS→Bool}{tm:T SV}{h:HS}(hk:fxOp P call sz E o K tm h){ρ:Nat→Loc}{a:Act}{w:World}
  (A:dR dfs ρ tm sz h.nx a) (H:ba ρ h w) {next:Act→World→Prop} {Q:Exit→Act→World→Prop} (hn:∀a' w',oH dfs ρ h sz K a' w'→next a' w') (hp:∀c a' w',oG dfs ρ h sz E c a' w'→Q (.panic c) a' w'):o.wp P a w next Q:=by
 unfold fxOp at hk
 cases he:Gg P o.op with
 |true=>
  rw [he]at hk;simp only [cond_true,BY]at hk;refine wI CS hk A H o rfl (fun v w' ⟨z,h',ρ',hz,hv,hlt,H',hx,hnx,hm⟩=> ?_) fun v w' ⟨z,h',ρ',hz,hv,hlt,H',hx,hnx,hm⟩=>hp _ _ _ ⟨z,tm,h',ρ',by rw [hv],hlt,by rw [vE]at hz;exact hz,A.ext hx hnx,H',hx,hnx,hm⟩
  subst hv;simp only [kP]at hz;obtain⟨tm',hk',A'⟩:=ee hz (A.ext hx hnx) hlt;exact hn _ _ ⟨tm',h',ρ',hk',A',H',hx,hnx,hm⟩
 |false=>
  rw [he]at hk;simp only [cond_false,xN,nL]at hk
  split at hk
  ·rename_i r v hp
   cases yF hk with
   |inl hk=>
    obtain⟨va,vb,hab,ha,hb⟩:=yZ hk;obtain⟨z,hz,hlt,hrun⟩:=za hab A o rfl;have hk:fi sz o.dst z (fun tm=>K tm h) tm=true:=by rcases hz with rfl|rfl<;>assumption
    obtain⟨tm',hk',A'⟩:=ee hk A hlt;unfold Oper.wp;rw [hrun w,Oper.upon_value];exact hn _ _ ⟨tm',h,ρ,hk',A',H,Ext.refl _ _,Nat.le_refl _,Mem.le_refl _⟩
   |inr hg=>
    obtain⟨hr1,hg⟩:=hg;clear hk;have hk:=hg;subst hr1;obtain⟨h1,h2⟩:=oX hp rfl A o rfl w;obtain⟨tm',hk',A'⟩:=ee hk A h2;unfold Oper.wp;rw [h1,Oper.upon_value];exact hn _ _ ⟨tm',h,ρ,hk',A',H,Ext.refl _ _,Nat.le_refl _,Mem.le_refl _⟩
  ·split at hk
   ·rename_i v hr
    obtain⟨h1,h2⟩:=fI hr A H o rfl;obtain⟨tm',hk',A'⟩:=ee hk A h2;unfold Oper.wp;rw [h1,Oper.upon_value];exact hn _ _ ⟨tm',h,ρ,hk',A',H,Ext.refl _ _,Nat.le_refl _,Mem.le_refl _⟩
   ·exact absurd hk Bool.false_ne_true
def F0(P:Program)(call:ed)(sz:Nat)(E:SV→T SV→HS→Bool)(g:Gd)(o:Oper)(F:T SV→HS→Bool)(tm:T SV)(h:HS):Bool:=sH g tm fun run tm=>
 bif run then fxOp P call sz E o F tm h else fi sz o.dst iQ (fun tm=>F tm h) tm
def BR(P:Program)(call:ed)(sz:Nat)(E:SV→T SV→HS→Bool)(ol:List Oper)(K:T SV→HS→Bool)(os:List Oper):T SV→HS→Bool:=
 List.rec (motive:=fun _=>T SV→HS→Bool) K (fun o _ ih tm h=>F0 P call sz E (guardOf ol o) o ih tm h) os
theorem An(P:Program)(call:ed)(sz:Nat)(E:SV→T SV→HS→Bool)(ol:List Oper)(K:T SV→HS→Bool)(o:Oper)(os:List Oper)(tm:T SV)(h:HS):
 BR P call sz E ol K (o::os) tm h=F0 P call sz E (guardOf ol o) o (BR P call sz E ol K os) tm h:=rfl
theorem F3{P:Program}{call:ed}(CS:iA P call){sz:Nat}{ops:Array Oper}{K:T SV→HS→Bool}{E:SV→T SV→HS→Bool}{Q:Exit→Act→World→Prop} :∀(l:List Nat) (os:List Oper),l.map (fun i=>ops[i]?)=os.map some→
  ∀ {tm:T SV} {h:HS},BR P call sz E ops.toList K os tm h→∀ {ρ:Nat→Loc} {a:Act} {w:World},dR dfs ρ tm sz h.nx a→ba ρ h w→(∀a' w',oH dfs ρ h sz K a' w'→Q .normal a' w')→(∀c a' w',oG dfs ρ h sz E c a' w'→Q (.panic c) a' w')→wpOps P ops Q l a w:=by
 intro l
 induction l with
 |nil=>
  intro os hos tm h hk ρ a w A H hn hp
  cases os with
  |nil=>exact hn a w ⟨tm,h,ρ,hk,A,H,Ext.refl _ _,Nat.le_refl _,Mem.le_refl _⟩
  |cons o os=>simp at hos
 |cons i l ih=>
  intro os hos tm h hk ρ a w A H hn hp
  cases os with
  |nil=>simp at hos
  |cons o os=>
   simp only [List.map_cons,List.cons.injEq]at hos;obtain⟨hi,hos⟩:=hos;simp only [wpOps,hi];rw [An]at hk;obtain⟨b,tm',hk',A',hw⟩:=nh hk A;rw [hw]
   cases b with
   |true=>
    simp only [if_true];refine .inl (fxOp_wp CS hk' A' H (fun a' w' g=> ?_) hp);obtain⟨tm2,h2,ρ2,k2,A2,H2,x2,n2,m2⟩:=g;exact ih os hos k2 A2 H2 (fun a3 w3 g3=>hn a3 w3 (g3.trans x2 n2 m2)) fun c a3 w3 g3=>hp c a3 w3 (g3.trans x2 n2 m2)
   |false=>
    simp only [Bool.false_eq_true,if_false];simp only [cond_false]at hk';obtain⟨tm2,k2,A2⟩:=ee (v:=iQ) hk' A' trivial;exact ih os hos k2 A2 H hn hp
end
end Go.Sx
