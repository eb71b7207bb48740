/-
  Parts of the proof: SxP SxT SxN SxO SxQ
-/
import Derived.Test.YtmmlhdiejkknnaaGreatDoorG04
import Derived.ChangeSame
set_option maxRecDepth 100000
set_option maxHeartbeats 0
namespace Go.Sx
noncomputable section
variable {dfs : List Deferred}
def tb(m i:Nat):Bool:=Nat.beq (Nat.land (Nat.shiftRight m i) 1) 1
theorem y7(m i:Nat):tb m i=m.testBit i:=by
 unfold tb;have h1:Nat.land (Nat.shiftRight m i) 1=(m>>>i)%2:=Nat.and_one_is_mod (m>>>i);rw [h1,Nat.testBit_eq_decide_div_mod_eq,Nat.shiftRight_eq_div_pow]
 cases h:Nat.beq (m/2^i%2) 1 with
 |true=>have:=Nat.eq_of_beq_eq_true h;simp [this]
 |false=>
  have:m/2^i%2≠1:=fun e=>by rw [e]at h;cases h
  simp [this]
def bit(i:Nat):Nat:=Nat.shiftLeft 1 i
theorem kK(i j:Nat):(bit i).testBit j=decide (i=j):=by
 show(1<<<i).testBit j=_
 rw [Nat.one_shiftLeft,Nat.testBit_two_pow]
theorem gS(a b i:Nat):(Nat.lor a b).testBit i=(a.testBit i||b.testBit i):=Nat.testBit_or a b i
theorem nH(a b i:Nat):(Nat.land a b).testBit i=(a.testBit i&&b.testBit i):=Nat.testBit_and a b i
def dis(a b:Nat):Bool:=Nat.beq (Nat.land a b) 0
theorem qW{a b:Nat}(h:dis a b=true){i:Nat}(ha:a.testBit i=true):b.testBit i=false:=by
 have h:=Nat.eq_of_beq_eq_true h;have h2:(Nat.land a b).testBit i=false:=by rw [h];simp
 rw [nH,ha]at h2;simpa using h2
def sub(a b:Nat):Bool:=Nat.beq (Nat.land a b) a
theorem im{a b:Nat} :sub a b=true↔∀i,a.testBit i=true→b.testBit i=true:=by
 unfold sub;constructor
 ·intro h i hi
  have h:=Nat.eq_of_beq_eq_true h;rw [←h,nH]at hi;simp at hi;exact hi.2
 ·intro h
  have:Nat.land a b=a:=by
   apply Nat.eq_of_testBit_eq;intro i;rw [nH]
   cases ha:a.testBit i with
   |false=>rfl
   |true=>simp [h i ha]
  rw [this,Nat.beq_refl]
def mZ(g:Ground):Bool:=match g with
 | .textOnly _=>false
 | .gcOnly _=>false
 |_=>true
theorem nZ(e:Edge):Region.binds .any e=mZ e.ground:=by
 unfold Region.binds mZ
 cases e.ground<;>rfl
def sw:List Edge→Nat
 | []=>0
 |e::es=>bif mZ e.ground then Nat.lor (bit e.on) (sw es)else sw es
theorem lO(i:Nat):∀(es:List Edge),(sw es).testBit i=true↔∃e∈es,Region.binds .any e=true∧e.on=i:=by
 intro es
 induction es with
 |nil=>simp [sw]
 |cons e es ih=>
  simp only [sw,List.mem_cons,exists_eq_or_imp,nZ]
  cases hb:mZ e.ground with
  |false=>simp only [cond_false,Bool.false_eq_true,false_and,false_or];rw [ih];simp only [nZ]
  |true=>
   simp only [cond_true,gS,kK,Bool.or_eq_true,decide_eq_true_eq,true_and];rw [ih];simp only [nZ]
def wZ:List Operand→Nat
 | []=>0
 |x::xs=>match x with
  | .tmp t=>Nat.lor (bit t) (wZ xs)
  |_=>wZ xs
theorem Ag(d:Nat):∀(xs:List Operand),(wZ xs).testBit d=true↔d∈xs.filterMap fun| .tmp t=>some t|_=>none:=by
 intro xs
 induction xs with
 |nil=>simp [wZ]
 |cons x xs ih=>
  cases x with
  |tmp t=>
   simp only [wZ,gS,kK,Bool.or_eq_true,decide_eq_true_eq,ih,List.filterMap_cons,List.mem_cons];exact or_congr ⟨Eq.symm,Eq.symm⟩ Iff.rfl
  |_=>simp [wZ,ih]
def EF(c:Call):List Operand:=match c.callee with
 | .value f=>f::c.args.toList
 | .invoke r _=>r::c.args.toList
 | .builtin _=>c.args.toList
def opdL(o:Op):List Operand:=match o with
 | .makeFunc _ f c=>f.toList++c.toList
 | .slice _ x l h m=>x::(l.toList++(h.toList++m.toList))
 | .call c=>EF c
 |o=>o.operands.toList
theorem EE(c:Call):c.operands.toList=EF c:=by
 unfold Call.operands EF
 cases c.callee<;>simp
theorem opdL_eq(o:Op):o.operands.toList=opdL o:=by
 cases o<;>first
  |rfl
  |exact EE _
  |(simp [opdL,Op.operands])
def rK:Option Tmp→Nat
 |none=>0
 |some d=>bit d
theorem lg{o:Option Tmp}{d:Nat} :(rK o).testBit d=true↔o=some d:=by
 cases o with
 |none=>simp [rK]
 |some e=>simp [rK,kK]
inductive Gd where
 |free
 |on (d:Tmp) (want:Bool)
 |bad
def guardOf(ol:List Oper)(o:Oper):Gd:=match o.guard with
 |none=> .free
 |some (j,want)=>match nth ol j with
  |none=> .bad
  |some x=>match x.dst with
   |none=> .bad
   |some d=> .on d want
def gdM:Gd→Nat
 | .on d _=>bit d
 |_=>0
def jL(ol:List Oper)(o:Oper):Nat:=Nat.lor (wZ (opdL o.op)) (gdM (guardOf ol o))
theorem lQ(ops:Array Oper)(o:Oper)(d:Nat):(jL ops.toList o).testBit d=true↔d∈o.looksAt ops:=by
 unfold jL Oper.looksAt;rw [gS,Bool.or_eq_true,List.mem_append,Ag,opdL_eq];refine or_congr Iff.rfl ?_;unfold guardOf
 cases o.guard with
 |none=>simp [gdM]
 |some gw=>
  obtain⟨g,w⟩:=gw;simp only [kq,Array.getElem?_toList]
  cases ops[g]? with
  |none=>simp [gdM]
  |some x=>cases hx:x.dst with
   |none=>simp [gdM,hx]
   |some e=>simp [gdM,kK,hx,eq_comm]
def effB(b:Builtin):Bool:=match b with
 | .append| .copy| .delete| .unsafeString=>true
 |_=>false
def toSlc(P:Program)(d:TypeId):Bool:=match ty P d with
 |some s=>vM s.und
 |none=>false
def Em(P:Program)(o:Op):Bool:=match o with
 | .alloc _| .box _ _| .store _ _ _| .makeSlice _ _ _| .makeMap _ _| .buildSlice _ _ _| .mapUpdate _ _ _ _| .insert _ _ _ _| .range _ _| .next _ _| .panic _=>true
 | .call c=>match c.callee with
   | .builtin b=>effB b
   |_=>true
 | .convert _ d _=>toSlc P d
 |_=>false
def Bp(o:Op):Bool:=match o with
 | .load _ _| .lookup _ _ _ _| .convert _ _ _| .entry _| .call _=>true
 |_=>false
theorem xx{P:Program}{tm:T SV}{h:HS}{op:Op}{v:SV}(hr:dv P tm h op=some v):Bp op=true:=by
 cases op<;>first|rfl|simp [dv]at hr
def isSel(o:Op):Bool:=match o with
 | .select _ _=>true
 |_=>false
structure OpI where
 o:Oper
 dm:Nat
 lk:Nat
 nd:Nat
def eA(ol:List Oper)(o:Oper):OpI:=⟨o,rK o.dst,jL ol o,sw o.after.toList⟩
def infos(ol:List Oper):List Oper→List OpI
 | []=> []
 |o::os=>eA ol o::infos ol os
theorem nM(ol:List Oper):∀(os:List Oper) (i:Nat),nth (infos ol os) i=(nth os i).map (eA ol)
 | [],_=>rfl
 |_::_,0=>rfl
 |_::os,i+1=>nM ol os i
def uA(x y:OpI):Bool:=bif dis x.dm (Nat.lor y.lk y.dm)then dis y.dm x.lk else false
theorem wO{ops:Array Oper}{x y:Oper}(h:uA (eA ops.toList x) (eA ops.toList y)=true):x.apart ops y=true:=by
 unfold uA at h
 cases h1:dis (eA ops.toList x).dm (Nat.lor (eA ops.toList y).lk (eA ops.toList y).dm)with
 |false=>rw [h1]at h;cases h
 |true=>
  rw [h1]at h;simp only [cond_true]at h
  have k1:∀d,x.dst=some d→d∉y.looksAt ops∧y.dst≠some d:=fun d hd=>by
   have:=qW h1 (i:=d) (lg.2 hd);rw [gS,Bool.or_eq_false_iff]at this
   exact⟨fun hm=>by rw [←lQ]at hm;exact absurd hm (by rw [show(jL ops.toList y).testBit d=false from this.1];simp),fun he=>by
    have h2:=lg.2 he
    rw [show(rK y.dst).testBit d=false from this.2]at h2;cases h2⟩
  have k2:∀d,y.dst=some d→d∉x.looksAt ops:=fun d hd hm=>by
   have:=qW h (i:=d) (lg.2 hd);rw [←lQ]at hm;rw [show(jL ops.toList x).testBit d=false from this]at hm;cases hm
  unfold Oper.apart;rw [Bool.and_eq_true];constructor
  ·cases hx:x.dst with
   |none=>rfl
   |some d=>
    obtain⟨a,b⟩:=k1 d hx;simp [a,b]
  ·cases hy:y.dst with
   |none=>rfl
   |some d=>simp [k2 d hy]
structure o6(ops:Array Oper)(ls:Nat)(listed:Array Bool):Prop where
 size:listed.size=ops.size
 at_:∀k,ls.testBit k=listed.getD k false
theorem o6.getD{ops:Array Oper}{ls:Nat}{listed:Array Bool}(h:o6 ops ls listed){k:Nat}(hk:k<ops.size):listed.getD k true=ls.testBit k:=by
 rw [h.at_ k];have:k<listed.size:=by rw [h.size];exact hk
 simp [this]
theorem o6.start(ops:Array Oper):o6 ops 0 (Array.replicate ops.size false):=
 ⟨by simp,fun k=>by simp [Array.getD_eq_getD_getElem?,Array.getElem?_replicate];split<;>rfl⟩
theorem o6.step{ops:Array Oper}{ls:Nat}{listed:Array Bool}(h:o6 ops ls listed){i:Nat}(hi:i<ops.size):o6 ops (Nat.lor ls (bit i)) (listed.setIfInBounds i true):=by
 refine⟨by simp [h.size],fun k=> ?_⟩;rw [gS,kK,h.at_ k];have hs:i<listed.size:=by rw [h.size];exact hi
 by_cases hik:i=k
 ·subst hik;simp [Array.getD_eq_getD_getElem?,hs]
 ·simp [Array.getD_eq_getD_getElem?,hik]
def lM(ls:Nat):List OpI→Nat→List Nat
 | [],_=> []
 |x::xs,i=>bif (bif tb ls i then false else sub x.nd ls)then i::lM ls xs (Nat.succ i)else lM ls xs (Nat.succ i)
theorem Az{ops:Array Oper}{ls:Nat}{listed:Array Bool}(h:o6 ops ls listed):∀(os:List Oper) (i:Nat),(∀k,os[k]? =ops[i+k]?)→
  lM ls (infos ops.toList os) i=(List.range' i os.length).filter fun i=> !listed.getD i true&&((ops[i]?).map (·.after.all fun e=> !Region.binds .any e||listed.getD e.on false)).getD false:=by
 intro os
 induction os with
 |nil=>intro i _;rfl
 |cons o os ih=>
  intro i ho;have h0:ops[i]? =some o:=by have:=ho 0;simpa using this.symm
  have hi:i<ops.size:=(Array.getElem?_eq_some_iff.1 h0).1
  have ih:=ih (i+1) fun k=>by
   have:=ho (k+1);rw [List.getElem?_cons_succ]at this;rw [this];congr 1;omega
  simp only [infos,lM,List.length_cons,List.range'_succ,List.filter_cons]
  have hp:(bif tb ls i then false else sub (eA ops.toList o).nd ls)=(!listed.getD i true&&((ops[i]?).map (·.after.all fun e=> !Region.binds .any e||listed.getD e.on false)).getD false):=by
   rw [h0,h.getD hi,y7]
   cases ls.testBit i with
   |true=>rfl
   |false=>
    simp only [cond_false,Bool.not_false,Bool.true_and,Option.map_some,Option.getD_some];rw [Bool.eq_iff_iff,im,Array.all_eq_true_iff_forall_mem];constructor
    ·intro hs e he
     cases hb:Region.binds .any e with
     |false=>rfl
     |true=>
      have:=hs e.on ((lO e.on _).2 ⟨e,by simpa using he,hb,rfl⟩);rw [h.at_]at this;simpa using this
    ·intro ha k hk
     obtain⟨e,he,hb,rfl⟩:=(lO k _).1 hk;have:=ha e (by simpa using he);rw [hb]at this;rw [h.at_];simpa using this
  rw [hp]
  cases hq:(!listed.getD i true&&((ops[i]?).map (·.after.all fun e=> !Region.binds .any e||listed.getD e.on false)).getD false)with
  |true=>simp only [cond_true,if_true];rw [←ih]
  |false=>simp only [cond_false,Bool.false_eq_true,if_false];rw [←ih]
theorem mz{ops:Array Oper}{ls:Nat}{listed:Array Bool}(h:o6 ops ls listed):lM ls (infos ops.toList ops.toList) 0=Region.ready .any ops listed:=by
 rw [Az h ops.toList 0 (fun k=>by simp)];unfold Region.ready;rw [List.range_eq_range'];simp
def sH(ls i:Nat)(x:OpI):List OpI→Nat→Bool
 | [],_=>true
 |y::ys,j=>bif (bif Nat.beq j i then true else bif tb ls j then true else bif tb y.nd i then true else uA x y)then sH ls i x ys (Nat.succ j)else false
theorem yn{ops:Array Oper}{ls:Nat}{listed:Array Bool}(h:o6 ops ls listed){i:Nat}{oi:Oper} :∀(os:List Oper) (s:Nat),(∀k,os[k]? =ops[s+k]?)→
  sH ls i (eA ops.toList oi) (infos ops.toList os) s=true→∀j oj,s≤j→ops[j]? =some oj→j≠i→listed.getD j true=false→(∀e∈oj.after,Region.binds .any e=true→e.on≠i)→oi.apart ops oj=true:=by
 intro os
 induction os with
 |nil=>
  intro s ho _ j oj hj hoj;have:=ho (j-s);rw [show s+(j-s)=j by omega,hoj]at this;simp at this
 |cons o os ih=>
  intro s ho hf j oj hj hoj hne hun hno;have h0:ops[s]? =some o:=by have:=ho 0;simpa using this.symm
  have hs:s<ops.size:=(Array.getElem?_eq_some_iff.1 h0).1;simp only [infos,sH]at hf
  cases hc:(bif Nat.beq s i then true else bif tb ls s then true else bif tb (eA ops.toList o).nd i then true else uA (eA ops.toList oi) (eA ops.toList o))with
  |false=>rw [hc]at hf;cases hf
  |true=>
   rw [hc]at hf;simp only [cond_true]at hf;rcases Nat.eq_or_lt_of_le hj with rfl|hlt
   ·rw [h0]at hoj;injection hoj with hoj;subst hoj
    rw [show Nat.beq s i=false from(by
     cases hb:Nat.beq s i with
     |false=>rfl
     |true=>exact absurd (Nat.eq_of_beq_eq_true hb) hne)]at hc
    rw [y7,←h.getD hs,hun]at hc;simp only [cond_false]at hc
    cases ht:tb (eA ops.toList o).nd i with
    |true=>
     rw [y7]at ht;obtain⟨e,he,hb,hon⟩:=(lO i _).1 ht;exact absurd hon (hno e (by simpa using he) hb)
    |false=>
     rw [ht]at hc;exact wO hc
   ·exact ih (s+1) (fun k=>by
     have:=ho (k+1);rw [List.getElem?_cons_succ]at this
     rw [this];congr 1;omega) hf j oj hlt hoj hne hun hno
inductive cB where
 |done
 |stop
 |take (i:Nat) (o:Oper) (g:Gd) (next:cB)
 |eff (i:Nat) (o:Oper) (g:Gd) (m:Nat) (next alt:cB)
def zl(P:Program)(ls:Nat)(is:List OpI):List Nat→Option (Nat×OpI)
 | []=>none
 |i::r=>match nth is i with
  |none=>none
  |some x=>bif (bif Em P x.o.op then false else sH ls i x is 0)then some (i,x)else zl P ls is r
def okT(x:OpI)(lk:Nat):Bool:=bif dis x.dm lk then(bif Bp x.o.op then dis x.dm x.lk else true)else false
def seen(x:OpI)(lk:Nat):Nat:=bif Bp x.o.op then Nat.lor lk x.lk else lk
def conT(i:Nat)(o:Oper)(g:Gd)(p:Option cB):Option cB:=match p with
 |none=>none
 |some l=>some (.take i o g l)
def conE(i:Nat)(o:Oper)(g:Gd)(m:Nat)(p q:Option cB):Option cB:=match p with
 |none=>none
 |some l=>match q with
  |none=>none
  |some r=>some (.eff i o g m l r)
def mkAlts(ol:List Oper)(is:List OpI)(cl:List Nat)(lk:Nat)(F:Nat→Option cB):List Nat→Option cB
 | []=>some .stop
 |i::r=>match nth is i with
  |none=>none
  |some x=>match nth cl i with
   |none=>none
   |some m=>bif dis x.dm lk then conE i x.o (guardOf ol x.o) m (F i) (mkAlts ol is cl lk F r)else none
def lP(P:Program)(ol:List Oper)(is:List OpI)(cl:List Nat):Nat→Nat→Nat→Option cB
 |0,ls,_=>match lM ls is 0 with
  | []=>some .done
  |_::_=>none
 |n+1,ls,lk=>match lM ls is 0 with
  | []=>some .done
  |i0::r=>match zl P ls is (i0::r)with
   |some (i,x)=>bif okT x lk then conT i x.o (guardOf ol x.o) (lP P ol is cl n (Nat.lor ls (bit i)) (seen x lk))else none
   |none=>mkAlts ol is cl lk (fun i=>lP P ol is cl n (Nat.lor ls (bit i)) lk) (i0::r)
inductive Alt:cB→Nat→Oper→Gd→Nat→cB→Prop
 |here {i:Nat} {o:Oper} {g:Gd} {m:Nat} {q a:cB} :Alt (.eff i o g m q a) i o g m q
 |there {i i':Nat} {o o':Oper} {g g':Gd} {m m':Nat} {q q' a:cB} :Alt a i o g m q→Alt (.eff i' o' g' m' q' a) i o g m q
inductive kN(ops:Array Oper):Nat→cB→Array Bool→Nat→Prop
 |nil {n:Nat} {listed:Array Bool} {lk:Nat} :Region.ready .any ops listed= []→kN ops n .done listed lk
 |take {n i:Nat} {o:Oper} {listed:Array Bool} {lk lk':Nat} {r:cB} :ops[i]? =some o→i∈Region.ready .any ops listed→
   (∀j oj,ops[j]? =some oj→j≠i→listed.getD j true=false→(∀e∈oj.after,Region.binds .any e=true→e.on≠i)→o.apart ops oj=true)→
   dis (rK o.dst) lk=true→(Bp o.op=true→dis (rK o.dst) (jL ops.toList o)=true∧sub (jL ops.toList o) lk'=true)→sub lk lk'=true→
   kN ops n r (listed.setIfInBounds i true) lk'→kN ops (n+1) (.take i o (guardOf ops.toList o) r) listed lk
 |effs {n:Nat} {listed:Array Bool} {lk:Nat} {p:cB} (q:Nat→cB):Region.ready .any ops listed≠ []→p≠ .stop→
   (∀i,i∈Region.ready .any ops listed→∃o m,ops[i]? =some o∧dis (rK o.dst) lk=true∧m=(iI .any ops).getD i 0∧Alt p i o (guardOf ops.toList o) m (q i))→
   (∀i,i∈Region.ready .any ops listed→kN ops n (q i) (listed.setIfInBounds i true) lk)→kN ops (n+1) p listed lk
theorem uI(a:Nat):sub a a=true:=im.2 fun _ h=>h
theorem tf(a b:Nat):sub a (Nat.lor a b)=true:=im.2 fun _ h=>by rw [gS,h];rfl
theorem rq(a b:Nat):sub b (Nat.lor a b)=true:=im.2 fun _ h=>by rw [gS,h];simp
theorem xK{P:Program}{ls:Nat}{is:List OpI} :∀ {r:List Nat} {i:Nat} {x:OpI},zl P ls is r=some (i,x)→i∈r∧nth is i=some x∧sH ls i x is 0=true:=by
 intro r
 induction r with
 |nil=>intro i x h;cases h
 |cons j r ih=>
  intro i x h;simp only [zl]at h
  split at h
  ·cases h
  ·rename_i y hy
   cases hb:(bif Em P y.o.op then false else sH ls j y is 0)with
   |true=>
    rw [hb]at h;simp only [cond_true,Option.some.injEq,Prod.mk.injEq]at h;obtain⟨rfl,rfl⟩:=h;refine⟨List.mem_cons_self,hy,?_⟩
    cases he:Em P y.o.op with
    |true=>rw [he]at hb;cases hb
    |false=>rw [he]at hb;exact hb
   |false=>
    rw [hb]at h;obtain⟨h1,h2,h3⟩:=ih h;exact⟨List.mem_cons_of_mem _ h1,h2,h3⟩
theorem BS{i:Nat}{o:Oper}{g:Gd}{p:Option cB}{l:cB}(h:conT i o g p=some l):∃r,p=some r∧l= .take i o g r:=by
 unfold conT at h
 split at h
 ·cases h
 ·injection h with h;exact⟨_,rfl,h.symm⟩
theorem BT{i:Nat}{o:Oper}{g:Gd}{m:Nat}{p q:Option cB}{l:cB}(h:conE i o g m p q=some l):∃r t,p=some r∧q=some t∧l= .eff i o g m r t:=by
 unfold conE at h
 split at h
 ·cases h
 ·split at h
  ·cases h
  ·injection h with h;exact⟨_,_,rfl,rfl,h.symm⟩
theorem AY{ops:Array Oper}{lk:Nat}{F:Nat→Option cB} :∀ {r:List Nat} {p:cB},mkAlts ops.toList (infos ops.toList ops.toList) (iI .any ops) lk F r=some p→
  (∀i∈r,∃o m q,F i=some q∧ops[i]? =some o∧dis (rK o.dst) lk=true∧m=(iI .any ops).getD i 0∧Alt p i o (guardOf ops.toList o) m q)∧(r≠ []→p≠ .stop):=by
 intro r
 induction r with
 |nil=>intro p _;exact⟨fun _ h=>(nomatch h),fun h=>absurd rfl h⟩
 |cons i r ih=>
  intro p h;simp only [mkAlts]at h
  split at h
  ·cases h
  ·rename_i x hx
   split at h
   ·cases h
   ·rename_i m hm
    cases hd:dis x.dm lk with
    |false=>rw [hd]at h;cases h
    |true=>
     rw [hd]at h;obtain⟨q,t,hq,ht,rfl⟩:=BT h;rw [nM,kq,Array.getElem?_toList]at hx
     cases hoi:ops[i]? with
     |none=>rw [hoi]at hx;cases hx
     |some o=>
      rw [hoi]at hx;injection hx with hx;subst hx
      refine⟨fun j hj=> ?_,fun _ h=>by cases h⟩;rcases List.mem_cons.1 hj with rfl|hj
      ·refine⟨o,m,q,hq,hoi,hd,?_,.here⟩
       rw [kq]at hm;rw [List.getD_eq_getElem?_getD,hm];rfl
      ·obtain⟨o',m',q',h1,h2,h3,h4,h5⟩:=(ih ht).1 j hj
       exact⟨o',m',q',h1,h2,h3,h4,.there h5⟩
theorem AX{P:Program}{ops:Array Oper} :∀(n ls lk:Nat) (listed:Array Bool) (p:cB),o6 ops ls listed→lP P ops.toList (infos ops.toList ops.toList) (iI .any ops) n ls lk=some p→kN ops n p listed lk:=by
 intro n
 induction n with
 |zero=>
  intro ls lk listed p hs h;simp only [lP,mz hs]at h
  split at h
  ·rename_i hr
   injection h with h;subst h
   exact .nil hr
  ·cases h
 |succ n ih=>
  intro ls lk listed p hs h;simp only [lP,mz hs]at h
  split at h
  ·rename_i hr
   injection h with h;subst h
   exact .nil hr
  ·rename_i i0 r hr
   split at h
   ·rename_i i x hp
    obtain⟨h1,h2,h3⟩:=xK hp
    cases hok:okT x lk with
    |false=>rw [hok]at h;cases h
    |true=>
     rw [hok]at h;obtain⟨p',hp',rfl⟩:=BS h;rw [nM,kq,Array.getElem?_toList]at h2
     cases hoi:ops[i]? with
     |none=>rw [hoi]at h2;cases h2
     |some o=>
      rw [hoi]at h2;injection h2 with h2;subst h2
      have hlt:i<ops.size:=(Array.getElem?_eq_some_iff.1 hoi).1;have k1:=ih _ _ _ _ (hs.step hlt) hp';unfold okT at hok
      cases hd:dis (eA ops.toList o).dm lk with
      |false=>rw [hd]at hok;cases hok
      |true=>
       rw [hd]at hok;simp only [cond_true]at hok;refine .take hoi (by rw [hr];exact h1) (fun j oj=>yn hs ops.toList 0 (fun k=>by simp) h3 j oj (Nat.zero_le _)) hd (fun hrd=> ?_) ?_ k1
       ·have hrd':Bp (eA ops.toList o).o.op=true:=hrd
        rw [hrd']at hok;refine⟨hok,?_⟩;unfold seen;rw [hrd'];exact rq _ _
       ·unfold seen
        cases Bp (eA ops.toList o).o.op with
        |true=>exact tf _ _
        |false=>exact uI _
   ·obtain⟨h1,h2⟩:=AY h
    refine .effs (fun i=>(lP P ops.toList (infos ops.toList ops.toList) (iI .any ops) n (Nat.lor ls (bit i)) lk).getD .stop) (by rw [hr];simp) (h2 (by simp)) (fun i hi=> ?_) fun i hi=> ?_
    ·rw [hr]at hi
     obtain⟨o,m,q,k1,k2,k3,k4,k5⟩:=h1 i hi;refine⟨o,m,k2,k3,k4,?_⟩;simp only [k1,Option.getD_some];exact k5
    ·rw [hr]at hi
     obtain⟨o,m,q,k1,k2,_⟩:=h1 i hi;simp only [k1,Option.getD_some];exact ih _ _ _ _ (hs.step (Array.getElem?_eq_some_iff.1 k2).1) k1
def vu:List Oper→Bool
 | []=>true
 |o::os=>bif isSel o.op then false else vu os
theorem xV:∀(l:List Oper),vu l=true→∀o∈l,∀cs b,o.op≠ .select cs b:=by
 intro l
 induction l with
 |nil=>intro _ o h;cases h
 |cons x l ih=>
  intro h o ho cs b he;simp only [vu]at h
  cases hs:isSel x.op with
  |true=>rw [hs]at h;cases h
  |false=>
   rw [hs]at h;rcases List.mem_cons.1 ho with rfl|ho
   ·rw [he]at hs;cases hs
   ·exact ih h o ho cs b he
def xI(P:Program)(ops:Array Oper):Option cB:=
 bif vu ops.toList then lP P ops.toList (infos ops.toList ops.toList) (iI .any ops) ops.toList.length 0 0 else none
theorem AH{P:Program}{ops:Array Oper}{p:cB}(h:xI P ops=some p):kN ops ops.size p (Array.replicate ops.size false) 0∧∀(j:Nat) (o:Oper) cs b,ops[j]? =some o→o.op≠ .select cs b:=by
 unfold xI at h
 cases hs:vu ops.toList with
 |false=>rw [hs]at h;cases h
 |true=>
  rw [hs]at h;have h1:=AX _ _ _ _ _ (o6.start ops) h;exact⟨by simpa using h1,fun j o cs b hj=>xV _ hs o (by simpa using Array.mem_of_getElem? hj) cs b⟩
theorem vR{α:Type} :∀(f:Nat) (t:T α) (i k:Nat) (x:Option α),i+1<2^f→k≠i→(T.nn f t i x).get k=t.get k:=by
 intro f
 induction f with
 |zero=>intro t i k x h;simp at h
 |succ f ih=>
  intro t i k x h hne;have hp:2^(f+1)=2*2^f:=by rw [Nat.pow_succ];omega
  cases t with
  |e=>
   cases i with
   |zero=>
    cases k with
    |zero=>exact absurd rfl hne
    |succ m=>simp only [T.zf,T.nQ,T.dY];cases Nat.beq (m%2) 0<;>rfl
   |succ j=>
    have hj:j/2+1<2^f:=by omega
    simp only [T.tn]
    cases hb:Nat.beq (j%2) 0<;>simp only [cond_true,cond_false]<;>cases k with
    |zero=>simp only [T.D5,T.dY]
    |succ m=>
     simp only [T.nQ,T.dY]
     cases hm:Nat.beq (m%2) 0<;>simp only [cond_true,cond_false]
     all_goals first
      |rfl
      |(rw [ih _ _ _ _ hj (fun e=>hne (by rw [T.pA hb hm e]))];rfl)
  |n l v r=>
   cases i with
   |zero=>
    cases k with
    |zero=>exact absurd rfl hne
    |succ m=>rfl
   |succ j=>
    have hj:j/2+1<2^f:=by omega
    simp only [T.tl]
    cases hb:Nat.beq (j%2) 0<;>simp only [cond_true,cond_false]<;>cases k with
    |zero=>rfl
    |succ m=>
     simp only [T.nQ]
     cases hm:Nat.beq (m%2) 0<;>simp only [cond_true,cond_false]
     all_goals first
      |rfl
      |(rw [ih _ _ _ _ hj (fun e=>hne (by rw [T.pA hb hm e]))])
def zA(h:HS)(op:Op):Bool:=match op with
 | .alloc t=> !h.M.X.al t
 | .box t _=> !h.M.X.al t
 | .makeSlice _ _ _=> !h.M.X.op
 |_=>false
open Classical in
theorem El{P:Program}{call:da}{tm:T SV}{h:HS}{op:Op}{K E:SV→HS→Bool}(hn:zA h op=true)(hk:uh P call tm h op K E=true):
  ∃K':SV→HS→Bool,uh P call tm h op K' E=true∧∀v h',K' v h'=true→K v h'=true∧∃B,h'=h.new B:=by
 have ex:∀ {v:SV} {B:bD},K v (h.new B)=true→(K v (h.new B)&&decide (∃B',h.new B=h.new B'))=true:=fun {v B} hk=>by
  rw [hk,Bool.true_and];exact decide_eq_true ⟨B,rfl⟩
 refine⟨fun v h'=>K v h'&&decide (∃B,h'=h.new B),?_,fun v h' hk=> ?_⟩
 ·unfold zA at hn
  split at hn
  ·simp only [Bool.not_eq_true']at hn
   simp only [uh,rm,hn,cond_false]at hk ⊢
   split at hk
   ·exact absurd hk Bool.false_ne_true
   ·rename_i s hs
    try rw [hs]
    exact ex hk
  ·simp only [Bool.not_eq_true']at hn
   simp only [uh]at hk ⊢
   split at hk
   ·rename_i x hx
    try rw [hx]
    simp only [EL,hn,cond_false]at hk ⊢
    split at hk
    ·exact absurd hk Bool.false_ne_true
    ·rename_i cs hcs
     try rw [hcs]
     exact ex hk
   ·exact absurd hk Bool.false_ne_true
  ·simp only [Bool.not_eq_true']at hn
   simp only [uh]at hk ⊢
   split at hk
   ·rename_i l c hl hc
    try rw [hl,hc]
    simp only [vB,hn,cond_false]at hk ⊢
    split at hk
    ·rename_i s _ li _ ci hs hli hci
     try rw [hs,hli,hci]
     try simp only
     split at hk
     ·rename_i e he
      try rw [he]
      try simp only
      split at hk
      ·rename_i se hse
       try rw [hse]
       try simp only
       cases hb:(decide (0≤li)&&decide (li≤ci)&&decide (ci≤9223372036854775807)&&Nat.ble (se.bytes*ci.toNat) 281474976710656&&Nat.beq se.zero.cells.size se.size)with
       |false=>rw [hb]at hk;exact absurd hk Bool.false_ne_true
       |true=>
        rw [hb]at hk;exact ex hk
      ·exact absurd hk Bool.false_ne_true
     ·exact absurd hk Bool.false_ne_true
    ·exact absurd hk Bool.false_ne_true
   ·exact absurd hk Bool.false_ne_true
  ·cases hn
 ·simp only [Bool.and_eq_true,decide_eq_true_eq]at hk
  exact hk
theorem Bg{P:Program}{h:HS}{t:TypeId}{x v:SV}{B:bD}(hl:iw P h t x=some v)(hlt:∀b B',h.H.get b=some B'→b<h.nx)(hb:h.nx+1<2^32):iw P (h.new B) t x=some v:=by
 obtain⟨H,nx,M⟩:=h;unfold iw at hl ⊢
 split at hl
 ·cases hl
 ·rename_i s hs
  split at hl
  ·rename_i b o
   split at hl
   ·rename_i cs es τ hg
    have hne:b≠nx:=fun e=>by
     have:=hlt b _ hg;have:b<nx:=this;omega
    have:(H.set nx B).get b=H.get b:=vR 32 H nx b (some B) hb hne
    show(match (H.set nx B).get b with
     |some (.cells cs _ _)=>bif TypeDesc.isAgg s.und then(takeN s.size (cs.drop o)).map .agg else cs[o]?
     |_=>none)=some v
    rw [this];have hg:H.get b=some (.cells cs es τ):=hg;rw [hg];exact hl
   ·cases hl
  ·exact hl
  ·cases hl
def isLd(op:Op):Bool:=match op with
 | .load _ _=>true
 |_=>false
def eqO(h:HS)(x y:SV):Bool:=bif h.M.X.op then h.M.D (x=y)else ie x y
theorem Eg{h:HS}{x y:SV}(hk:eqO h x y=true):x=y:=by
 unfold eqO at hk
 cases hop:h.M.X.op with
 |true=>rw [hop]at hk;exact(h.M.X.hD _).1 hk
 |false=>rw [hop]at hk;exact te _ _ hk
def ki(P:Program)(tm:T SV)(h:HS)(tm':T SV)(h':HS):List cY→Bool→Bool
 | [],X=>X
 |p::L,X=>bif isLd p.o.op then qa P tm h p.o.op (fun _=>ki P tm h tm' h' L X)
  else qa P tm' h' p.o.op fun v=>bif eqO h' v p.v then ki P tm h tm' h' L X else false
theorem rB{P:Program}{tm tm':T SV}{h h':HS} :∀ {L:List cY} {X:Bool},ki P tm h tm' h' L X=true→X=true∧∀p∈L,(isLd p.o.op=true∧∃v,dv P tm h p.o.op=some v)∨dv P tm' h' p.o.op=some p.v:=by
 intro L
 induction L with
 |nil=>intro X h;exact⟨h,fun _ h=>by cases h⟩
 |cons p L ih=>
  intro X hx;simp only [ki,mA]at hx
  cases hl:isLd p.o.op with
  |true=>
   rw [hl]at hx;simp only [cond_true]at hx
   split at hx
   ·rename_i v hv
    obtain⟨h1,h2⟩:=ih hx
    exact⟨h1,fun q hq=>by
     rcases List.mem_cons.1 hq with rfl|hq
     ·exact .inl ⟨hl,v,hv⟩
     ·exact h2 q hq⟩
   ·exact absurd hx Bool.false_ne_true
  |false=>
   rw [hl]at hx;simp only [cond_false]at hx
   split at hx
   ·rename_i v hv
    cases he:eqO h' v p.v with
    |false=>rw [he]at hx;exact absurd hx Bool.false_ne_true
    |true=>
     rw [he]at hx;have:=Eg he;obtain⟨h1,h2⟩:=ih hx
     exact⟨h1,fun q hq=>by
      rcases List.mem_cons.1 hq with rfl|hq
      ·right;rw [hv,this]
      ·exact h2 q hq⟩
   ·exact absurd hx Bool.false_ne_true
def vO(tm:T SV)(h:HS)(op:Op):Bool:=match op with
 | .load _ x=>(match opd tm x with
   |some (.v _)=> !h.M.X.op
   |_=>false)
 |_=>false
def kh(P:Program)(tm:T SV)(h:HS)(tm':T SV)(h':HS):List cY→Bool→Bool
 | [],X=>X
 |p::L,X=>bif vO tm h p.o.op then(match dv P tm h p.o.op with
    |some _=>kh P tm h tm' h' L X
    |none=>false)
  else qa P tm' h' p.o.op fun v=>bif eqO h' v p.v then kh P tm h tm' h' L X else false
theorem rA{P:Program}{tm tm':T SV}{h h':HS} :∀ {L:List cY} {X:Bool},kh P tm h tm' h' L X=true→X=true∧∀p∈L,(vO tm h p.o.op=true∧∃v,dv P tm h p.o.op=some v)∨dv P tm' h' p.o.op=some p.v:=by
 intro L
 induction L with
 |nil=>intro X h;exact⟨h,fun _ h=>by cases h⟩
 |cons p L ih=>
  intro X hx;simp only [kh,mA]at hx
  cases hl:vO tm h p.o.op with
  |true=>
   rw [hl]at hx;simp only [cond_true]at hx
   split at hx
   ·rename_i v hv
    obtain⟨h1,h2⟩:=ih hx
    exact⟨h1,fun q hq=>by
     rcases List.mem_cons.1 hq with rfl|hq
     ·exact .inl ⟨hl,v,hv⟩
     ·exact h2 q hq⟩
   ·exact absurd hx Bool.false_ne_true
  |false=>
   rw [hl]at hx;simp only [cond_false]at hx
   split at hx
   ·rename_i v hv
    cases he:eqO h' v p.v with
    |false=>rw [he]at hx;exact absurd hx Bool.false_ne_true
    |true=>
     rw [he]at hx;have:=Eg he;obtain⟨h1,h2⟩:=ih hx
     exact⟨h1,fun q hq=>by
      rcases List.mem_cons.1 hq with rfl|hq
      ·right;rw [hv,this]
      ·exact h2 q hq⟩
   ·exact absurd hx Bool.false_ne_true
theorem AA{P:Program}{tm:T SV}{h:HS}{op:Op}{v:SV}(ho:vO tm h op=true)(hr:dv P tm h op=some v):dv P tm ⟨.e,h.nx,h.M.still⟩ op=some v:=by
 unfold vO at ho
 split at ho
 ·rename_i t x
  split at ho
  ·rename_i y hy
   simp only [Bool.not_eq_true']at ho;simp only [dv,hy]at hr ⊢;unfold iw at hr ⊢
   split at hr
   ·cases hr
   ·rename_i s hs
    split at hr
    ·rename_i b o he;cases he
    ·rw [ho]at hr
     have:(HS.mk .e h.nx h.M.still).M.X.op=false:=ho;rw [this];exact hr
    ·cases hr
  ·cases ho
 ·cases ho
theorem aL.old{ρ ρ':Nat→Loc}{h h':HS}{w':World}(H':aL ρ' h' w')(hm:h.M.le h'.M):aL ρ ⟨.e,h.nx,h.M.still⟩ w' where
 os:=H'.os.trans hm.2.1
 out:=H'.out.trans hm.2.2.1
 tape:=H'.tape.trans hm.2.2.2
 mem:=fun k o hk=>H'.mem k o (hm.1 k o hk)
 blk:=fun b B hb=>by
  have hb:(T.e:T bD).get b=some B:=hb;rw [T.dY]at hb;cases hb
 inj:=fun b b' B B' hb=>by
  have hb:(T.e:T bD).get b=some B:=hb;rw [T.dY]at hb;cases hb
 apart:=fun b B hb=>by
  have hb:(T.e:T bD).get b=some B:=hb;rw [T.dY]at hb;cases hb
 are:=fun k o hk=>by cases hk
 aprA:=fun b B hb=>rfl
 disj:=fun k o hk=>by cases hk
def qL(g:Gd)(tm:T SV)(F:Bool→T SV→Bool):Bool:=match g with
 | .free=>F true tm
 | .bad=>false
 | .on d want=>match tm.get d with
   |some (.v (.bool t))=>bif t then F want (tm.set d (.v (.bool true)))else F (!want) (tm.set d (.v (.bool false)))
   |some (.v (.tuple _))=>F false tm
   |_=>false
theorem gW{ops:Array Oper}{o:Oper}{tm:T SV}{F:Bool→T SV→Bool}(h:qL (guardOf ops.toList o) tm F){ρ:Nat→Loc}{sz nx:Nat}{a:Act}(A:cG dfs ρ tm sz nx a):
  ∃b tm',F b tm'∧cG dfs ρ tm' sz nx a∧Region.wanted o (yielded ops a.tmps)=b:=by
 unfold guardOf at h
 cases hg:o.guard with
 |none=>rw [hg]at h;exact⟨true,tm,h,A,by simp [Region.wanted,hg]⟩
 |some gw=>
  obtain⟨j,want⟩:=gw;rw [hg]at h;simp only [kq,Array.getElem?_toList]at h
  cases hj:ops[j]? with
  |none=>rw [hj]at h;exact absurd h Bool.false_ne_true
  |some x=>
   rw [hj]at h
   cases hx:x.dst with
   |none=>simp only [hx]at h;exact absurd h Bool.false_ne_true
   |some d=>
    simp only [hx,qL]at h
    split at h
    ·rename_i t ht
     obtain⟨_,h2⟩:=A.at_ d _ ht;have hy:yielded ops a.tmps j=some t:=by simp [yielded,hj,hx,h2,SV.den]
     cases t with
     |true=>exact⟨want,_,h,A.same ht rfl trivial,by simp only [Region.wanted,hg,hy];cases want<;>rfl⟩
     |false=>exact⟨!want,_,h,A.same ht rfl trivial,by simp only [Region.wanted,hg,hy];cases want<;>rfl⟩
    ·rename_i vs ht
     obtain⟨_,h2⟩:=A.at_ d _ ht;have hy:yielded ops a.tmps j=none:=by simp [yielded,hj,hx,h2,SV.den]
     exact⟨false,tm,h,A,by simp only [Region.wanted,hg,hy];cases want<;>rfl⟩
    ·exact absurd h Bool.false_ne_true
def wj(m:Nat):List cY→List cY
 | []=> []
 |⟨i,o,v⟩::L=>bif tb m i then wj m L else⟨i,o,v⟩::wj m L
theorem wi(cl:List Nat)(i m:Nat)(hm:m=cl.getD i 0)(L:List cY):wj m L=L.filter fun p=> !behind cl p.i i:=by
 induction L with
 |nil=>rfl
 |cons p L ih=>
  simp only [wj,List.filter_cons,behind,←hm,y7,ih]
  cases m.testBit p.i<;>rfl
def structEq(P:Program):Op→Bool
 | .binOp .eql t _ _ _=>isStruct (ty P t)
 | .binOp .neq t _ _ _=>isStruct (ty P t)
 |_=>false
  where isStruct:Option STy→Bool
 |some s=>match s.und with
  | .struct _=>true
  |_=>false
 |none=>false
def zI(P:Program)(h:HS)(op:Op)(r:Bool)(X Y:Bool):Bool:=bif h.M.X.op&&structEq P op then(bif h.M.D (r=true)then X else Y)else bif r then X else Y
theorem vV{P:Program}{h:HS}{op:Op}{r X Y:Bool}(hk:zI P h op r X Y=true):Y=true∨(r=true∧X=true):=by
 unfold zI at hk
 cases hb:(h.M.X.op&&structEq P op)with
 |true=>
  rw [hb]at hk;simp only [cond_true]at hk
  cases hd:h.M.D (r=true)with
  |true=>rw [hd]at hk;exact .inr ⟨(h.M.X.hD _).1 hd,hk⟩
  |false=>rw [hd]at hk;exact .inl hk
 |false=>
  rw [hb]at hk;simp only [cond_false]at hk
  cases r with
  |true=>exact .inr ⟨rfl,hk⟩
  |false=>exact .inl hk
def uZ(P:Program)(i:Nat)(o:Oper)(sz:Nat)(tm:T SV)(h:HS)(L:List cY)(F:List cY→T SV→Bool):Bool:=
 match Dd P tm o.op with
 |some (r,v)=>zI P h o.op r (dU sz o.dst v (F L) tm) (zV (altF P tm o.op) fun v=>dU sz o.dst v (F L) tm)
 |none=>qa P tm h o.op fun v=>dU sz o.dst v (F (⟨i,o,v⟩::L)) tm
def tB(P:Program)(sz:Nat)(nw:Bool)(dst:Option Tmp)(tm:T SV)(h0:HS)(L:List cY)(F:List cY→T SV→HS→Bool)(v:SV)(h:HS):Bool:=
 rU h fun h=>dU sz dst v (fun tm'=>bif nw then(bif Nat.blt h0.nx 4294967295 then ki P tm h0 tm' h L (F L tm' h)else false)else kh P tm h0 tm' h L (F L tm' h)) tm
def qf(P:Program)(sz i:Nat)(o:Oper)(g:Gd)(F:List cY→T SV→HS→Bool)(L:List cY)(tm:T SV)(h:HS):Bool:=qL g tm fun run tm=>
 bif run then uZ P i o sz tm h L (fun L tm=>F L tm h)else dU sz o.dst fQ (fun tm=>F L tm h) tm
def pncK(E:SV→T SV→HS→Bool)(tm:T SV)(x:SV)(h:HS):Bool:=rU h fun h=>rT x fun x=>E x tm h
theorem tA(E:SV→T SV→HS→Bool)(tm:T SV)(x:SV)(h:HS):pncK E tm x h=E x tm h:=by unfold pncK;rw [kc,uQ]
def nu(P:Program)(call:da)(sz:Nat)(E:SV→T SV→HS→Bool)(o:Oper)(g:Gd)(m:Nat)(F:List cY→T SV→HS→Bool)(L:List cY)(tm:T SV)(h:HS):Bool:=qL g tm fun run tm=>
 bif run then effF P call tm h o.op (tB P sz (zA h o.op) o.dst tm h (wj m L) F) (pncK E tm)else dU sz o.dst fQ (fun tm=>F L tm h) tm
def orElse(p:cB)(A B:Bool):Bool:=match p with
 | .stop=>A
 |_=>bif A then B else false
def eH(P:Program)(call:da)(sz:Nat)(K:T SV→HS→Bool)(E:SV→T SV→HS→Bool)(pl:cB):List cY→T SV→HS→Bool:=
 cB.rec (motive:=fun _=>List cY→T SV→HS→Bool) (fun _ tm h=>K tm h) (fun _ _ _=>false) (fun i o g _ ih L tm h=>qf P sz i o g ih L tm h)
  (fun _ o g m _ a ih ia L tm h=>orElse a (nu P call sz E o g m ih L tm h) (ia L tm h)) pl
theorem uG(P:Program)(call:da)(sz:Nat)(K:T SV→HS→Bool)(E:SV→T SV→HS→Bool)(i:Nat)(o:Oper)(g:Gd)(r:cB)(L:List cY)(tm:T SV)(h:HS):
 eH P call sz K E (.take i o g r) L tm h=qf P sz i o g (eH P call sz K E r) L tm h:=rfl
theorem pQ(P:Program)(call:da)(sz:Nat)(K:T SV→HS→Bool)(E:SV→T SV→HS→Bool)(i:Nat)(o:Oper)(g:Gd)(m:Nat)(q a:cB)(L:List cY)(tm:T SV)(h:HS):
 eH P call sz K E (.eff i o g m q a) L tm h=orElse a (nu P call sz E o g m (eH P call sz K E q) L tm h) (eH P call sz K E a L tm h):=rfl
theorem xa{P:Program}{call:da}{sz:Nat}{K:T SV→HS→Bool}{E:SV→T SV→HS→Bool}{L:List cY}{tm:T SV}{h:HS}{p q:cB}{i m:Nat}{o:Oper}{g:Gd}(ha:Alt p i o g m q):
  eH P call sz K E p L tm h→nu P call sz E o g m (eH P call sz K E q) L tm h:=by
 induction ha with
 | @here i o g m q a=>
   intro hk;rw [pQ]at hk;unfold orElse at hk
   split at hk
   ·exact hk
   ·revert hk
    cases nu P call sz E o g m (eH P call sz K E q) L tm h with
    |true=>intro _;rfl
    |false=>intro hk;exact hk
 | @there i i' o o' g g' m m' q q' a ha ih=>
   intro hk;rw [pQ]at hk;unfold orElse at hk
   split at hk
   ·cases ha
   ·revert hk
    cases nu P call sz E o' g' m' (eH P call sz K E q') L tm h with
    |true=>intro hk;exact ih hk
    |false=>intro hk;exact absurd hk Bool.false_ne_true
theorem jv{ops:Array Oper}{L:List cY}{lk:Nat}(hL:∀p∈L,sub (jL ops.toList p.o) lk=true){o:Oper}(hd:dis (rK o.dst) lk=true):jw ops L o=true:=by
 unfold jw
 cases ho:o.dst with
 |none=>rfl
 |some d=>
  simp only [List.all_eq_true,Bool.not_eq_true'];intro p hp;have h1:=qW hd (i:=d) (lg.2 ho)
  cases hc:(p.o.looksAt ops).contains d with
  |false=>rfl
  |true=>
   have h2:=(lQ ops p.o d).2 (by simpa using hc);have:=im.1 (hL p hp) d h2;rw [h1]at this;cases this
theorem rP{P:Program}{call:da}(CS:eu P call){sz:Nat}{ops:Array Oper}{K:T SV→HS→Bool}{E:SV→T SV→HS→Bool}{Q:Exit→Act→World→Prop}(hsel':∀(j:Nat) (o:Oper) cs b,ops[j]? =some o→o.op≠ .select cs b)
  (hQ:∀(j:Nat) (o:Oper),ops[j]? =some o→∀v c a w,Q (.panic c) (a.put o.dst v) w→Q (.panic c) a w):∀(fuel:Nat) (pl:cB) (listed:Array Bool) (lk:Nat) (L:List cY) {tm:T SV} {h:HS},kN ops fuel pl listed lk→(∀p∈L,sub (jL ops.toList p.o) lk=true)→eH P call sz K E pl L tm h→
  ∀ {ρ:Nat→Loc} {a:Act} {w:World} (Hs:List o7),cG dfs ρ tm sz h.nx a→aL ρ h w→Down .any ops listed→(∀D∈Hs,D.inv w∧∃p∈L,∃ε u,Fits P (iI .any ops) ρ h.nx a p D ε u)→
  (∀a' w',jI dfs ρ h sz K a' w'→Q .normal a' w')→(∀c a' w',jO dfs ρ h sz E c a' w'→Q (.panic c) a' w')→fu P .any ops Q fuel Hs listed a w:=by
 classical
 have fin:∀(fuel:Nat) (listed:Array Bool) (L:List cY) {tm:T SV} {h:HS},Region.ready .any ops listed= []→K tm h→
   ∀ {ρ:Nat→Loc} {a:Act} {w:World} (Hs:List o7),cG dfs ρ tm sz h.nx a→aL ρ h w→(∀D∈Hs,D.inv w∧∃p∈L,∃ε u,Fits P (iI .any ops) ρ h.nx a p D ε u)→
   (∀a' w',jI dfs ρ h sz K a' w'→Q .normal a' w')→fu P .any ops Q fuel Hs listed a w:=by
  intro fuel listed L tm h hr hk ρ a w Hs A H hHs hn;have hn':Q .normal a w:=hn a w ⟨tm,h,ρ,hk,A,H,Ext.refl _ _,Nat.le_refl _,Mem.le_refl _⟩
  cases fuel with
  |zero=>exact⟨fun p hp=>(hHs p hp).1,hr,hn'⟩
  |succ fuel=>exact⟨fun p hp=>(hHs p hp).1,fun _=>hn',by rw [hr];simp⟩
 intro fuel
 induction fuel with
 |zero=>
  intro pl listed lk L tm h hpl _ hk ρ a w Hs A H hd hHs hn hp
  cases hpl with
  |nil hr=>exact fin 0 listed L hr hk Hs A H hHs hn
 |succ fuel ih=>
  intro pl listed lk L tm h hpl hLk hk ρ a w Hs A H hd hHs hn hp
  cases hpl with
  |nil hr=>exact fin _ listed L hr hk Hs A H hHs hn
  | @take _ i o _ _ lk' r ho hready hfree hdl hrdl hsub hrest=>
    rw [uG]at hk;unfold qf at hk;obtain⟨run,tm1,hk,A1,hw⟩:=gW hk A;have hnc:jw ops L o=true:=jv hLk hdl;have hLk':∀p∈L,sub (jL ops.toList p.o) lk'=true:=fun p hp=>im.2 fun d hd=>im.1 hsub d (im.1 (hLk p hp) d hd)
    have take:∀(D:o7) (v:SV) (L':List cY),(∀p∈L',sub (jL ops.toList p.o) lk'=true)→er P ops D.inv o (v.den ρ) a→v.lt ρ h.nx→
      (∀(listed:Array Bool) (j:Nat),Down .any ops listed→j∈Region.ready .any ops listed→listed.getD i true=false→D.dep j=false)→
      dU sz o.dst v (fun tm=>eH P call sz K E r L' tm h) tm1→
      (∀D'∈D::Hs,D'.inv w∧(D'=⟨fun _=>false,fun _=>True⟩∨∃p∈L',∃ε u,Fits P (iI .any ops) ρ h.nx (a.put o.dst (v.den ρ)) p D' ε u))→
      fu P .any ops Q (fuel+1) Hs listed a w:=by
     intro D v L' hL' hy hv hdep hset hall;obtain⟨tm2,hk2,A2⟩:=cD hset A1 hv;refine tc (D:=D) ho hsel' (fun c a w hq=>hQ i o ho _ c a w hq) hdep fuel Hs listed a w hd hfree hready hy ?_
     have key:=ih r (listed.setIfInBounds i true) lk' L' hrest hL' hk2 ((D::Hs).filter fun D'=>decide (∃p∈L',∃ε u,Fits P (iI .any ops) ρ h.nx (a.put o.dst (v.den ρ)) p D' ε u)) A2 H (hd.step hready) (fun D' hD'=>by
      obtain⟨h1,h2⟩:=List.mem_filter.1 hD'
      exact⟨(hall D' h1).1,of_decide_eq_true h2⟩) hn hp
     have add:∀(fuel:Nat) (L1 L2:List o7) (listed:Array Bool) (a:Act) (w:World),(∀p∈L2,p∈L1∨p=⟨fun _=>false,fun _=>True⟩)→fu P .any ops Q fuel L1 listed a w→fu P .any ops Q fuel L2 listed a w:=by
      intro fuel
      induction fuel with
      |zero=>intro L1 L2 listed a w hs h;exact⟨fun p hp=>(hs p hp).elim (h.1 p) (fun e=>by subst e;trivial),h.2⟩
      |succ fuel ih=>
       intro L1 L2 listed a w hs h;refine⟨fun p hp=>(hs p hp).elim (h.1 p) (fun e=>by subst e;trivial),h.2.1,fun k hk=>wpOp_mono (fun a w h'=>ih _ _ _ a w (fun p hp=> ?_) h') (h.2.2 k hk)⟩;rw [List.mem_filter]at hp;rcases hs p hp.1 with h'|h'
       ·exact .inl (List.mem_filter.2 ⟨h',hp.2⟩)
       ·exact .inr h'
     refine add _ _ _ _ _ _ (fun p hp=> ?_) key;rcases(hall p hp).2 with h'|h'
     ·exact .inr h'
     ·exact .inl (List.mem_filter.2 ⟨hp,decide_eq_true h'⟩)
    have old:∀(v:SV),∀D'∈Hs,D'.inv w∧∃p∈L,∃ε u,Fits P (iI .any ops) ρ h.nx (a.put o.dst (v.den ρ)) p D' ε u:=fun v D' hD'=>by
     obtain⟨h1,p,hp,ε,u,F⟩:=hHs D' hD';exact⟨h1,p,hp,ε,u,F.eq,(ek hnc hp F.sel a _).trans F.same,F.val,F.lt,F.sel⟩
    cases run with
    |true=>
     simp only [cond_true,uZ,uY,mA]at hk
     split at hk
     ·rename_i rb v hp
      cases vV hk with
      |inl hk=>
       obtain⟨va,vb,hab,ha,hb⟩:=wF hk;obtain⟨z,hz,hlt,hrun⟩:=wP hab A1 o rfl;have hk:dU sz o.dst z (fun tm=>eH P call sz K E r L tm h) tm1=true:=by rcases hz with rfl|rfl<;>assumption
       refine take ⟨fun _=>false,fun _=>True⟩ z L hLk' (.inl ⟨hw,fun w' _=>hrun w'⟩) hlt (fun _ _ _ _ _=>rfl) hk fun D' hD'=> ?_
       rcases List.mem_cons.1 hD' with rfl|hD'
       ·exact⟨trivial,.inl rfl⟩
       ·exact⟨(old z D' hD').1,.inr (old z D' hD').2⟩
      |inr hg=>
       obtain⟨hr1,hg⟩:=hg;clear hk;have hk:=hg;subst hr1;have hlt:=(nt hp rfl A1 o rfl w).2;refine take ⟨fun _=>false,fun _=>True⟩ v L hLk' (.inl ⟨hw,fun w' _=>(nt hp rfl A1 o rfl w').1⟩) hlt (fun _ _ _ _ _=>rfl) hk fun D' hD'=> ?_
       rcases List.mem_cons.1 hD' with rfl|hD'
       ·exact⟨trivial,.inl rfl⟩
       ·exact⟨(old v D' hD').1,.inr (old v D' hD').2⟩
     ·split at hk
      ·rename_i v hp
       obtain⟨hself,hlk'⟩:=hrdl (xx hp)
       have hnc2:jw ops [⟨i,o,v⟩] o=true:=jv (lk:=jL ops.toList o) (fun p hp=>by
        have:p=⟨i,o,v⟩:=by simpa using hp
        subst this;exact uI _) hself
       obtain⟨hrun,hlt⟩:=eM hp A1 H o rfl
       refine take (E0 P (iI .any ops) ⟨i,o,v⟩ a.eval (v.den ρ)) v (⟨i,o,v⟩::L) (fun p hp=>by
        rcases List.mem_cons.1 hp with rfl|hp
        ·exact hlk'
        ·exact hLk' p hp) (.inl ⟨hw,fun w' hw'=>hw'⟩) hlt (fun listed j hd hj hi=>yA hd hi hj) hk fun D' hD'=> ?_
       rcases List.mem_cons.1 hD' with rfl|hD'
       ·exact⟨hrun,.inr ⟨_,List.mem_cons_self,a.eval,v.den ρ,rfl,ek hnc2 List.mem_cons_self (kj hp) a _,rfl,hlt,kj hp⟩⟩
       ·obtain⟨h1,p,hp,ε,u,F⟩:=old v D' hD'
        exact⟨h1,.inr ⟨p,List.mem_cons_of_mem _ hp,ε,u,F⟩⟩
      ·exact absurd hk Bool.false_ne_true
    |false=>
     simp only [cond_false]at hk;refine take ⟨fun _=>false,fun _=>True⟩ fQ L hLk' (.inr ⟨hw,rfl⟩) trivial (fun _ _ _ _ _=>rfl) hk fun D' hD'=> ?_
     rcases List.mem_cons.1 hD' with rfl|hD'
     ·exact⟨trivial,.inl rfl⟩
     ·exact⟨(old fQ D' hD').1,.inr (old fQ D' hD').2⟩
  |effs q hr _ halt hrests=>
   refine⟨fun p hp=>(hHs p hp).1,fun h0=>absurd h0 hr,fun j hj=> ?_⟩;obtain⟨o,m,ho,hdl,hm,hA⟩:=halt j hj;have hrest:=hrests j hj;have hk:=xa hA hk;unfold nu at hk;obtain⟨run,tm1,hk,A1,hw⟩:=gW hk A;have hnc:jw ops L o=true:=jv hLk hdl;have hready:=hj;unfold wpOp;simp only [ho,hw]
   cases run with
   |true=>
    simp only [cond_true,zR]at hk;simp only [if_true]
    have rest:∀(z:SV) (h':HS) (ρ':Nat→Loc) (w':World) (tm2:T SV),z.lt ρ' h'.nx→aL ρ' h' w'→Ext ρ ρ' h.nx→h.nx≤h'.nx→h.M.le h'.M→cG dfs ρ' tm2 sz h'.nx (a.put o.dst (z.den ρ'))→
      eH P call sz K E (q j) (L.filter fun p=> !behind (iI .any ops) p.i j) tm2 h'=true→
      (∀p∈L.filter (fun p=> !behind (iI .any ops) p.i j),∀ε u,(execOp ε p.o).run P w= .ok (.value u) w→execOp a.eval p.o=execOp ε p.o→u=p.v.den ρ→p.v.lt ρ h.nx→(∀cs b,p.o.op≠ .select cs b)→p∈L→(execOp ε p.o).run P w'= .ok (.value u) w')→
      fu P .any ops Q fuel (Hs.filter fun p=> !p.dep j) (listed.setIfInBounds j true) (a.put o.dst (z.den ρ')) w':=by
     intro z h' ρ' w' tm2 hlt H' hx hnx hm' A2 hk3 hre;refine ih (q j) (listed.setIfInBounds j true) lk _ hrest (fun p hp=>hLk p (List.mem_filter.1 hp).1) hk3 (Hs.filter fun p=> !p.dep j) A2 H' (hd.step hready) (fun D hD=> ?_) (fun a3 w3 g3=>hn a3 w3 (g3.trans hx hnx hm')) fun c a3 w3 g3=>hp c a3 w3 (g3.trans hx hnx hm')
     obtain⟨hD1,hD2⟩:=List.mem_filter.1 hD;obtain⟨hinv,p,hp,ε,u,F⟩:=hHs D hD1
     have hpL:p∈L.filter fun p=> !behind (iI .any ops) p.i j:=by
      refine List.mem_filter.2 ⟨hp,?_⟩;rw [F.eq]at hD2;exact hD2
     have hsame:execOp (a.put o.dst (z.den ρ')).eval p.o=execOp ε p.o:=(ek hnc hp F.sel a _).trans F.same;have hval:u=p.v.den ρ':=by rw [F.val,SV.dN hx _ F.lt]
     refine⟨?_,p,hpL,ε,u,F.eq,hsame,hval,SV.eK hx hnx _ F.lt,F.sel⟩;rw [F.eq]at hinv ⊢;exact hre p hpL ε u hinv F.same F.val F.lt F.sel hp
    cases hnew:zA h o.op with
    |false=>
     rw [hnew]at hk;refine .inl (ug CS hk A1 H o rfl (fun v w' ⟨z,h',ρ',hz,hv,hlt,H',hx,hnx,hm'⟩=> ?_) fun v w' ⟨z,h',ρ',hz,hv,hlt,H',hx,hnx,hm'⟩=>hp _ _ _ ⟨z,tm1,h',ρ',by rw [hv],hlt,by rw [tA]at hz;exact hz,A1.ext hx hnx,H',hx,hnx,hm'⟩);subst hv;simp only [tB,kc,cond_false]at hz;obtain⟨tm2,hk2,A2⟩:=cD hz (A1.ext hx hnx) hlt;simp only [wi _ j m hm L]at hk2;obtain⟨hk3,hre⟩:=rA hk2;refine rest z h' ρ' w' tm2 hlt H' hx hnx hm' A2 hk3 fun p hpL ε u hrun0 hs hu hl hsel hp=> ?_
     rcases hre p hpL with⟨hold,v0,hv0⟩|hv0
     ·obtain⟨r1,r2⟩:=eM hv0 A1 H p.o rfl
      rw [hs,hrun0]at r1;have hu0:u=v0.den ρ:=by injection r1 with r1;injection r1
      obtain⟨r3,_⟩:=eM (AA hold hv0) (h:=⟨.e,h.nx,h.M.still⟩) A1 (aL.old (ρ:=ρ) H' hm') p.o rfl;rw [←hs,r3,hu0]
     ·have hsame:execOp (a.put o.dst (z.den ρ')).eval p.o=execOp ε p.o:=(ek hnc hp hsel a _).trans hs
      obtain⟨hrun,_⟩:=eM hv0 A2 H' p.o rfl;rw [←hsame,hrun,hu,SV.dN hx _ hl]
    |true=>
     rw [hnew]at hk;obtain⟨K',hk,hK'⟩:=El hnew hk;refine .inl (ug CS hk A1 H o rfl (fun v w' ⟨z,h',ρ',hz,hv,hlt,H',hx,hnx,hm'⟩=> ?_) fun v w' ⟨z,h',ρ',hz,hv,hlt,H',hx,hnx,hm'⟩=>hp _ _ _ ⟨z,tm1,h',ρ',by rw [hv],hlt,by rw [tA]at hz;exact hz,A1.ext hx hnx,H',hx,hnx,hm'⟩);subst hv;obtain⟨hz,B,hB⟩:=hK' z h' hz;simp only [tB,kc,cond_true]at hz;obtain⟨tm2,hk2,A2⟩:=cD hz (A1.ext hx hnx) hlt
     cases hblt:Nat.blt h.nx 4294967295 with
     |false=>rw [hblt]at hk2;exact absurd hk2 Bool.false_ne_true
     |true=>
      rw [hblt]at hk2
      have hb32:h.nx+1<2^32:=by
       have:=Nat.le_of_ble_eq_true hblt;have:h.nx<4294967295:=this;have h32:(2^32:Nat)=4294967296:=by decide
       omega
      simp only [cond_true,wi _ j m hm L]at hk2;obtain⟨hk3,hre⟩:=rB hk2;refine rest z h' ρ' w' tm2 hlt H' hx hnx hm' A2 hk3 fun p hpL ε u hrun0 hs hu hl hsel hp=> ?_
      rcases hre p hpL with⟨hld,v0,hv0⟩|hv0
      ·obtain⟨r1,r2⟩:=eM hv0 A1 H p.o rfl
       rw [hs,hrun0]at r1;have hu0:u=v0.den ρ:=by injection r1 with r1;injection r1
       have hv1:dv P tm1 h' p.o.op=some v0:=by
        unfold isLd at hld
        split at hld
        ·rename_i t x hop
         rw [hop]at hv0 ⊢;simp only [dv]at hv0 ⊢
         split at hv0
         ·rename_i y hy
          try rw [hy]
          rw [hB];exact Bg hv0 (fun b B' hg=>(H.blk b B' hg).1) hb32
         ·cases hv0
        ·cases hld
       obtain⟨r3,_⟩:=eM hv1 (A1.ext hx hnx) H' p.o rfl;rw [←hs,r3,hu0,SV.dN hx _ r2]
      ·have hsame:execOp (a.put o.dst (z.den ρ')).eval p.o=execOp ε p.o:=(ek hnc hp hsel a _).trans hs
       obtain⟨hrun,_⟩:=eM hv0 A2 H' p.o rfl;rw [←hsame,hrun,hu,SV.dN hx _ hl]
   |false=>
    simp only [cond_false]at hk;simp only [Bool.false_eq_true,if_false];obtain⟨tm2,hk2,A2⟩:=cD (v:=fQ) hk A1 trivial;refine ih (q j) (listed.setIfInBounds j true) lk L hrest hLk hk2 (Hs.filter fun p=> !p.dep j) A2 H (hd.step hready) (fun D hD=> ?_) hn hp;obtain⟨hD1,hD2⟩:=List.mem_filter.1 hD;obtain⟨h1,p,hp',ε,u,F⟩:=hHs D hD1;exact⟨h1,p,hp',ε,u,F.eq,(ek hnc hp' F.sel a _).trans F.same,F.val,F.lt,F.sel⟩
def fxOp(P:Program)(call:da)(sz:Nat)(E:SV→T SV→HS→Bool)(o:Oper)(K:T SV→HS→Bool)(tm:T SV)(h:HS):Bool:=
 bif Em P o.op then effF P call tm h o.op (fun v h'=>rU h' fun h'=>dU sz o.dst v (fun tm=>K tm h') tm) (pncK E tm)
 else match Dd P tm o.op with
 |some (r,v)=>zI P h o.op r (dU sz o.dst v (fun tm=>K tm h) tm) (zV (altF P tm o.op) fun v=>dU sz o.dst v (fun tm=>K tm h) tm)
 |none=>qa P tm h o.op fun v=>dU sz o.dst v (fun tm=>K tm h) tm
theorem tY{P:Program}{call:da}(CS:eu P call){sz:Nat}{E:SV→T SV→HS→Bool}{o:Oper}{K:T SV→HS→Bool}{tm:T SV}{h:HS}(hk:fxOp P call sz E o K tm h){ρ:Nat→Loc}{a:Act}{w:World}
  (A:cG dfs ρ tm sz h.nx a) (H:aL ρ h w) {next:Act→World→Prop} {Q:Exit→Act→World→Prop} (hn:∀a' w',jI dfs ρ h sz K a' w'→next a' w') (hp:∀c a' w',jO dfs ρ h sz E c a' w'→Q (.panic c) a' w'):o.wp P a w next Q:=by
 unfold fxOp at hk
 cases he:Em P o.op with
 |true=>
  rw [he]at hk;simp only [cond_true,zR]at hk;refine ug CS hk A H o rfl (fun v w' ⟨z,h',ρ',hz,hv,hlt,H',hx,hnx,hm⟩=> ?_) fun v w' ⟨z,h',ρ',hz,hv,hlt,H',hx,hnx,hm⟩=>hp _ _ _ ⟨z,tm,h',ρ',by rw [hv],hlt,by rw [tA]at hz;exact hz,A.ext hx hnx,H',hx,hnx,hm⟩
  subst hv;simp only [kc]at hz;obtain⟨tm',hk',A'⟩:=cD hz (A.ext hx hnx) hlt;exact hn _ _ ⟨tm',h',ρ',hk',A',H',hx,hnx,hm⟩
 |false=>
  rw [he]at hk;simp only [cond_false,uY,mA]at hk
  split at hk
  ·rename_i r v hp
   cases vV hk with
   |inl hk=>
    obtain⟨va,vb,hab,ha,hb⟩:=wF hk;obtain⟨z,hz,hlt,hrun⟩:=wP hab A o rfl;have hk:dU sz o.dst z (fun tm=>K tm h) tm=true:=by rcases hz with rfl|rfl<;>assumption
    obtain⟨tm',hk',A'⟩:=cD hk A hlt;unfold Oper.wp;rw [hrun w,Oper.upon_value];exact hn _ _ ⟨tm',h,ρ,hk',A',H,Ext.refl _ _,Nat.le_refl _,Mem.le_refl _⟩
   |inr hg=>
    obtain⟨hr1,hg⟩:=hg;clear hk;have hk:=hg;subst hr1;obtain⟨h1,h2⟩:=nt hp rfl A o rfl w;obtain⟨tm',hk',A'⟩:=cD hk A h2;unfold Oper.wp;rw [h1,Oper.upon_value];exact hn _ _ ⟨tm',h,ρ,hk',A',H,Ext.refl _ _,Nat.le_refl _,Mem.le_refl _⟩
  ·split at hk
   ·rename_i v hr
    obtain⟨h1,h2⟩:=eM hr A H o rfl;obtain⟨tm',hk',A'⟩:=cD hk A h2;unfold Oper.wp;rw [h1,Oper.upon_value];exact hn _ _ ⟨tm',h,ρ,hk',A',H,Ext.refl _ _,Nat.le_refl _,Mem.le_refl _⟩
   ·exact absurd hk Bool.false_ne_true
def D8(P:Program)(call:da)(sz:Nat)(E:SV→T SV→HS→Bool)(g:Gd)(o:Oper)(F:T SV→HS→Bool)(tm:T SV)(h:HS):Bool:=qL g tm fun run tm=>
 bif run then fxOp P call sz E o F tm h else dU sz o.dst fQ (fun tm=>F tm h) tm
def lF(P:Program)(call:da)(sz:Nat)(E:SV→T SV→HS→Bool)(ol:List Oper)(K:T SV→HS→Bool)(os:List Oper):T SV→HS→Bool:=
 List.rec (motive:=fun _=>T SV→HS→Bool) K (fun o _ ih tm h=>D8 P call sz E (guardOf ol o) o ih tm h) os
theorem lS(P:Program)(call:da)(sz:Nat)(E:SV→T SV→HS→Bool)(ol:List Oper)(K:T SV→HS→Bool)(o:Oper)(os:List Oper)(tm:T SV)(h:HS):
 lF P call sz E ol K (o::os) tm h=D8 P call sz E (guardOf ol o) o (lF P call sz E ol K os) tm h:=rfl
theorem vW{P:Program}{call:da}(CS:eu P call){sz:Nat}{ops:Array Oper}{K:T SV→HS→Bool}{E:SV→T SV→HS→Bool}{Q:Exit→Act→World→Prop} :∀(l:List Nat) (os:List Oper),l.map (fun i=>ops[i]?)=os.map some→
  ∀ {tm:T SV} {h:HS},lF P call sz E ops.toList K os tm h→∀ {ρ:Nat→Loc} {a:Act} {w:World},cG dfs ρ tm sz h.nx a→aL ρ h w→(∀a' w',jI dfs ρ h sz K a' w'→Q .normal a' w')→(∀c a' w',jO dfs ρ h sz E c a' w'→Q (.panic c) a' w')→wpOps P ops Q l a w:=by
 intro l
 induction l with
 |nil=>
  intro os hos tm h hk ρ a w A H hn hp
  cases os with
  |nil=>exact hn a w ⟨tm,h,ρ,hk,A,H,Ext.refl _ _,Nat.le_refl _,Mem.le_refl _⟩
  |cons o os=>simp at hos
 |cons i l ih=>
  intro os hos tm h hk ρ a w A H hn hp
  cases os with
  |nil=>simp at hos
  |cons o os=>
   simp only [List.map_cons,List.cons.injEq]at hos;obtain⟨hi,hos⟩:=hos;simp only [wpOps,hi];rw [lS]at hk;obtain⟨b,tm',hk',A',hw⟩:=gW hk A;rw [hw]
   cases b with
   |true=>
    simp only [if_true];refine .inl (tY CS hk' A' H (fun a' w' g=> ?_) hp);obtain⟨tm2,h2,ρ2,k2,A2,H2,x2,n2,m2⟩:=g;exact ih os hos k2 A2 H2 (fun a3 w3 g3=>hn a3 w3 (g3.trans x2 n2 m2)) fun c a3 w3 g3=>hp c a3 w3 (g3.trans x2 n2 m2)
   |false=>
    simp only [Bool.false_eq_true,if_false];simp only [cond_false]at hk';obtain⟨tm2,k2,A2⟩:=cD (v:=fQ) hk' A' trivial;exact ih os hos k2 A2 H hn hp
end
end Go.Sx
namespace Go.Sx
noncomputable section
variable {dfs : List Deferred}
def EI(b:UInt8)(k:UInt8→Bool):Bool:=dP b.toNat fun n=>k (UInt8.ofNat n)
theorem EH(b:UInt8)(k:UInt8→Bool):EI b k=k b:=by simp [EI,bV]
def uv:List UInt8→(List UInt8→Bool)→Bool
 | [],k=>k []
 |b::l,k=>EI b fun b=>uv l fun l=>k (b::l)
theorem sQ:∀(l:List UInt8) (k:List UInt8→Bool),uv l k=k l
 | [],_=>rfl
 |b::l,k=>by rw [uv,EH,sQ l]
def qy:List Nat→(List Nat→Bool)→Bool
 | [],k=>k []
 |b::l,k=>dP b fun b=>qy l fun l=>k (b::l)
theorem kr:∀(l:List Nat) (k:List Nat→Bool),qy l k=k l
 | [],_=>rfl
 |b::l,k=>by rw [qy,bV,kr l]
def rr{α:Type}(f:Nat):T α→Nat→α→(T α→Bool)→Bool:=
 Nat.rec (motive:=fun _=>T α→Nat→α→(T α→Bool)→Bool) (fun _ _ _ k=>k .e)
  (fun _ ih t i x k=>T.rec (motive:=fun _=>Bool)
    (Nat.rec (motive:=fun _=>Bool) (k (.n .e (some x) .e)) (fun j _=>Bool.rec (motive:=fun _=>Bool) (ih .e (Nat.div j 2) x fun r=>k (.n .e none r)) (ih .e (Nat.div j 2) x fun l=>k (.n l none .e)) (Nat.beq (Nat.mod j 2) 0)) i)
    (fun l v r _ _=>Nat.rec (motive:=fun _=>Bool) (k (.n l (some x) r)) (fun j _=>Bool.rec (motive:=fun _=>Bool) (ih r (Nat.div j 2) x fun r=>k (.n l v r)) (ih l (Nat.div j 2) x fun l=>k (.n l v r)) (Nat.beq (Nat.mod j 2) 0)) i) t) f
theorem ph{α:Type} :∀(f:Nat) (t:T α) (i:Nat) (x:α) (k:T α→Bool),rr f t i x k=k (T.nn f t i (some x)):=by
 intro f
 induction f with
 |zero=>intro t i x k;rfl
 |succ f ih=>
  intro t i x k
  cases t with
  |e=>cases i with
   |zero=>rfl
   |succ j=>
    rw [T.tn];show Bool.rec (motive:=fun _=>Bool) (rr f .e (j/2) x fun r=>k (.n .e none r)) (rr f .e (j/2) x fun l=>k (.n l none .e)) (Nat.beq (j%2) 0)=_
    rw [ih,ih]
    cases Nat.beq (j%2) 0<;>rfl
  |n l v r=>cases i with
   |zero=>rfl
   |succ j=>
    rw [T.tl];show Bool.rec (motive:=fun _=>Bool) (rr f r (j/2) x fun r=>k (.n l v r)) (rr f l (j/2) x fun l=>k (.n l v r)) (Nat.beq (j%2) 0)=_
    rw [ih,ih]
    cases Nat.beq (j%2) 0<;>rfl
def posN(b:Nat):List Nat→Nat→Option Nat
 | [],_=>none
 |x::xs,i=>bif Nat.beq x b then some i else posN b xs (Nat.succ i)
theorem AF(b:Nat):∀(l:List Nat) (i k:Nat),posN b l i=some k→i≤k∧l[k-i]? =some b:=by
 intro l
 induction l with
 |nil=>intro i k h;cases h
 |cons x xs ih=>
  intro i k h;simp only [posN]at h
  cases hb:Nat.beq x b with
  |true=>
   rw [hb]at h;injection h with h;subst h
   have:=Nat.eq_of_beq_eq_true hb;subst this;exact⟨Nat.le_refl _,by simp⟩
  |false=>
   rw [hb]at h;obtain⟨h1,h2⟩:=ih _ _ h;refine⟨Nat.le_of_succ_le h1,?_⟩;rw [show k-i=(k-(i+1))+1 by omega,List.getElem?_cons_succ];exact h2
def ixN(n0:Nat)(L:List Nat)(b:Nat):Option Nat:=bif Nat.blt b n0 then some b else posN b L n0
def di(n0:Nat)(L:List Nat)(k:Nat):Nat:=if k<n0 then k else L.getD (k-n0) 0
theorem eC{n0:Nat}{L:List Nat}{b k:Nat}(h:ixN n0 L b=some k):di n0 L k=b∧k<n0+L.length:=by
 unfold ixN at h;unfold di
 cases hb:Nat.blt b n0 with
 |true=>
  rw [hb]at h;injection h with h;subst h
  have:b<n0:=Nat.le_of_ble_eq_true hb;exact⟨by rw [if_pos this],by omega⟩
 |false=>
  rw [hb]at h;obtain⟨h1,h2⟩:=AF b L n0 k h;rw [if_neg (by omega),List.getD_eq_getElem?_getD,h2];have:=(List.getElem?_eq_some_iff.1 h2).1;exact⟨rfl,by omega⟩
def rz(n0:Nat)(L:List Nat):cJ→Option cJ
 | .lit c=>some (.lit c)
 | .sub b d=>match ixN n0 L b with
   |some b=>some (.sub b d)
   |none=>none
mutual
def dH(n0:Nat)(L:List Nat):SV→Option SV
 | .v x=>some (.v x)
 | .str l=>some (.str l)
 | .ptr b o=>match ixN n0 L b with
   |some b=>some (.ptr b o)
   |none=>none
 | .slc b o l c=>match ixN n0 L b,rz n0 L c with
   |some b,some c=>some (.slc b o l c)
   |_,_=>none
 | .mp b=>match ixN n0 L b with
   |some b=>some (.mp b)
   |none=>none
 | .agg cs=>match fo n0 L cs with
   |some cs=>some (.agg cs)
   |none=>none
 | .tup cs=>match fo n0 L cs with
   |some cs=>some (.tup cs)
   |none=>none
 | .ifc t x=>match dH n0 L x with
   |some x=>some (.ifc t x)
   |none=>none
 | .fn f cs=>match fo n0 L cs with
   |some cs=>some (.fn f cs)
   |none=>none
def fo(n0:Nat)(L:List Nat):List SV→Option (List SV)
 | []=>some []
 |x::xs=>match dH n0 L x with
  |some x=>match fo n0 L xs with
   |some xs=>some (x::xs)
   |none=>none
  |none=>none
end
theorem CO{n0:Nat}{L:List Nat}{ρ:Nat→Loc}{c c':cJ}(h:rz n0 L c=some c'):c'.den (fun k=>ρ (di n0 L k))=c.den ρ∧c'.lt (n0+L.length):=by
 cases c with
 |lit c=>simp only [rz,Option.some.injEq]at h;subst h;exact⟨rfl,trivial⟩
 |sub b d=>
  simp only [rz]at h
  split at h
  ·rename_i b' hb
   injection h with h;subst h
   obtain⟨h1,h2⟩:=eC hb;exact⟨by simp [cJ.den,h1],h2⟩
  ·cases h
mutual
theorem iT{n0 n:Nat}{L:List Nat}{ρ:Nat→Loc} :∀(x x':SV),dH n0 L x=some x'→x.lt ρ n→x'.den (fun k=>ρ (di n0 L k))=x.den ρ∧x'.lt (fun k=>ρ (di n0 L k)) (n0+L.length)
 | .v x,x',h,_=>by simp only [dH,Option.some.injEq]at h;subst h;exact⟨rfl,trivial⟩
 | .str l,x',h,_=>by simp only [dH,Option.some.injEq]at h;subst h;exact⟨rfl,trivial⟩
 | .ptr b o,x',h,_=>by
   simp only [dH]at h
   split at h
   ·rename_i b' hb
    injection h with h;subst h
    obtain⟨h1,h2⟩:=eC hb;exact⟨by simp [SV.den,h1],h2⟩
   ·cases h
 | .slc b o l c,x',h,hl=>by
   simp only [dH]at h
   split at h
   ·rename_i b' c' hb hc
    injection h with h;subst h
    obtain⟨h1,h2⟩:=eC hb;obtain⟨h3,h4⟩:=CO (ρ:=ρ) hc;exact⟨by simp [SV.den,h1,h3],h2,h4,by rw [h3];exact hl.2.2⟩
   ·cases h
 | .mp b,x',h,_=>by
   simp only [dH]at h
   split at h
   ·rename_i b' hb
    injection h with h;subst h
    obtain⟨h1,h2⟩:=eC hb;exact⟨by simp [SV.den,h1],h2⟩
   ·cases h
 | .agg cs,x',h,hl=>by
   simp only [dH]at h
   split at h
   ·rename_i cs' hc
    injection h with h;subst h
    obtain⟨h1,h2⟩:=iR cs cs' hc hl;exact⟨by simp only [SV.den,h1],h2⟩
   ·cases h
 | .tup cs,x',h,hl=>by
   simp only [dH]at h
   split at h
   ·rename_i cs' hc
    injection h with h;subst h
    obtain⟨h1,h2⟩:=iR cs cs' hc hl;exact⟨by simp only [SV.den,h1],h2⟩
   ·cases h
 | .ifc t x,x',h,hl=>by
   simp only [dH]at h
   split at h
   ·rename_i y hy
    injection h with h;subst h
    obtain⟨h1,h2⟩:=iT x y hy hl;exact⟨by simp only [SV.den,h1],h2⟩
   ·cases h
 | .fn f cs,x',h,hl=>by
   simp only [dH]at h
   split at h
   ·rename_i cs' hc
    injection h with h;subst h
    obtain⟨h1,h2⟩:=iR cs cs' hc hl;exact⟨by simp only [SV.den,h1],h2⟩
   ·cases h
theorem iR{n0 n:Nat}{L:List Nat}{ρ:Nat→Loc} :∀(l l':List SV),fo n0 L l=some l'→SV.lts ρ n l→SV.gC (fun k=>ρ (di n0 L k)) l'=SV.gC ρ l∧SV.lts (fun k=>ρ (di n0 L k)) (n0+L.length) l'
 | [],l',h,_=>by simp only [fo,Option.some.injEq]at h;subst h;exact⟨rfl,trivial⟩
 |x::xs,l',h,hl=>by
  simp only [fo]at h
  split at h
  ·rename_i x' hx
   split at h
   ·rename_i xs' hxs
    injection h with h;subst h
    obtain⟨h1,h2⟩:=iT x x' hx hl.1;obtain⟨h3,h4⟩:=iR xs xs' hxs hl.2;exact⟨by simp only [SV.gC,h1,h3],h2,h4⟩
   ·cases h
  ·cases h
end
def my(n0:Nat)(L:List Nat):List (SV×SV×Nat)→Option (List (SV×SV×Nat))
 | []=>some []
 |e::es=>match dH n0 L e.1 with
  |some k=>match dH n0 L e.2.1 with
   |some v=>match my n0 L es with
    |some es=>some ((k,v,e.2.2)::es)
    |none=>none
   |none=>none
  |none=>none
def jQ(n0:Nat)(L:List Nat):bD→Option bD
 | .cells cs es τ=>match fo n0 L cs with
   |some cs=>some (.cells cs es τ)
   |none=>none
 | .map es clock=>match my n0 L es with
   |some es=>some (.map es clock)
   |none=>none
 | .siter s pos=>some (.siter s pos)
 | .miter m since seen last=>match ixN n0 L m with
   |some m=>some (.miter m since seen last)
   |none=>none
theorem Ax{n0 n:Nat}{L:List Nat}{ρ:Nat→Loc} :∀(es es':List (SV×SV×Nat)),my n0 L es=some es'→(∀e∈es,e.1.lt ρ n∧e.2.1.lt ρ n)→
  es'.map (aQ fun k=>ρ (di n0 L k))=es.map (aQ ρ)∧∀e∈es',e.1.lt (fun k=>ρ (di n0 L k)) (n0+L.length)∧e.2.1.lt (fun k=>ρ (di n0 L k)) (n0+L.length):=by
 intro es
 induction es with
 |nil=>intro es' h _;simp only [my,Option.some.injEq]at h;subst h;exact⟨rfl,fun _ h=>by cases h⟩
 |cons e es ih=>
  intro es' h hl;simp only [my]at h
  split at h
  ·rename_i k hk
   split at h
   ·rename_i v hv
    split at h
    ·rename_i es1 hes
     injection h with h;subst h
     obtain⟨l1,l2⟩:=hl e List.mem_cons_self;obtain⟨h1,h2⟩:=iT _ _ hk l1;obtain⟨h3,h4⟩:=iT _ _ hv l2;obtain⟨h5,h6⟩:=ih es1 hes fun e he=>hl e (List.mem_cons_of_mem _ he)
     refine⟨by simp [aQ,h1,h3,h5],fun e' he=> ?_⟩;rcases List.mem_cons.1 he with rfl|he
     ·exact⟨h2,h4⟩
     ·exact h6 e' he
    ·cases h
   ·cases h
  ·cases h
theorem CP{n0 n:Nat}{L:List Nat}{ρ:Nat→Loc}{B B':bD}(h:jQ n0 L B=some B')(hl:B.lt ρ n){loc:Loc}{w:World}(hr:B.Rel ρ loc w):
  B'.lt (fun k=>ρ (di n0 L k)) (n0+L.length)∧B'.Rel (fun k=>ρ (di n0 L k)) loc w:=by
 cases B with
 |cells cs es τ=>
  simp only [jQ]at h
  split at h
  ·rename_i cs' hc
   injection h with h;subst h
   obtain⟨h1,h2⟩:=iR cs cs' hc (dj.2 hl);refine⟨dj.1 h2,?_⟩;obtain⟨c,t,fz,k1,k2,k3,k4,k5⟩:=hr;rw [cS,cS]at h1
   have hl1:cs'.length=cs.length:=by
    have:=congrArg List.length h1;simpa using this
   refine⟨c,t,fz,k1,fun i x hx=> ?_,k3,?_,by rw [hl1];exact k5⟩
   ·have e1:(cs'.map (SV.den fun k=>ρ (di n0 L k)))[i]? =some (x.den fun k=>ρ (di n0 L k)):=by rw [List.getElem?_map,hx];rfl
    rw [h1,List.getElem?_map]at e1
    cases hy:cs[i]? with
    |none=>rw [hy]at e1;cases e1
    |some y=>
     rw [hy]at e1;injection e1 with e1
     rw [←e1];exact k2 i y hy
   ·have:cs'.length=cs.length:=by
      have:=congrArg List.length h1;simpa using this
    rw [this];exact k4
  ·cases h
 |map es clock=>
  simp only [jQ]at h
  split at h
  ·rename_i es' hes
   injection h with h;subst h
   obtain⟨h1,h2⟩:=Ax es es' hes hl;refine⟨h2,?_⟩;show w.heap[loc.blk]? =some (.map (es'.map (aQ fun k=>ρ (di n0 L k))).toArray clock)
   rw [h1];exact hr
  ·cases h
 |siter s pos=>simp only [jQ,Option.some.injEq]at h;subst h;exact⟨trivial,hr⟩
 |miter m since seen last=>
  simp only [jQ]at h
  split at h
  ·rename_i m' hm
   injection h with h;subst h
   obtain⟨h1,h2⟩:=eC hm;refine⟨h2,hr.1,?_⟩;show w.heap[loc.blk]? =some (.mapIter (some (ρ (di n0 L m')).blk) since seen.toArray last)
   rw [h1];exact hr.2
  ·cases h
def tu(n0:Nat)(L:List Nat)(H:T bD):List Nat→T bD→Option (T bD)
 | [],acc=>some acc
 |b::bs,acc=>match H.get b with
  |none=>tu n0 L H bs acc
  |some B=>match ixN n0 L b with
   |none=>none
   |some k=>match jQ n0 L B with
    |none=>none
    |some B'=>tu n0 L H bs (acc.set k B')
theorem rZ{n0:Nat}{L:List Nat}{H:T bD} :∀(bs:List Nat) (acc acc':T bD),tu n0 L H bs acc=some acc'→
  (∀k B',acc.get k=some B'→∃b B,H.get b=some B∧ixN n0 L b=some k∧jQ n0 L B=some B')→∀k B',acc'.get k=some B'→∃b B,H.get b=some B∧ixN n0 L b=some k∧jQ n0 L B=some B':=by
 intro bs
 induction bs with
 |nil=>intro acc acc' h hi;simp only [tu,Option.some.injEq]at h;subst h;exact hi
 |cons b bs ih=>
  intro acc acc' h hi;simp only [tu]at h
  split at h
  ·exact ih _ _ h hi
  ·rename_i B hB
   split at h
   ·cases h
   ·rename_i k hk
    split at h
    ·cases h
    ·rename_i B' hB'
     refine ih _ _ h fun k2 B2 h2=> ?_
     rcases T.bW h2 with⟨rfl,rfl⟩|⟨_,h2⟩
     ·exact⟨b,B,hB,hk,hB'⟩
     ·exact hi k2 B2 h2
theorem aL.ren{ρ:Nat→Loc}{h:HS}{w:World}(R:aL ρ h w){n0:Nat}{L:List Nat}{H':T bD}(hH:∀k B',H'.get k=some B'→∃b B,h.H.get b=some B∧ixN n0 L b=some k∧jQ n0 L B=some B'):
  aL (fun k=>ρ (di n0 L k)) ⟨H',n0+L.length,h.M⟩ w where
 os:=R.os
 out:=R.out
 tape:=R.tape
 mem:=R.mem
 blk:=fun k B' hk=>by
  obtain⟨b,B,h1,h2,h3⟩:=hH k B' hk;obtain⟨_,k2,k3⟩:=R.blk b B h1;obtain⟨g1,g2⟩:=eC h2;obtain⟨f1,f2⟩:=CP h3 k2 k3;refine⟨g2,f1,?_⟩;show B'.Rel _ (ρ (di n0 L k)) w
  rw [g1];exact f2
 inj:=fun k k' B B' hk hk' he=>by
  obtain⟨b,C,h1,h2,_⟩:=hH k B hk;obtain⟨b',C',h1',h2',_⟩:=hH k' B' hk';obtain⟨g1,_⟩:=eC h2;obtain⟨g1',_⟩:=eC h2';have he:(ρ (di n0 L k)).blk=(ρ (di n0 L k')).blk:=he;rw [g1,g1']at he;have:=R.inj b b' C C' h1 h1' he;subst this;rw [h2]at h2';injection h2'
 apart:=fun k B hk=>by
  obtain⟨b,C,h1,h2,_⟩:=hH k B hk;obtain⟨g1,_⟩:=eC h2;show h.M.blk (ρ (di n0 L k)).blk=none
  rw [g1];exact R.apart b C h1
 are:=R.are
 aprA:=fun k B hk=>by
  obtain⟨b,C,h1,h2,_⟩:=hH k B hk;obtain⟨g1,_⟩:=eC h2;show h.M.A.blk (ρ (di n0 L k)).blk=none
  rw [g1];exact R.aprA b C h1
 disj:=R.disj
def ixK(n0:Nat)(L:List Nat)(b:Nat)(k:Nat→Bool):Bool:=match ixN n0 L b with
 |some b=>dP b k
 |none=>false
def lx{α:Type}(x:Option α)(k:α→Bool):Bool:=match x with
 |some x=>k x
 |none=>false
theorem nK(n0:Nat)(L:List Nat)(b:Nat)(k:Nat→Bool):ixK n0 L b k=lx (ixN n0 L b) k:=by
 unfold ixK lx
 cases ixN n0 L b with
 |none=>rfl
 |some b=>exact bV _ _
def capK(n0:Nat)(L:List Nat)(c:cJ)(k:cJ→Bool):Bool:=match c with
 | .lit c=>dP c fun c=>k (.lit c)
 | .sub b d=>ixK n0 L b fun b=>dP d fun d=>k (.sub b d)
theorem capK_eq(n0:Nat)(L:List Nat)(c:cJ)(k:cJ→Bool):capK n0 L c k=lx (rz n0 L c) k:=by
 cases c with
 |lit c=>simp only [capK,bV,rz,lx]
 |sub b d=>
  simp only [capK,nK,bV,rz]
  cases ixN n0 L b<;>rfl
mutual
def gv(n0:Nat)(L:List Nat):SV→(SV→Bool)→Bool
 | .v x,k=>k (.v x)
 | .str l,k=>k (.str l)
 | .ptr b o,k=>ixK n0 L b fun b=>dP o fun o=>k (.ptr b o)
 | .slc b o l c,k=>ixK n0 L b fun b=>capK n0 L c fun c=>dP o fun o=>dP l fun l=>k (.slc b o l c)
 | .mp b,k=>ixK n0 L b fun b=>k (.mp b)
 | .agg cs,k=>jt n0 L cs fun cs=>k (.agg cs)
 | .tup cs,k=>jt n0 L cs fun cs=>k (.tup cs)
 | .ifc t x,k=>dP t fun t=>gv n0 L x fun x=>k (.ifc t x)
 | .fn f cs,k=>dP f fun f=>jt n0 L cs fun cs=>k (.fn f cs)
def jt(n0:Nat)(L:List Nat):List SV→(List SV→Bool)→Bool
 | [],k=>k []
 |x::xs,k=>gv n0 L x fun x=>jt n0 L xs fun xs=>k (x::xs)
end
mutual
theorem kg(n0:Nat)(L:List Nat):∀(x:SV) (k:SV→Bool),gv n0 L x k=lx (dH n0 L x) k
 | .v x,k=>by simp only [gv,dH,lx]
 | .str l,k=>by simp only [gv,dH,lx]
 | .ptr b o,k=>by simp only [gv,nK,bV,dH];cases ixN n0 L b<;>rfl
 | .slc b o l c,k=>by simp only [gv,nK,capK_eq,bV,dH];cases ixN n0 L b<;>cases rz n0 L c<;>rfl
 | .mp b,k=>by simp only [gv,nK,dH];cases ixN n0 L b<;>rfl
 | .agg cs,k=>by rw [gv,iS n0 L cs];simp only [dH];cases fo n0 L cs<;>rfl
 | .tup cs,k=>by rw [gv,iS n0 L cs];simp only [dH];cases fo n0 L cs<;>rfl
 | .ifc t x,k=>by rw [gv,bV,kg n0 L x];simp only [dH];cases dH n0 L x<;>rfl
 | .fn f cs,k=>by rw [gv,bV,iS n0 L cs];simp only [dH];cases fo n0 L cs<;>rfl
theorem iS(n0:Nat)(L:List Nat):∀(l:List SV) (k:List SV→Bool),jt n0 L l k=lx (fo n0 L l) k
 | [],k=>by simp only [jt,fo,lx]
 |x::xs,k=>by
  rw [jt,kg n0 L x];simp only [fo]
  cases dH n0 L x with
  |none=>rfl
  |some y=>
   show jt n0 L xs _=_
   rw [iS n0 L xs]
   cases fo n0 L xs<;>rfl
end
def tv(n0:Nat)(L:List Nat):List (SV×SV×Nat)→(List (SV×SV×Nat)→Bool)→Bool
 | [],k=>k []
 |e::es,k=>gv n0 L e.1 fun a=>gv n0 L e.2.1 fun b=>dP e.2.2 fun c=>tv n0 L es fun es=>k ((a,b,c)::es)
theorem Ay(n0:Nat)(L:List Nat):∀(l:List (SV×SV×Nat)) (k:List (SV×SV×Nat)→Bool),tv n0 L l k=lx (my n0 L l) k:=by
 intro l
 induction l with
 |nil=>intro k;rfl
 |cons e es ih=>
  intro k;simp only [tv,my,kg,bV,ih]
  cases dH n0 L e.1 with
  |none=>rfl
  |some a=>cases dH n0 L e.2.1 with
   |none=>rfl
   |some b=>cases my n0 L es<;>rfl
def r5(n0:Nat)(L:List Nat)(B:bD)(k:bD→Bool):Bool:=match B with
 | .cells cs es τ=>jt n0 L cs fun cs=>dP es fun es=>dP τ fun τ=>k (.cells cs es τ)
 | .map es clock=>tv n0 L es fun es=>dP clock fun clock=>k (.map es clock)
 | .siter s pos=>uv s fun s=>dP pos fun pos=>k (.siter s pos)
 | .miter m since seen last=>ixK n0 L m fun m=>dP since fun since=>qy seen fun seen=>dP last fun last=>k (.miter m since seen last)
theorem CQ(n0:Nat)(L:List Nat)(B:bD)(k:bD→Bool):r5 n0 L B k=lx (jQ n0 L B) k:=by
 cases B with
 |cells cs es τ=>simp only [r5,iS,bV,jQ];cases fo n0 L cs<;>rfl
 |map es clock=>simp only [r5,Ay,bV,jQ];cases my n0 L es<;>rfl
 |siter s pos=>simp only [r5,sQ,bV,jQ,lx]
 |miter m since seen last=>simp only [r5,nK,bV,kr,jQ];cases ixN n0 L m<;>rfl
def Ez(n0:Nat)(c:cJ):Bool:=match c with
 | .lit _=>true
 | .sub b _=>Nat.blt b n0
def lY(n0:Nat)(x:SV):Bool:=match x with
 | .v _=>true
 | .str _=>true
 | .ptr b _=>Nat.blt b n0
 | .slc b _ _ c=>bif Nat.blt b n0 then Ez n0 c else false
 | .mp b=>Nat.blt b n0
 |_=>false
def yD(n0:Nat)(l:List SV):Bool:=List.rec (motive:=fun _=>Bool) true (fun x _ ih=>bif lY n0 x then ih else false) l
def uj(n0:Nat)(B:bD):Bool:=match B with
 | .cells cs _ _=>yD n0 cs
 |_=>false
theorem mO{n0 b:Nat}(L:List Nat)(h:Nat.blt b n0=true):ixN n0 L b=some b:=by unfold ixN;rw [h];rfl
theorem yB{n0:Nat}(L:List Nat){x:SV}(h:lY n0 x=true):dH n0 L x=some x:=by
 cases x with
 |v x=>rfl
 |str l=>rfl
 |ptr b o=>simp only [lY]at h;simp only [dH,mO L h]
 |slc b o l c=>
  simp only [lY]at h
  cases hb:Nat.blt b n0 with
  |false=>rw [hb]at h;exact absurd h Bool.false_ne_true
  |true=>
   rw [hb]at h;simp only [cond_true]at h
   cases c with
   |lit c=>simp only [dH,mO L hb,rz]
   |sub b' d=>simp only [Ez]at h;simp only [dH,mO L hb,rz,mO L h]
 |mp b=>simp only [lY]at h;simp only [dH,mO L h]
 |_=>exact absurd h Bool.false_ne_true
theorem yC{n0:Nat}(L:List Nat):∀ {l:List SV},yD n0 l=true→fo n0 L l=some l:=by
 intro l
 induction l with
 |nil=>intro _;rfl
 |cons x l ih=>
  intro h;have h:(bif lY n0 x then yD n0 l else false)=true:=h
  cases hx:lY n0 x with
  |false=>rw [hx]at h;exact absurd h Bool.false_ne_true
  |true=>
   rw [hx]at h;simp only [fo,yB L hx,ih h]
theorem yE{n0:Nat}(L:List Nat){B:bD}(h:uj n0 B=true):jQ n0 L B=some B:=by
 cases B with
 |cells cs es τ=>simp only [uj]at h;simp only [jQ,yC L h]
 |_=>exact absurd h Bool.false_ne_true
def putK(n0:Nat)(L:List Nat)(B:bD)(k:bD→Bool):Bool:=bif uj n0 B then k B else r5 n0 L B k
theorem putK_eq(n0:Nat)(L:List Nat)(B:bD)(k:bD→Bool):putK n0 L B k=lx (jQ n0 L B) k:=by
 unfold putK
 cases h:uj n0 B with
 |true=>rw [yE L h];rfl
 |false=>exact CQ n0 L B k
def p8(n0:Nat)(L:List Nat)(H:T bD):List Nat→T bD→(T bD→Bool)→Bool
 | [],acc,k=>k acc
 |b::bs,acc,k=>match H.get b with
  |none=>p8 n0 L H bs acc k
  |some B=>ixK n0 L b fun i=>putK n0 L B fun B'=>rr 32 acc i B' fun acc=>p8 n0 L H bs acc k
theorem uV(n0:Nat)(L:List Nat)(H:T bD):∀(bs:List Nat) (acc:T bD) (k:T bD→Bool),p8 n0 L H bs acc k=lx (tu n0 L H bs acc) k:=by
 intro bs
 induction bs with
 |nil=>intro acc k;rfl
 |cons b bs ih=>
  intro acc k;simp only [p8,tu,nK,putK_eq,ph,ih]
  cases H.get b with
  |none=>rfl
  |some B=>cases ixN n0 L b with
   |none=>rfl
   |some i=>cases hB:jQ n0 L B with
    |none=>simp only [lx,hB]
    |some B'=>simp only [lx,hB];rfl
def Ce(n0 b:Nat)(L:List Nat):List Nat:=bif Nat.blt b n0 then L else bif DE b L then L else L++ [b]
def idsC(n0:Nat)(c:cJ)(L:List Nat):List Nat:=match c with
 | .lit _=>L
 | .sub b _=>Ce n0 b L
mutual
def tW(n0:Nat):SV→List Nat→List Nat
 | .v _,L=>L
 | .str _,L=>L
 | .ptr b _,L=>Ce n0 b L
 | .slc b _ _ c,L=>idsC n0 c (Ce n0 b L)
 | .mp b,L=>Ce n0 b L
 | .agg cs,L=>zF n0 cs L
 | .tup cs,L=>zF n0 cs L
 | .ifc _ x,L=>tW n0 x L
 | .fn _ cs,L=>zF n0 cs L
def zF(n0:Nat):List SV→List Nat→List Nat
 | [],L=>L
 |x::xs,L=>zF n0 xs (tW n0 x L)
end
def idsV1(n0:Nat)(x:SV)(L:List Nat):List Nat:=match x with
 | .v _=>L
 | .str _=>L
 | .ptr b _=>Ce n0 b L
 |x=>tW n0 x L
def idsL(n0:Nat)(l:List SV):List Nat→List Nat:=List.rec (motive:=fun _=>List Nat→List Nat) (fun L=>L) (fun x _ ih L=>ih (idsV1 n0 x L)) l
def idsE(n0:Nat):List (SV×SV×Nat)→List Nat→List Nat
 | [],L=>L
 |e::es,L=>idsE n0 es (tW n0 e.2.1 (tW n0 e.1 L))
def idsB(n0:Nat)(B:bD)(L:List Nat):List Nat:=match B with
 | .cells cs _ _=>idsL n0 cs L
 | .map es _=>idsE n0 es L
 | .siter _ _=>L
 | .miter m _ _ _=>Ce n0 m L
def Bt(n0:Nat)(H:T bD):List Nat→List Nat→List Nat
 | [],L=>L
 |b::bs,L=>match H.get b with
  |none=>Bt n0 H bs L
  |some B=>Bt n0 H bs (idsB n0 B L)
def lX(n0:Nat)(H:T bD):Nat→Nat→List Nat→List Nat
 |0,_,L=>L
 |f+1,p,L=>match nth L p with
  |none=>L
  |some b=>match H.get b with
   |none=>lX n0 H f (Nat.succ p) L
   |some B=>lX n0 H f (Nat.succ p) (idsB n0 B L)
def upN(n:Nat):List Nat:=Nat.rec (motive:=fun _=>List Nat) [] (fun m ih=>m::ih) n
def x6(b:Bool):Bool:=bif b then true else false
theorem tN(b:Bool):x6 b=b:=by cases b<;>rfl
def memK(M:Mem)(k:Mem→Bool):Bool:=match M with
 |⟨blk,os,out,tape,gl,glok,X⟩=>k ⟨blk,os,out,tape,gl,glok,X⟩
theorem tO(M:Mem)(k:Mem→Bool):memK M k=k M:=by cases M;rfl
def yH(n1:Nat)(v:SV)(h:HS)(K:SV→HS→Bool):Bool:=
 dP n1 fun n0=>memK h.M fun M=>qy (lX n0 h.H h.nx 0 (Bt n0 h.H (upN n0) (tW n0 v []))) fun L=>
  gv n0 L v fun v'=>p8 n0 L h.H (upN n0++L) .e fun H'=>dP (n0+L.length) fun nx=>x6 (K v' ⟨H',nx,M⟩)
theorem wD{ρ0 ρ:Nat→Loc}{h0 h:HS}{v:SV}{K:SV→HS→Bool}{w':World}(hk:yH h0.nx v h K=true)(hv:v.lt ρ h.nx)(R:aL ρ h w')(hx:Ext ρ0 ρ h0.nx)(hm:h0.M.le h.M):
  cT ρ0 h0 K (v.den ρ) w':=by
 unfold yH at hk;rw [bV,tO,kr]at hk;generalize lX h0.nx h.H h.nx 0 (Bt h0.nx h.H (upN h0.nx) (tW h0.nx v []))=L at hk;rw [kg]at hk
 cases hr:dH h0.nx L v with
 |none=>rw [hr]at hk;exact absurd hk Bool.false_ne_true
 |some v'=>
  rw [hr]at hk;have hk:p8 h0.nx L h.H (upN h0.nx++L) .e (fun H'=>dP (h0.nx+L.length) fun nx=>x6 (K v' ⟨H',nx,h.M⟩))=true:=hk;rw [uV]at hk
  cases hh:tu h0.nx L h.H (upN h0.nx++L) .e with
  |none=>rw [hh]at hk;exact absurd hk Bool.false_ne_true
  |some H'=>
   rw [hh]at hk;have hk:(dP (h0.nx+L.length) fun nx=>x6 (K v' ⟨H',nx,h.M⟩))=true:=hk;rw [bV,tN]at hk;have hH:=rZ _ _ _ hh (fun k B' hg=>by rw [T.dY]at hg;cases hg);obtain⟨d1,d2⟩:=iT (ρ:=ρ) v v' hr hv;refine⟨v',⟨H',h0.nx+L.length,h.M⟩,fun k=>ρ (di h0.nx L k),hk,d1.symm,d2,R.ren hH,fun b hb=> ?_,Nat.le_add_right _ _,hm⟩;show ρ (di h0.nx L b)=ρ0 b
   unfold di;rw [if_pos hb];exact hx b hb
def vD(tm:T SV):List Nat→T SV→List Nat→(T SV→List Nat→Bool)→Bool
 | [],acc,L,k=>k acc L
 |i::is,acc,L,k=>match tm.get i with
  |none=>vD tm is acc L k
  |some x=>rr 32 acc i x fun acc=>vD tm is acc (tW 0 x L) k
theorem Bh{tm:T SV} :∀ {is:List Nat} {acc:T SV} {L:List Nat} {k:T SV→List Nat→Bool},vD tm is acc L k=true→(∀i x,acc.get i=some x→tm.get i=some x)→
  ∃acc' L',k acc' L'=true∧∀i x,acc'.get i=some x→tm.get i=some x:=by
 intro is
 induction is with
 |nil=>intro acc L k h hs;exact⟨acc,L,h,hs⟩
 |cons i is ih=>
  intro acc L k h hs;simp only [vD]at h
  split at h
  ·exact ih h hs
  ·rename_i x hx
   rw [ph]at h;refine ih h fun j y hj=> ?_
   rcases T.bW hj with⟨rfl,rfl⟩|⟨_,hj⟩
   ·exact hx
   ·exact hs j y hj
def vJ(H:T bD):List Nat→T bD→(T bD→Bool)→Bool
 | [],acc,k=>k acc
 |b::bs,acc,k=>match H.get b with
  |none=>vJ H bs acc k
  |some B=>rr 32 acc b B fun acc=>vJ H bs acc k
theorem Bj{H:T bD} :∀ {bs:List Nat} {acc:T bD} {k:T bD→Bool},vJ H bs acc k=true→(∀b B,acc.get b=some B→H.get b=some B)→
  ∃acc',k acc'=true∧∀b B,acc'.get b=some B→H.get b=some B:=by
 intro bs
 induction bs with
 |nil=>intro acc k h hs;exact⟨acc,h,hs⟩
 |cons b bs ih=>
  intro acc k h hs;simp only [vJ]at h
  split at h
  ·exact ih h hs
  ·rename_i B hB
   rw [ph]at h;refine ih h fun j y hj=> ?_
   rcases T.bW hj with⟨rfl,rfl⟩|⟨_,hj⟩
   ·exact hB
   ·exact hs j y hj
def gcK(live:List Nat)(tm:T SV)(h:HS)(F:T SV→HS→Bool):Bool:=
 vD tm live .e [] fun tm L=>qy (lX 0 h.H h.nx 0 L) fun L=>vJ h.H L .e fun H=>dP h.nx fun nx=>memK h.M fun M=>x6 (F tm ⟨H,nx,M⟩)
theorem zH{live:List Nat}{tm:T SV}{h:HS}{F:T SV→HS→Bool}(hk:gcK live tm h F=true):
  ∃tm' H',F tm' ⟨H',h.nx,h.M⟩=true∧(∀i x,tm'.get i=some x→tm.get i=some x)∧∀b B,H'.get b=some B→h.H.get b=some B:=by
 unfold gcK at hk;obtain⟨tm',L,hk,h1⟩:=Bh hk (fun i x h=>by rw [T.dY]at h;cases h);rw [kr]at hk;obtain⟨H',hk,h2⟩:=Bj hk (fun i x h=>by rw [T.dY]at h;cases h);rw [bV,tO,tN]at hk;exact⟨tm',H',hk,h1,h2⟩
theorem aL.less{ρ:Nat→Loc}{h:HS}{w:World}(R:aL ρ h w){H':T bD}(hs:∀b B,H'.get b=some B→h.H.get b=some B):aL ρ ⟨H',h.nx,h.M⟩ w:=
 ⟨R.os,R.out,R.tape,R.mem,fun b B hb=>R.blk b B (hs b B hb),fun b b' B B' hb hb' he=>R.inj b b' B B' (hs b B hb) (hs b' B' hb') he,fun b B hb=>R.apart b B (hs b B hb),R.are,fun b B hb=>R.aprA b B (hs b B hb),R.disj⟩
def pf(n0:Nat)(tm:T SV):List Nat→List Nat→List Nat
 | [],L=>L
 |i::is,L=>match tm.get i with
  |none=>pf n0 tm is L
  |some x=>pf n0 tm is (tW n0 x L)
def rY(n0:Nat)(L:List Nat)(tm:T SV):List Nat→T SV→(T SV→Bool)→Bool
 | [],acc,k=>k acc
 |i::is,acc,k=>match tm.get i with
  |none=>rY n0 L tm is acc k
  |some x=>gv n0 L x fun x'=>rr 32 acc i x' fun acc=>rY n0 L tm is acc k
theorem xw{n0:Nat}{L:List Nat}{tm:T SV} :∀ {is:List Nat} {acc:T SV} {k:T SV→Bool},rY n0 L tm is acc k=true→
  (∀j y,acc.get j=some y→∃x,tm.get j=some x∧dH n0 L x=some y)→∃acc',k acc'=true∧∀j y,acc'.get j=some y→∃x,tm.get j=some x∧dH n0 L x=some y:=by
 intro is
 induction is with
 |nil=>intro acc k h hs;exact⟨acc,h,hs⟩
 |cons i is ih=>
  intro acc k h hs;simp only [rY]at h
  split at h
  ·exact ih h hs
  ·rename_i x hx
   rw [kg]at h
   cases hr:dH n0 L x with
   |none=>rw [hr]at h;exact absurd h Bool.false_ne_true
   |some x'=>
    rw [hr]at h;have h:rr 32 acc i x' (fun acc=>rY n0 L tm is acc k)=true:=h;rw [ph]at h;refine ih h fun j y hj=> ?_
    rcases T.bW hj with⟨rfl,rfl⟩|⟨_,hj⟩
    ·exact⟨x,hx,hr⟩
    ·exact hs j y hj
def yG(n1 sz:Nat)(tm:T SV)(h:HS)(F:T SV→HS→Bool):Bool:=
 dP n1 fun n0=>memK h.M fun M=>qy (lX n0 h.H h.nx 0 (pf n0 tm (upN sz) (Bt n0 h.H (upN n0) []))) fun L=>
  rY n0 L tm (upN sz) .e fun tm'=>p8 n0 L h.H (upN n0++L) .e fun H'=>dP (n0+L.length) fun nx=>x6 (F tm' ⟨H',nx,M⟩)
theorem wC{ρ0 ρ:Nat→Loc}{h0 h:HS}{sz:Nat}{tm:T SV}{F:T SV→HS→Bool}{a:Act}{w':World}(hk:yG h0.nx sz tm h F=true)(A:cG dfs ρ tm sz h.nx a)(R:aL ρ h w')(hx:Ext ρ0 ρ h0.nx)(hm:h0.M.le h.M):
  jI dfs ρ0 h0 sz F a w':=by
 unfold yG at hk;rw [bV,tO,kr]at hk;generalize lX h0.nx h.H h.nx 0 (pf h0.nx tm (upN sz) (Bt h0.nx h.H (upN h0.nx) []))=L at hk;obtain⟨tm',hk,htm⟩:=xw hk (fun j y h=>by rw [T.dY]at h;cases h);rw [uV]at hk
 cases hh:tu h0.nx L h.H (upN h0.nx++L) .e with
 |none=>rw [hh]at hk;exact absurd hk Bool.false_ne_true
 |some H'=>
  rw [hh]at hk;have hk:(dP (h0.nx+L.length) fun nx=>x6 (F tm' ⟨H',nx,h.M⟩))=true:=hk;rw [bV,tN]at hk;have hH:=rZ _ _ _ hh (fun k B' hg=>by rw [T.dY]at hg;cases hg);refine⟨tm',⟨H',h0.nx+L.length,h.M⟩,fun k=>ρ (di h0.nx L k),hk,⟨A.size,fun i y hi=> ?_,A.defers⟩,R.ren hH,fun b hb=> ?_,Nat.le_add_right _ _,hm⟩
  ·obtain⟨x,hx',hr⟩:=htm i y hi
   obtain⟨l1,l2⟩:=A.at_ i x hx';obtain⟨d1,d2⟩:=iT (ρ:=ρ) x y hr l1;exact⟨d2,by rw [l2,d1]⟩
  ·show ρ (di h0.nx L b)=ρ0 b
   unfold di;rw [if_pos hb];exact hx b hb
def tH:cB→Bool
 | .done=>true
 | .stop=>true
 | .take _ _ _ r=>tH r
 | .eff _ _ _ _ q a=>match a with
   | .stop=>tH q
   |_=>false
end
end Go.Sx
namespace Go.Sx
noncomputable section
variable {dfs : List Deferred}
inductive SX where
 |nrm
 |ext (id:Nat)
 |ret
 |pnc (x:SV)
abbrev KT:=SX→T SV→HS→Bool
abbrev CT:=List SV→HS→(SV→HS→Bool)→Bool
def xu(P:Program)(tm:T SV)(h:HS):List ResultVar→Option (List SV)
 | []=>some []
 |r::rs=>match (match r with
    | .tmp t=>tm.get t
    | .cell x t=>match tm.get x with
      |some x=>iw P h t x
      |none=>none),xu P tm h rs with
  |some v,some vs=>some (v::vs)
  |_,_=>none
def oneOf:List SV→SV
 | [v]=>v
 |vs=> .tup vs
abbrev LT:=Code→Nat→KT→T SV→HS→Bool
structure fl where
 lt:FuncId→Nat→Option LT
 mg:FuncId→Bool
 gc:FuncId→Nat→Option (List Nat)
def retK(P:Program)(mg:Bool)(n0:Nat)(rs:List ResultVar)(K E:SV→HS→Bool)(e:SX)(tm:T SV)(h:HS):Bool:=
 match e with
 | .ext _=>false
 | .pnc x=>E x h
 |_=>match xu P tm h rs with
  |some vs=>bif mg then yH n0 (oneOf vs) h K else K (oneOf vs) h
  |none=>false
def zg(P:Program)(mg:FuncId→Bool)(code:FuncId→Nat→Code→KT→T SV→HS→Bool)(f:FuncId)(args:List SV)(h:HS)(K E:SV→HS→Bool)(fn:Func)(c:Code):Bool:=
 bif fn.name== "runtime.NumGoroutine" then false else
  code f (args.length+(fn.ntmps-args.length)) c (retK P (mg f) h.nx fn.results.toList K E) (T.ofList args) h
def rW(P:Program)(mg:FuncId→Bool)(code:FuncId→Nat→Code→KT→T SV→HS→Bool)(C:FuncId→Option CT):da:=fun f args h K E=>
 match C f with
 |some ct=>ct args h K
 |none=>match Eb P f with
  |none=>false
  |some fn=>match fn.body with
   |none=>false
   |some c=>zg P mg code f args h K E fn c
abbrev sW:=FuncId→Nat→Code→KT→T SV→HS→Bool
def seqK(ih:sW)(f:FuncId)(sz:Nat)(b:Code)(K:KT)(e:SX)(tm:T SV)(h:HS):Bool:=match e with
 | .nrm=>ih f sz b K tm h
 |e=>K e tm h
def blkK(id:Nat)(K:KT)(e:SX)(tm:T SV)(h:HS):Bool:=match e with
 | .ext i=>bif Nat.beq i id then K .nrm tm h else K (.ext i) tm h
 |e=>K e tm h
def Cv(ih:sW)(f:FuncId)(sz:Nat)(x:Option SV)(a b:Code)(K:KT)(tm:T SV)(h:HS):Bool:=match x with
 |some (.v (.bool t))=>bif t then ih f sz a K tm h else ih f sz b K tm h
 |_=>false
def y9(Λ:fl)(ih:sW)(f:FuncId)(sz:Nat)(id:Nat)(a:Code)(K:KT)(tm:T SV)(h:HS):Bool:=match Λ.lt f id with
 |some lt=>lt a sz K tm h
 |none=>match Λ.gc f id with
  |some live=>gcK live tm h (fun tm h=>ih f sz a (blkK id K) tm h)
  |none=>ih f sz a (blkK id K) tm h
def nm:List Oper→T SV→T SV
 | [],tm=>tm
 |o::os,tm=>match o.dst with
  |none=>nm os tm
  |some d=>nm os (tm.del d)
theorem jm:∀ {os:List Oper} {tm:T SV} {i:Nat} {x:SV},(nm os tm).get i=some x→tm.get i=some x∧∀o∈os,o.dst≠some i
 | [],_,_,_,h=>⟨h,fun _ ho=>by cases ho⟩
 |o::os,tm,i,x,h=>by
  simp only [nm]at h
  cases hd:o.dst with
  |none=>
   rw [hd]at h;obtain⟨h1,h2⟩:=jm h
   exact⟨h1,fun o' ho'=>by
    rcases List.mem_cons.1 ho' with rfl|ho'
    ·rw [hd];exact fun e=>by cases e
    ·exact h2 o' ho'⟩
  |some d=>
   rw [hd]at h;obtain⟨h1,h2⟩:=jm h;obtain⟨h3,h4⟩:=T.cR h1
   exact⟨h4,fun o' ho'=>by
    rcases List.mem_cons.1 ho' with rfl|ho'
    ·rw [hd];exact fun e=>h3 (by injection e with e;exact e.symm)
    ·exact h2 o' ho'⟩
def regE(ops:Array Oper)(K:KT)(x:SV)(tm:T SV)(h:HS):Bool:=K (.pnc x) (nm ops.toList tm) h
def mj(P:Program)(call:da)(sz:Nat)(ops:Array Oper)(draw:Bool)(K:KT)(tm:T SV)(h:HS):Bool:=
 bif draw then
  match xI P ops with
  |some pl=>bif h.M.X.op||tH pl then eH P call sz (K .nrm) (regE ops K) pl [] tm h else eH P call sz (fun tm' h'=>yG h.nx sz tm' h' (K .nrm)) (regE ops K) pl [] tm h
  |none=>false
 else lF P call sz (regE ops K) ops.toList (K .nrm) ops.toList tm h
def sxReg(P:Program)(call:da)(Λ:fl)(f:FuncId)(sz:Nat)(id:Nat)(ops:Array Oper)(draw:Bool)(K:KT)(tm:T SV)(h:HS):Bool:=match Λ.gc f (Nat.add 1000000 id)with
 |some live=>gcK live tm h (fun tm h=>mj P call sz ops draw K tm h)
 |none=>mj P call sz ops draw K tm h
def jW(P:Program)(C:FuncId→Option CT)(Λ:fl)(ih:sW)(f:FuncId)(sz:Nat)(c:Code)(K:KT)(tm:T SV)(h:HS):Bool:=
 match c with
 | .skip=>K .nrm tm h
 | .label _=>K .nrm tm h
 | .ret=>K .ret tm h
 | .exit id=>K (.ext id) tm h
 | .seq a b=>ih f sz a (seqK ih f sz b K) tm h
 | .cond x a b=>Cv ih f sz (opd tm x) a b K tm h
 | .block id a=>y9 Λ ih f sz id a K tm h
 | .scope a=>ih f sz a K tm h
 | .loop a=>ih f sz a (seqK ih f sz (.loop a) K) tm h
 | .region id ops draw=>sxReg P (rW P Λ.mg ih C) Λ f sz id ops draw K tm h
 |_=>false
def fx(P:Program)(C:FuncId→Option CT)(Λ:fl)(n:Nat):sW:=
 Nat.rec (motive:=fun _=>sW) (fun _ _ _ _ _ _=>false) (fun _ ih f sz c K tm h=>jW P C Λ ih f sz c K tm h) n
theorem ow(P:Program)(C:FuncId→Option CT)(Λ:fl)(n:Nat)(f:FuncId)(sz:Nat)(c:Code)(K:KT)(tm:T SV)(h:HS):
 fx P C Λ (n+1) f sz c K tm h=jW P C Λ (fx P C Λ n) f sz c K tm h:=rfl
def gy(dfs:List Deferred)(ρ:Nat→Loc)(h:HS)(sz:Nat)(K:KT):Exit→Act→World→Prop
 | .normal,a,w=>jI dfs ρ h sz (K .nrm) a w
 | .exit i,a,w=>jI dfs ρ h sz (K (.ext i)) a w
 | .ret,a,w=>jI dfs ρ h sz (K .ret) a w
 | .panic c,a,w=>jO dfs ρ h sz (fun x=>K (.pnc x)) c a w
 |_,_,_=>False
theorem gy.trans{ρ ρ':Nat→Loc}{h h':HS}{sz:Nat}{K:KT}{e:Exit}{a:Act}{w:World}(g:gy dfs ρ' h' sz K e a w)(hx:Ext ρ ρ' h.nx)(hn:h.nx≤h'.nx)(hm:h.M.le h'.M):gy dfs ρ h sz K e a w:=by
 cases e<;>first|exact jI.trans g hx hn hm|exact jO.trans g hx hn hm|exact g
def aI(P:Program)(C:FuncId→Option CT):Prop:=
 ∀f ct,C f=some ct→∀args h K,ct args h K→∀ρ w,aL ρ h w→(∀x∈args,x.lt ρ h.nx)→db P f (args.map (SV.den ρ)).toArray w (cT ρ h K) fun _ _=>False
theorem db.mono{P:Program}{f:FuncId}{args:Array Value}{w:World}{Φ Φ' Ψ Ψ':Value→World→Prop}(g:db P f args w Φ Ψ)(h1:∀v w',Φ v w'→Φ' v w')(h2:∀v w',Ψ v w'→Ψ' v w'):db P f args w Φ' Ψ':=by
 rcases g with⟨fn,a,b,c⟩|⟨v,w',a,b⟩
 ·exact .inl ⟨fn,a,b,c.mono fun e w' hor=>by
   rcases hor with⟨v,he,hq⟩|⟨v,he,hq⟩
   ·exact .inl ⟨v,he,h1 _ _ hq⟩
   ·exact .inr ⟨v,he,h2 _ _ hq⟩⟩
 ·exact .inr ⟨v,w',a,h1 _ _ b⟩
theorem qw{ρ:Nat→Loc}{h:HS}{v:Value}{w:World} :¬cT ρ h (fun _ _=>false) v w:=fun⟨_,_,_,hk,_⟩=>absurd hk Bool.false_ne_true
def sV(dfs:List Deferred)(ops:Array Oper)(ρ:Nat→Loc)(h:HS)(sz:Nat)(K:KT):Exit→Act→World→Prop
 | .panic c,a,w=>∃x tm' h' ρ',c=pnc (x.den ρ')∧x.lt ρ' h'.nx∧K (.pnc x) tm' h'∧(∀i y,tm'.get i=some y→∀o∈ops.toList,o.dst≠some i)∧
    cG dfs ρ' tm' sz h'.nx a∧aL ρ' h' w∧Ext ρ ρ' h.nx∧h.nx≤h'.nx∧h.M.le h'.M
 |e,a,w=>gy dfs ρ h sz K e a w
theorem CY(a:Act)(d:Option Tmp)(v:Value):(a.put d v).tmps.size=a.tmps.size:=by
 cases d<;>simp [Act.put]
theorem AB(a:Act){d:Option Tmp}{i:Nat}(h:d≠some i)(v:Value):(a.put d v).tmps[i]? =a.tmps[i]? :=by
 cases d with
 |none=>rfl
 |some d=>
  have:d≠i:=fun e=>h (by rw [e])
  simp [Act.put,this]
theorem put_defers(a:Act)(d:Option Tmp)(v:Value):(a.put d v).defers=a.defers:=by
 cases d<;>rfl
inductive InC:Code→Code→Prop
 |refl (c:Code):InC c c
 |seqL {a b c:Code} :InC (.seq a b) c→InC a c
 |seqR {a b c:Code} :InC (.seq a b) c→InC b c
 |condL {x:Operand} {a b c:Code} :InC (.cond x a b) c→InC a c
 |condR {x:Operand} {a b c:Code} :InC (.cond x a b) c→InC b c
 |block {i:Nat} {a c:Code} :InC (.block i a) c→InC a c
 |loop {a c:Code} :InC (.loop a) c→InC a c
 |scope {a c:Code} :InC (.scope a) c→InC a c
def iL(P:Program)(f:FuncId)(c:Code):Prop:=∃fn b,P.funcs[f]? =some fn∧fn.body=some b∧InC c b
theorem iL.to{P:Program}{f:FuncId}{c d:Code}(h:iL P f c)(hd:∀ {b},InC c b→InC d b):iL P f d:=by
 obtain⟨fn,b,h1,h2,h3⟩:=h;exact⟨fn,b,h1,h2,hd h3⟩
def cZ(P:Program)(Λ:fl):Prop:=
 ∀f id lt,Λ.lt f id=some lt→∀c sz K tm h,iL P f (.block id c)→lt c sz K tm h→∀dfs ρ a w,cG dfs ρ tm sz h.nx a→aL ρ h w→(Code.block id c).wp P (gy dfs ρ h sz K) a w
def resM(tmps:Array Value):ResultVar→Sem Value
 | .tmp t=>pure (tmps.getD t undef)
 | .cell x t=>do loadVar t (←asAddr (tmps.getD x undef))
theorem lL(fn:Func)(tmps:Array Value):results fn tmps=(do
  let vs ←fn.results.mapM (resM tmps)
  pure (if h:vs.size=1 then vs[0]else .tuple vs)):=by
 unfold results;congr 1
theorem uU{P:Program}{tm:T SV}{h:HS}{ρ:Nat→Loc}{sz:Nat}{a:Act}{w:World}(A:cG dfs ρ tm sz h.nx a)(H:aL ρ h w):∀(rs:List ResultVar) (vs:List SV),xu P tm h rs=some vs→
  (rs.mapM (resM a.tmps)).run P w= .ok (vs.map (SV.den ρ)) w∧∀v∈vs,v.lt ρ h.nx:=by
 intro rs
 induction rs with
 |nil=>intro vs h;simp only [xu,Option.some.injEq]at h;subst h;exact⟨rfl,fun _ h=>by cases h⟩
 |cons r rs ih=>
  intro vs hv;simp only [xu]at hv
  split at hv
  ·rename_i v vs' h1 h2
   injection hv with hv;subst hv
   obtain⟨k1,k2⟩:=ih vs' h2
   cases r with
   |tmp t=>
    obtain⟨g1,g2⟩:=A.at_ t v h1;refine⟨?_,fun y hy=> ?_⟩
    ·have hg:a.tmps.getD t undef=v.den ρ:=by simp [g2]
     simp only [List.mapM_cons,resM,Sem.run_bind,Sem.run_pure,Result.andThen_ok,hg];rw [k1];rfl
    ·rcases List.mem_cons.1 hy with rfl|hy
     ·exact g1
     ·exact k2 y hy
   |cell x t=>
    simp only at h1
    split at h1
    ·rename_i xv hx
     obtain⟨g1,g2⟩:=A.at_ x xv hx;obtain⟨l1,l2⟩:=sB h1 H;have hg:a.tmps.getD x undef=xv.den ρ:=by simp [g2]
     refine⟨?_,fun y hy=> ?_⟩
     ·
      have hp:∃ad,xv.den ρ= .pointer (some ad):=by
       unfold iw at h1
       split at h1
       ·cases h1
       ·split at h1
        ·exact⟨_,rfl⟩
        ·exact⟨_,rfl⟩
        ·cases h1
      obtain⟨ad,had⟩:=hp;rw [had]at l1 hg;simp only [Instr.loadAt,Instr.sureAddr,Sem.run_bind,Sem.run_pure,Result.andThen_ok]at l1;have hasA:(asAddr (.pointer (some ad))).run P w= .ok ad w:=rfl;simp only [List.mapM_cons,resM,Sem.run_bind,hg,hasA,Sem.run_pure,Result.andThen_ok,l1];rw [k1];rfl
     ·rcases List.mem_cons.1 hy with rfl|hy
      ·exact l2
      ·exact k2 y hy
    ·cases h1
  ·cases hv
theorem ke{P:Program}{mg:FuncId→Bool}{C:FuncId→Option CT}(hC:aI P C){code:FuncId→Nat→Code→KT→T SV→HS→Bool}
  (hcode:∀f sz c K tm h,iL P f c→code f sz c K tm h→∀dfs ρ a w,cG dfs ρ tm sz h.nx a→aL ρ h w→c.wp P (gy dfs ρ h sz K) a w):eu P (rW P mg code C):=by
 intro f args h K E hk ρ w H hargs;unfold rW at hk
 split at hk
 ·rename_i ct hct
  exact(hC f ct hct args h K hk ρ w H hargs).mono (fun _ _ h=>h) fun _ _ h=>h.elim
 ·split at hk
  ·exact absurd hk Bool.false_ne_true
  ·rename_i fn hfn
   split at hk
   ·exact absurd hk Bool.false_ne_true
   ·rename_i c hb
    have hf:=Ea hfn;unfold zg at hk
    cases hname:fn.name== "runtime.NumGoroutine" with
    |true=>rw [hname]at hk;exact absurd hk Bool.false_ne_true
    |false=>
     rw [hname]at hk;simp only [cond_false]at hk;refine .inl ⟨fn,hf,⟨hname,by rw [hb];rfl⟩,calls_of_wp hf hb ?_⟩
     have A:cG [] ρ (T.ofList args) (args.length+(fn.ntmps-args.length)) h.nx { tmps:=(args.map (SV.den ρ)).toArray++Array.replicate (fn.ntmps-(args.map (SV.den ρ)).toArray.size) undef,defers:= [] } :=by
      refine⟨by simp,fun i x hi=> ?_,rfl⟩;have hx:=T.qN hi;refine⟨hargs x (List.mem_of_getElem? hx),?_⟩;have hlt:=(List.getElem?_eq_some_iff.1 hx).1;rw [Array.getElem?_append_left (by simpa using hlt)];simp [hx]
     refine wp_mono (hcode _ _ _ _ _ _ ⟨fn,c,hf,hb,.refl c⟩ hk [] ρ _ w A H) fun e a' w' g=> ?_
     have fin:∀a' w',jI [] ρ h (args.length+(fn.ntmps-args.length)) (retK P (mg f) h.nx fn.results.toList K E .nrm) a' w'→
       a'.defers= []∧∃v,(results fn a'.tmps).run P w'= .ok v w'∧((∃v',Ending.returned v= .returned v'∧cT ρ h K v' w')∨∃v',Ending.returned v= .panicked (pnc v')∧cT ρ h E v' w'):=by
      intro a' w' ⟨tm',h',ρ',hk',A',H',hx,hnx,hm⟩;refine⟨A'.defers,?_⟩;simp only [retK]at hk'
      split at hk'
      ·rename_i vs hvs
       obtain⟨r1,r2⟩:=uU A' H' _ _ hvs
       have hres:(results fn a'.tmps).run P w'= .ok ((oneOf vs).den ρ') w':=by
        rw [lL,Array.mapM_eq_mapM_toList];simp only [Sem.run_bind,Sem.run_map];rw [r1];simp only [Result.andThen_ok,Sem.run_pure];congr 1
        match vs with
        | []=>simp [oneOf,SV.den,SV.gC]
        | [v]=>simp [oneOf]
        |v::u::vs=>simp [oneOf,SV.den,SV.gC,cS]
       have hv:(oneOf vs).lt ρ' h'.nx:=by
        match vs with
        | []=>trivial
        | [v]=>exact r2 v (by simp)
        |v::u::vs=>exact dj.2 r2
       refine⟨_,hres,.inl ⟨_,rfl,?_⟩⟩
       cases hmg:mg f with
       |true=>rw [hmg]at hk';exact wD hk' hv H' hx hm
       |false=>rw [hmg]at hk';exact⟨oneOf vs,h',ρ',hk',rfl,hv,H',hx,hnx,hm⟩
      ·exact absurd hk' Bool.false_ne_true
     cases e with
     |normal=>exact fin a' w' g
     |ret=>exact fin a' w' g
     |exit i=>obtain⟨_,_,_,hk',_⟩:=g;exact absurd hk' Bool.false_ne_true
     |goto l=>exact g.elim
     |panic c=>
      obtain⟨x,tm',h',ρ',hc,hl,hk',A',H',hx,hnx,hm⟩:=g;have hk':E x h'=true:=hk';exact⟨A'.defers,.inr ⟨_,by rw [hc],x,h',ρ',hk',rfl,hl,H',hx,hnx,hm⟩⟩
     |outgrown=>exact g.elim
theorem uT{P:Program}{c:Code}{Q Q':Exit→Act→World→Prop}(hq:∀e a w,Q e a w→Q' e a w):∀(n:Nat) (a:Act) (w:World),Code.rounds P c Q n a w→Code.rounds P c Q' n a w:=by
 intro n
 induction n with
 |zero=>intro a w h;exact h
 |succ n ih=>
  intro a w h;exact wp_mono h fun e a w g=>by cases e<;>first|exact ih _ _ g|exact hq _ _ _ g
theorem iO{P:Program}(hm:P.follows .mixedOrders=true){C:FuncId→Option CT}(hC:aI P C){Λ:fl}(hΛ:cZ P Λ):∀(n:Nat),
  (∀f sz c K tm h,iL P f c→fx P C Λ n f sz c K tm h→∀dfs ρ a w,cG dfs ρ tm sz h.nx a→aL ρ h w→c.wp P (gy dfs ρ h sz K) a w)∧
  (∀f sz c K tm h,iL P f (.loop c)→fx P C Λ n f sz (.loop c) K tm h→∀dfs ρ a w,cG dfs ρ tm sz h.nx a→aL ρ h w→Code.rounds P c (gy dfs ρ h sz K) n a w):=by
 intro n
 induction n with
 |zero=>exact⟨fun _ _ _ _ _ _ _ h=>absurd h Bool.false_ne_true,fun _ _ _ _ _ _ _ h=>absurd h Bool.false_ne_true⟩
 |succ n ih=>
  obtain⟨ih1,ih2⟩:=ih
  have loops:∀f sz c K tm h,iL P f (.loop c)→fx P C Λ (n+1) f sz (.loop c) K tm h→∀dfs ρ a w,cG dfs ρ tm sz h.nx a→aL ρ h w→Code.rounds P c (gy dfs ρ h sz K) (n+1) a w:=by
   intro f sz c K tm h hW hk dfs ρ a w A H;rw [ow]at hk;simp only [jW]at hk;rw [rounds_succ];refine wp_mono (ih1 _ _ _ _ _ _ (hW.to .loop) hk dfs ρ a w A H) fun e a' w' g=> ?_
   cases e with
   |normal=>
    obtain⟨tm',h',ρ',hk',A',H',hx,hnx,hm'⟩:=g;simp only [seqK]at hk';exact uT (fun e a w g=>g.trans hx hnx hm') _ _ _ (ih2 _ _ _ _ _ _ hW hk' dfs ρ' a' w' A' H')
   |exit i=>exact g
   |ret=>exact g
   |goto l=>exact g
   |panic c=>exact g
   |outgrown=>exact g
  refine⟨?_,loops⟩;intro f sz c K tm h hW hk0 dfs ρ a w A H;have here:∀ {K':T SV→HS→Bool},K' tm h→jI dfs ρ h sz K' a w:=fun hk=>⟨tm,h,ρ,hk,A,H,Ext.refl _ _,Nat.le_refl _,Mem.le_refl _⟩
  have hk:=hk0;rw [ow]at hk
  cases c with
  |skip=>exact wp_skip (here hk)
  |label l=>exact wp_label (here hk)
  |ret=>exact wp_ret (here hk)
  |exit id=>exact wp_exit (here hk)
  |seq x y=>
   simp only [jW]at hk;refine wp_seq (wp_mono (ih1 _ _ _ _ _ _ (hW.to .seqL) hk dfs ρ a w A H) fun e a' w' g=> ?_)
   cases e with
   |normal=>
    obtain⟨tm',h',ρ',hk',A',H',hx,hnx,hm'⟩:=g;simp only [seqK]at hk';exact wp_mono (ih1 _ _ _ _ _ _ (hW.to .seqR) hk' dfs ρ' a' w' A' H') fun e a w g=>g.trans hx hnx hm'
   |exit i=>exact g
   |ret=>exact g
   |goto l=>exact g
   |panic c=>exact g
   |outgrown=>exact g
  |cond x y z=>
   simp only [jW,Cv]at hk
   split at hk
   ·rename_i t ht
    obtain⟨h1,_⟩:=aT A ht;refine wp_cond (t:=t) h1 ?_
    cases t with
    |true=>exact ih1 _ _ _ _ _ _ (hW.to .condL) hk dfs ρ a w A H
    |false=>exact ih1 _ _ _ _ _ _ (hW.to .condR) hk dfs ρ a w A H
   ·exact absurd hk Bool.false_ne_true
  |block id x=>
   simp only [jW,y9]at hk
   split at hk
   ·rename_i lt hlt
    exact hΛ f id lt hlt x sz K tm h hW hk dfs ρ a w A H
   have go:∀tm h,fx P C Λ n f sz x (blkK id K) tm h=true→cG dfs ρ tm sz h.nx a→aL ρ h w→(Code.block id x).wp P (gy dfs ρ h sz K) a w:=by
    intro tm h hk A H;refine wp_block (wp_mono (ih1 _ _ _ _ _ _ (hW.to .block) hk dfs ρ a w A H) fun e a' w' g=> ?_)
    cases e with
    |normal=>exact g
    |exit i=>
     obtain⟨tm',h',ρ',hk',A',H',hx,hnx,hm'⟩:=g;simp only [blkK]at hk'
     cases hb:Nat.beq i id with
     |true=>
      rw [hb]at hk';have:=Nat.eq_of_beq_eq_true hb;subst this;simp only [Exit.inBlock,if_true];exact⟨tm',h',ρ',hk',A',H',hx,hnx,hm'⟩
     |false=>
      rw [hb]at hk';have hne:i≠id:=fun e=>by rw [e,Nat.beq_refl]at hb;cases hb
      simp only [Exit.inBlock,hne,if_false];exact⟨tm',h',ρ',hk',A',H',hx,hnx,hm'⟩
    |ret=>exact g
    |goto l=>exact g
    |panic c=>exact g
    |outgrown=>exact g
   split at hk
   ·obtain⟨tm',H',hk',s1,s2⟩:=zH hk
    exact wp_mono (go tm' ⟨H',h.nx,h.M⟩ hk' ⟨A.size,fun i y hi=>A.at_ i y (s1 i y hi),A.defers⟩ (H.less s2)) fun e a' w' g=>g.trans (Ext.refl _ _) (Nat.le_refl _) (Mem.le_refl _)
   ·exact go tm h hk A H
  |scope x=>
   simp only [jW]at hk;refine wp_scope_straight (wp_mono (ih1 _ _ _ _ _ _ (hW.to .scope) hk dfs ρ a w A H) fun e a' w' g=> ?_)
   cases e<;>exact g
  |loop x=>exact wp_loop_rounds (n+1) (loops f sz x K tm h hW hk0 dfs ρ a w A H)
  |region id ops draw=>
   have CS:=ke (mg:=Λ.mg) hC ih1
   have go:∀tm h,mj P (rW P Λ.mg (fx P C Λ n) C) sz ops draw K tm h=true→cG dfs ρ tm sz h.nx a→aL ρ h w→(Code.region id ops draw).wp P (gy dfs ρ h sz K) a w:=by
    intro tm h hk A H;simp only [mj]at hk
    have hQ:∀(j:Nat) (o:Oper),ops[j]? =some o→∀v c a w,sV dfs ops ρ h sz K (.panic c) (a.put o.dst v) w→sV dfs ops ρ h sz K (.panic c) a w:=by
     intro j o ho v c a w ⟨x,tm',h',ρ',e,l,k,s,A',R'⟩;refine⟨x,tm',h',ρ',e,l,k,s,⟨?_,fun i y hi=> ?_,?_⟩,R'⟩
     ·rw [←A'.size];exact(CY a o.dst v).symm
     ·obtain⟨l1,l2⟩:=A'.at_ i y hi
      refine⟨l1,?_⟩;rw [←l2];refine(AB a ?_ v).symm;exact s i y hi o (by simpa using Array.mem_of_getElem? ho)
     ·rw [←A'.defers];exact(put_defers a o.dst v).symm
    have hE:∀c a' w',jO dfs ρ h sz (regE ops K) c a' w'→sV dfs ops ρ h sz K (.panic c) a' w':=by
     intro c a' w' ⟨x,tm',h',ρ',e,l,k,A',R'⟩;exact⟨x,nm ops.toList tm',h',ρ',e,l,k,fun i y hi=>(jm hi).2,⟨A'.size,fun i y hi=>A'.at_ i y (jm hi).1,A'.defers⟩,R'⟩
    have out:∀ {e:Exit} {a:Act} {w:World},sV dfs ops ρ h sz K e a w→gy dfs ρ h sz K e a w:=by
     intro e a w g
     cases e with
     |panic c=>
      obtain⟨x,tm',h',ρ',e,l,k,_,A',R'⟩:=g;exact⟨x,tm',h',ρ',e,l,k,A',R'⟩
     |_=>exact g
    cases draw with
    |true=>
     simp only [cond_true]at hk
     split at hk
     ·rename_i pl hpl
      obtain⟨k1,k3⟩:=AH hpl
      have down:Down .any ops (Array.replicate ops.size false):=by
       intro k ok hk' hl;exfalso;rw [Array.getD_eq_getD_getElem?,Array.getElem?_replicate]at hl
       split at hl<;>simp at hl
      refine wp_mono (Q:=sV dfs ops ρ h sz K) ?_ fun e a w g=>out g
      cases h1:(h.M.X.op||tH pl)with
      |true=>
       rw [h1]at hk;exact wp_region_any hm (pH _ [] _ _ _ (rP CS k3 hQ _ pl _ 0 [] k1 (by simp) hk [] A (H.drawn _) down (by simp) (fun a' w' g=>g) hE))
      |false=>
       rw [h1]at hk;refine wp_region_any hm (pH _ [] _ _ _ (rP CS k3 hQ _ pl _ 0 [] k1 (by simp) hk [] A (H.drawn _) down (by simp) (fun a' w' g=> ?_) hE));obtain⟨tm',h',ρ',hk',A',R',hx,_,hm'⟩:=g;exact wC (h0:=h) hk' A' R' hx hm'
     ·exact absurd hk Bool.false_ne_true
    |false=>
     simp only [cond_false]at hk;refine wp_mono (Q:=sV dfs ops ρ h sz K) ?_ fun e a w g=>out g
     refine wp_region (vW CS (List.range ops.size) ops.toList ?_ hk A H (fun a' w' g=>g) hE);apply List.ext_getElem?;intro i;simp only [List.getElem?_map]
     by_cases hi:i<ops.size
     ·rw [List.getElem?_range hi]
      simp [hi]
     ·rw [List.getElem?_eq_none (by simpa using hi),List.getElem?_eq_none (by simpa using hi)]
      rfl
   simp only [jW,sxReg]at hk
   split at hk
   ·obtain⟨tm',H',hk',s1,s2⟩:=zH hk
    exact wp_mono (go tm' ⟨H',h.nx,h.M⟩ hk' ⟨A.size,fun i y hi=>A.at_ i y (s1 i y hi),A.defers⟩ (H.less s2)) fun e a' w' g=>g.trans (Ext.refl _ _) (Nat.le_refl _) (Mem.le_refl _)
   ·exact go tm h hk A H
  |rangeFunc f ps x y=>exact absurd hk Bool.false_ne_true
  |goto l=>exact absurd hk Bool.false_ne_true
  |refuse s=>exact absurd hk Bool.false_ne_true
def ml(P:Program)(C:FuncId→Option CT)(Λ:fl)(n:Nat):da:=rW P Λ.mg (fx P C Λ n) C
theorem ly{P:Program}(hm:P.follows .mixedOrders=true){C:FuncId→Option CT}(hC:aI P C){Λ:fl}(hΛ:cZ P Λ)(n:Nat):eu P (ml P C Λ n):=ke hC (iO hm hC hΛ n).1
def noC:FuncId→Option CT:=fun _=>none
def noL:fl:=⟨fun _ _=>none,fun _=>false,fun _ _=>none⟩
theorem aA(P:Program):aI P noC:=fun _ _ h=>by cases h
theorem az(P:Program):cZ P noL:=fun _ _ _ h=>by cases h
end
end Go.Sx
namespace Go.Sx
noncomputable section
open Go.RowKit
theorem aL.below{ρ:Nat→Loc}{h:HS}{w w':World}(H:aL ρ h w)(hb:Below w.heap.size w w'):aL ρ h w' where
 os:=hb.os.trans H.os
 out:=hb.output.trans H.out
 tape:=hb.tape.trans H.tape
 mem:=fun k o hk=>by
  have h1:=H.mem k o hk;rw [hb.block k (Array.getElem?_eq_some_iff.1 h1).1];exact h1
 blk:=fun b B hB=>by
  obtain⟨h1,h2,h3⟩:=H.blk b B hB;exact⟨h1,h2,h3.of (Ext.refl ρ h.nx) h2 (hb.block _ h3.size)⟩
 inj:=H.inj
 apart:=H.apart
 are:=fun k o hk=>by
  have h1:=H.are k o hk;rw [hb.block k (Array.getElem?_eq_some_iff.1 h1).1];exact h1
 aprA:=H.aprA
 disj:=H.disj
theorem lE{P:Program}{f:FuncId}{fn:Func}(hf:P.funcs[f]? =some fn)(hn:(fn.name== "runtime.NumGoroutine")=false)(hb:fn.body.isNone=false)
  {args:Array Value} {w:World} {x:Value} (hc:Calls P f args w fun e w'=>e= .returned x∧Below w.heap.size w w')
  {ρ:Nat→Loc} {h:HS} (H:aL ρ h w) {K:SV→HS→Bool} {z:SV} (hk:K z h) (hz:z.den ρ=x) (hl:z.lt ρ h.nx) {Ψ:Value→World→Prop} :db P f args w (cT ρ h K) Ψ:=
 .inl ⟨fn,hf,⟨hn,hb⟩,hc.mono fun _ _ ⟨he,hw⟩=> .inl ⟨x,he,z,h,ρ,hk,hz.symm,hl,H.below hw,Ext.refl _ _,Nat.le_refl _,Mem.le_refl _⟩⟩
theorem lD{P:Program}{f:FuncId}{args:Array Value}{w:World}{x:Value}(hc:(callFunc f args).run P w= .ok (.value x) w)
  {ρ:Nat→Loc} {h:HS} (H:aL ρ h w) {K:SV→HS→Bool} {z:SV} (hk:K z h) (hz:z.den ρ=x) (hl:z.lt ρ h.nx) {Ψ:Value→World→Prop} :db P f args w (cT ρ h K) Ψ:=
 .inr ⟨x,w,hc,z,h,ρ,hk,hz.symm,hl,H,Ext.refl _ _,Nat.le_refl _,Mem.le_refl _⟩
theorem rM{P:Program}{f:FuncId}{args:Array Value}{w:World}{Φ:Value→World→Prop}(h:db P f args w Φ fun _ _=>False){fn:Func}(hf:P.funcs[f]? =some fn)
  (hn:(fn.name== "runtime.NumGoroutine")=false) (hb:fn.body.isSome=true):Calls P f args w fun e w'=>∃v,e= .returned v∧Φ v w':=by
 rcases h with⟨_,_,_,h⟩|⟨v,w',hv,h⟩
 ·exact h.mono fun e w' hor=>by
   rcases hor with h|⟨_,_,h⟩
   ·exact h
   ·exact h.elim
 ·have h1:fn.name≠ "runtime.NumGoroutine" :=by simpa using hn
  obtain⟨c,hc⟩:=Option.isSome_iff_exists.1 hb;have e:(callFunc f args).run P w= .ok (.enter f args) w:=by simp [callFunc,hf,h1,hc,mark]
  rw [e]at hv
  cases hv
def DD(w:World):Mem:= { blk:=fun k=>w.heap[k]?,os:=w.os,out:=w.output,tape:=w.tape,gl:= [],glok:=fun _ _ h=>(by cases h),X:= .none }
end
end Go.Sx
namespace Go.Sx
noncomputable section
open Go.RowKit Go.ChangeShapes Go.WideShapes
def isT(r:SV):Bool:=match r with
 | .v (.bool b)=>b
 |_=>false
section
variable {H:Type} {enc:TypeId×Value→H} {P:Program}
theorem rD{f:Func}{s:ChangeSpec}{apart fresh handsOn again:Bool}{W W':World}{args:Array Value}{v:Value}{ds gs:List (DataW H)}{before pa pv:List MemPlace}
  (hW:DataW.Whole enc P f.params.toList s.vars apart W args.toList ds gs before)
  (hres:∀(b:Nat) (sp:Nat→Bool) (hd:Bool),DataW.TrodAll enc P W' b sp hd f.resultTypes.toList (v.resultList f.resultTypes.size) (s.fn H (ds++gs)).results [])
  (hargs:∀sp:Nat→Bool,(∀p∈before,sp p.block=true)→DataW.TrodAll enc P W' 0 sp true f.params.toList args.toList (s.fn H (ds++gs)).args pa)
  (hvars:∀sp:Nat→Bool,(∀p∈before,sp p.block=true)→DataW.TrodVars enc P W' sp s.vars (s.fn H (ds++gs)).vars pv)
  (hps:before=pa++pv) (hk:Below W.heap.size W W')
  (hok:∀(j:Nat) (t:TypeId) (r:Value),f.resultTypes[j]? =some t→(v.resultList f.resultTypes.size)[j]? =some r→Value.okWide P W' .any 0 t r):
  s.post enc P f apart fresh handsOn again W args v W':=by
 have hlt:∀p∈before,p.block<W.heap.size:=fun p hp=>hW.lt p hp
 have hold:∀p∈before,(fun b=>decide (b<W.heap.size)) p.block=true:=fun p hp=>by simpa using hlt p hp
 refine⟨ds,gs,before, [],pa,pv,hW,hres _ _ _,hargs _ hold,hvars _ hold,World.keptBut_mono (fun p hp=>⟨hp,?_⟩) (hk.frame (· ∈before)),fun _=> ?_⟩
 ·rw [hps,List.mem_append]at hp
  exact Or.inr hp
 ·obtain⟨_,_,_,_,_,hz,hn⟩:=hW
  refine⟨hok,_,_,([]++pa)++pv,⟨[]++pa,pv,trodAll_append (hargs _ (fun _ _=>rfl)) (hres _ _ _),hvars _ (fun _ _=>rfl),rfl,?_,?_⟩,?_⟩
  ·intro b off hp
   have hp':MemPlace.cell b off∈before:=by rw [hps];simpa using hp
   rw [hk.frozen (hlt _ hp')];exact hz b off hp'
  ·intro ha
   have:=hn ha;rw [hps]at this;simpa using this
  ·intro p hp _
   rw [hps];simpa using hp
end
end
end Go.Sx
