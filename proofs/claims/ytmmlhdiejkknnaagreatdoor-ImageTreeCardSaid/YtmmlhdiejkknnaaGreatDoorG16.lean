/-
  Parts of the proof: SxU SxV SxW
-/
import Derived.Test.YtmmlhdiejkknnaaGreatDoorG05
import Derived.Recover
set_option maxRecDepth 100000
set_option maxHeartbeats 0
namespace Go.Sx
noncomputable section
def noE:SV→T SV→HS→Bool:=fun _ _ _=>false
theorem nD{ds:List Deferred}{ρ:Nat→Loc}{h:HS}{sz:Nat}{c:List PanicEntry}{a:Act}{w:World} :¬jO ds ρ h sz noE c a w:=fun⟨_,_,_,_,_,_,hk,_⟩=>absurd hk Bool.false_ne_true
theorem Bx{ds:List Deferred}{P:Program}{call:da}(CS:eu P call){sz:Nat}{ops:Array Oper}{K:T SV→HS→Bool}{E:SV→T SV→HS→Bool}{Q:Exit→Act→World→Prop}{l':List Nat} :∀(l:List Nat) (os:List Oper),l.map (fun i=>ops[i]?)=os.map some→
  ∀ {tm:T SV} {h:HS},lF P call sz E ops.toList K os tm h→∀ {ρ:Nat→Loc} {a:Act} {w:World},cG ds ρ tm sz h.nx a→aL ρ h w→(∀a' w',jI ds ρ h sz K a' w'→wpOps P ops Q l' a' w')→(∀c a' w',jO ds ρ h sz E c a' w'→Q (.panic c) a' w')→wpOps P ops Q (l++l') a w:=by
 intro l
 induction l with
 |nil=>
  intro os hos tm h hk ρ a w A H hn hp
  cases os with
  |nil=>exact hn a w ⟨tm,h,ρ,hk,A,H,Ext.refl _ _,Nat.le_refl _,Mem.le_refl _⟩
  |cons o os=>simp at hos
 |cons i l ih=>
  intro os hos tm h hk ρ a w A H hn hp
  cases os with
  |nil=>simp at hos
  |cons o os=>
   simp only [List.map_cons,List.cons.injEq]at hos;obtain⟨hi,hos⟩:=hos;simp only [List.cons_append,wpOps,hi];rw [lS]at hk;obtain⟨b,tm',hk',A',hw⟩:=gW hk A;rw [hw]
   cases b with
   |true=>
    simp only [if_true];refine .inl (tY CS hk' A' H (fun a' w' g=> ?_) hp);obtain⟨tm2,h2,ρ2,k2,A2,H2,x2,n2,m2⟩:=g;exact ih os hos k2 A2 H2 (fun a3 w3 g3=>hn a3 w3 (g3.trans x2 n2 m2)) fun c a3 w3 g3=>hp c a3 w3 (g3.trans x2 n2 m2)
   |false=>
    simp only [Bool.false_eq_true,if_false];simp only [cond_false]at hk';obtain⟨tm2,k2,A2⟩:=cD (v:=fQ) hk' A' trivial;exact ih os hos k2 A2 H hn hp
theorem By{ds:List Deferred}{P:Program}{call:da}(CS:eu P call){sz:Nat}{ops:Array Oper}{K:T SV→HS→Bool}{E:SV→T SV→HS→Bool}{Q:Exit→Act→List Frame→World→Prop}{cs:List Frame} :∀(l:List Nat) (os:List Oper),l.map (fun i=>ops[i]?)=os.map some→
  ∀ {tm:T SV} {h:HS},lF P call sz E ops.toList K os tm h→∀ {ρ:Nat→Loc} {a:Act} {w:World},cG ds ρ tm sz h.nx a→aL ρ h w→(∀a' w',jI ds ρ h sz K a' w'→Q .normal a' cs w')→(∀c a' w',jO ds ρ h sz E c a' w'→Q (.panic c) a' cs w')→wpOpsS P ops Q l a cs w:=by
 intro l
 induction l with
 |nil=>
  intro os hos tm h hk ρ a w A H hn hp
  cases os with
  |nil=>exact hn a w ⟨tm,h,ρ,hk,A,H,Ext.refl _ _,Nat.le_refl _,Mem.le_refl _⟩
  |cons o os=>simp at hos
 |cons i l ih=>
  intro os hos tm h hk ρ a w A H hn hp
  cases os with
  |nil=>simp at hos
  |cons o os=>
   simp only [List.map_cons,List.cons.injEq]at hos;obtain⟨hi,hos⟩:=hos;simp only [wpOpsS,hi];rw [lS]at hk;obtain⟨b,tm',hk',A',hw⟩:=gW hk A;rw [hw]
   cases b with
   |true=>
    simp only [if_true]
    have key:o.wp P a w (fun a' w'=>wpOpsS P ops Q l a' cs w') (fun e a' w'=>Q e a' cs w'):=by
     refine tY CS hk' A' H (fun a' w' g=> ?_) hp;obtain⟨tm2,h2,ρ2,k2,A2,H2,x2,n2,m2⟩:=g;exact ih os hos k2 A2 H2 (fun a3 w3 g3=>hn a3 w3 (g3.trans x2 n2 m2)) fun c a3 w3 g3=>hp c a3 w3 (g3.trans x2 n2 m2)
    unfold Oper.wp at key
    split
    ·rename_i w' hr
     rw [hr]at key;exact key.elim
    ·exact key
   |false=>
    simp only [Bool.false_eq_true,if_false];simp only [cond_false]at hk';obtain⟨tm2,k2,A2⟩:=cD (v:=fQ) hk' A' trivial;exact ih os hos k2 A2 H hn hp
def dK(F:HS→Bool):KT:=fun e _ h=>match e with
 | .nrm=>F h
 | .ret=>F h
 |_=>false
def CR(px:Option SV):SV:=match px with
 |none=> .v .nilIface
 |some x=>x
def isRec(o:Oper):Bool:=match o.guard with
 |some _=>false
 |none=>match o.op with
  | .call c=>match c.callee with
    | .builtin b=>(match b with
      | .recover=>true
      |_=>false)
    |_=>false
  |_=>false
theorem Bo{P:Program}{o:Oper}(h:isRec o=true)(ε:Operand→Value)(w:World):o.guard=none∧(execOp ε o).run P w= .ok .recover w:=by
 unfold isRec at h
 split at h
 ·cases h
 ·rename_i hg
  refine⟨hg,?_⟩
  split at h
  ·rename_i c hc
   split at h
   ·rename_i b hb
    cases b<;>first|(cases h;done)|(unfold execOp;rw [hc];simp only [resolve,hb,Sem.run_bind,Sem.run_pure,Result.andThen_ok,invoke,builtin])
   ·cases h
  ·cases h
def BN(P:Program)(C:FuncId→Option CT)(Λ:fl)(n:Nat)(g:FuncId)(caps:List SV)(px:Option SV)(h:HS)(F:HS→Bool):Bool:=
 match Eb P g with
 |none=>false
 |some fn=>bif fn.name== "runtime.NumGoroutine" then false else
  match fn.results.toList with
  |_::_=>false
  | []=>match fn.body with
    |some (.seq (.region _ ops draw) rest)=>bif draw then false else(match ops.toList with
     | []=>false
     |o::os=>bif isRec o then dU (caps.length+(fn.ntmps-caps.length)) o.dst (CR px) (fun tm=>lF P (ml P C Λ n) (caps.length+(fn.ntmps-caps.length)) noE (o::os) (fun tm h=>fx P C Λ n g (caps.length+(fn.ntmps-caps.length)) rest (dK F) tm h) os tm h) (T.ofList caps)else false)
    |_=>false
def z7(ρ:Nat→Loc)(h:HS)(F:HS→Bool)(w':World):Prop:=∃h' ρ',F h'∧aL ρ' h' w'∧Ext ρ ρ' h.nx∧h.nx≤h'.nx∧h.M.le h'.M
def DB(ρ:Nat→Loc)(px:Option SV):FrameMode:=match px with
 |none=> .returning
 |some x=> .panicking (pnc (x.den ρ))
theorem sU{ρ:Nat→Loc}{nx k:Nat}{caps:List SV}(hl:∀x∈caps,x.lt ρ nx):cG [] ρ (T.ofList caps) (caps.length+(k-caps.length)) nx { tmps:=(caps.map (SV.den ρ)).toArray++Array.replicate (k-(caps.map (SV.den ρ)).toArray.size) undef,defers:= [] } :=by
 refine⟨by simp,fun i x hi=> ?_,rfl⟩;have hx:=T.qN hi;refine⟨hl x (List.mem_of_getElem? hx),?_⟩;have hlt:=(List.getElem?_eq_some_iff.1 hx).1;rw [Array.getElem?_append_left (by simpa using hlt)];simp [hx]
theorem results_none{P:Program}{fn:Func}(h:fn.results.toList= [])(tmps:Array Value)(w:World):(results fn tmps).run P w= .ok (.tuple #[]) w:=by
 have h0:fn.results= #[]:=Array.toList_inj.1 h;rw [lL,h0,Array.mapM_eq_mapM_toList];simp
theorem BM{P:Program}(hm:P.follows .mixedOrders=true){C:FuncId→Option CT}(hC:aI P C){Λ:fl}(hΛ:cZ P Λ){n:Nat}{g:FuncId}{caps:List SV}{px:Option SV}{h:HS}{F:HS→Bool}(hk:BN P C Λ n g caps px h F=true)
  {ρ:Nat→Loc} {w:World} (R:aL ρ h w) (hcaps:∀x∈caps,x.lt ρ h.nx) (hpx:∀x,px=some x→x.lt ρ h.nx):
  (∃fn,P.funcs[g]? =some fn∧(fn.name== "runtime.NumGoroutine")=false∧fn.body.isNone=false)∧
  CallsD P g (caps.map (SV.den ρ)).toArray (DB ρ px) w fun e u' w'=>e= .returned (.tuple #[])∧settle u'= .returning∧z7 ρ h F w':=by
 unfold BN at hk
 split at hk
 ·exact absurd hk Bool.false_ne_true
 ·rename_i fn hfn
  have hf:=Ea hfn
  cases hname:fn.name== "runtime.NumGoroutine" with
  |true=>rw [hname]at hk;exact absurd hk Bool.false_ne_true
  |false=>
   rw [hname]at hk;simp only [cond_false]at hk
   split at hk
   ·exact absurd hk Bool.false_ne_true
   ·rename_i hres
    split at hk
    ·rename_i id ops draw rest hb
     cases draw with
     |true=>exact absurd hk Bool.false_ne_true
     |false=>
      simp only [cond_false]at hk
      split at hk
      ·exact absurd hk Bool.false_ne_true
      ·rename_i o os hops
       cases hrec:isRec o with
       |false=>rw [hrec]at hk;exact absurd hk Bool.false_ne_true
       |true=>
        rw [hrec]at hk;simp only [cond_true]at hk;refine⟨⟨fn,hf,hname,by rw [hb];rfl⟩,callsD_of_wpS hf hb fun c₀ cs hc₀=> ?_⟩;have A:=sU (k:=fn.ntmps) hcaps
        have hl:(CR px).lt ρ h.nx:=by
         cases px with
         |none=>trivial
         |some x=>exact hpx x rfl
        obtain⟨tm1,hk1,A1⟩:=cD hk A hl;have CS:=ly hm hC hΛ n
        have h0:ops[0]? =some o:=by
         have:=congrArg (fun l=>l[0]?) hops;simpa using this
        have hsz:List.range ops.size=0::(List.range os.length).map (· +1):=by
         have:ops.size=os.length+1:=by
          have:=congrArg List.length hops;simpa using this
         rw [this,List.range_succ_eq_map]
        have hmap:((List.range os.length).map (· +1)).map (fun i=>ops[i]?)=os.map some:=by
         apply List.ext_getElem?;intro i;simp only [List.map_map,List.getElem?_map]
         by_cases hi:i<os.length
         ·have:ops[i+1]? =os[i]? :=by
            have:=congrArg (fun l=>l[i+1]?) hops;simpa using this
          rw [List.getElem?_range hi];simp only [Option.map_some,Function.comp];rw [this,List.getElem?_eq_getElem hi];rfl
         ·rw [List.getElem?_eq_none (by simpa using hi),List.getElem?_eq_none (by simpa using hi)]
          rfl
        let u':FrameMode:=match px with
         |none=> .returning
         |some x=> .panicking [{ v:=x.den ρ,recovered:=true }]
        have hset:settle u'= .returning:=by cases px<;>rfl
        have fin:∀a' w',jI [] ρ h (caps.length+(fn.ntmps-caps.length)) (fun _ h=>F h) a' w'→
          a'.defers= []∧∃u'', { c₀ with mode:=u' } ::cs= { c₀ with mode:=u'' } ::cs∧∃v,(results fn a'.tmps).run P w'= .ok v w'∧(Ending.returned v= .returned (.tuple #[])∧settle u''= .returning∧z7 ρ h F w'):=by
         intro a' w' ⟨tm',h',ρ',k',A',R',x',n',m'⟩;exact⟨A'.defers,u',rfl,_,results_none hres _ _,rfl,hset,h',ρ',k',R',x',n',m'⟩
        refine wpS_seq (wpS_region ?_);rw [hsz];obtain⟨hg,hrun⟩:=Bo (P:=P) hrec (Act.eval { tmps:=(caps.map (SV.den ρ)).toArray++Array.replicate (fn.ntmps-(caps.map (SV.den ρ)).toArray.size) undef,defers:= [] }) w;have hwant:∀y,Region.wanted o y=true:=fun y=>by simp [Region.wanted,hg]
        have rest':wpOpsS P ops (Exit.thenS (rest.wpS P (bodyPostS P fn c₀ cs fun e u' w'=>e= .returned (.tuple #[])∧settle u'= .returning∧z7 ρ h F w')) (bodyPostS P fn c₀ cs fun e u' w'=>e= .returned (.tuple #[])∧settle u'= .returning∧z7 ρ h F w'))
          ((List.range os.length).map (· +1)) (Act.put { tmps:=(caps.map (SV.den ρ)).toArray++Array.replicate (fn.ntmps-(caps.map (SV.den ρ)).toArray.size) undef,defers:= [] } o.dst ((CR px).den ρ)) ({ c₀ with mode:=u' } ::cs) w:=by
         have hk2:lF P (ml P C Λ n) (caps.length+(fn.ntmps-caps.length)) noE ops.toList (fun tm h=>fx P C Λ n g (caps.length+(fn.ntmps-caps.length)) rest (dK F) tm h) os tm1 h=true:=by rw [hops];exact hk1
         refine By CS _ os hmap hk2 A1 R (fun a' w' g=> ?_) fun c a' w' g=>(nD g).elim
         obtain⟨tm2,h2,ρ2,k2,A2,R2,x2,n2,m2⟩:=g;show rest.wpS P _ a' _ w'
         refine wpS_of_wp (wp_mono ((iO hm hC hΛ n).1 _ _ _ _ _ _ ⟨fn,_,hf,hb,.seqR (.refl _)⟩ k2 [] ρ2 a' w' A2 R2) fun e a3 w3 g3=> ?_)
         cases e with
         |normal=>exact fin a3 w3 (jI.trans g3 x2 n2 m2)
         |ret=>exact fin a3 w3 (jI.trans g3 x2 n2 m2)
         |exit i=>obtain⟨_,_,_,hk',_⟩:=g3;exact absurd hk' Bool.false_ne_true
         |goto l=>exact g3.elim
         |panic c=>obtain⟨_,_,_,_,_,_,hk',_⟩:=g3;exact absurd hk' Bool.false_ne_true
         |outgrown=>exact g3.elim
        simp only [wpOpsS,h0,hwant,if_true,hrun]
        cases px with
        |none=>
         have hc1:c₀.mode= .returning:=hc₀;have hr:recoverD (c₀::cs)=none:=by simp [recoverD,hc1]
         rw [hr]
         have e1:({ c₀ with mode:=u' } :Frame)=c₀:=by
          show({ c₀ with mode:=FrameMode.returning } :Frame)=c₀
          rw [←hc1]
         rw [e1]at rest';exact rest'
        |some x=>
         have hc1:c₀.mode= .panicking [{ v:=x.den ρ,recovered:=false }]:=hc₀;have hr:recoverD (c₀::cs)=some (x.den ρ, { c₀ with mode:=u' } ::cs):=by simp [recoverD,hc1,u']
         rw [hr];exact rest'
    ·exact absurd hk Bool.false_ne_true
theorem oZ{ds:List Deferred}{P:Program}{fn:Func}{tm:T SV}{h:HS}{ρ:Nat→Loc}{sz:Nat}{a:Act}{w:World}(A:cG ds ρ tm sz h.nx a)(H:aL ρ h w){vs:List SV}(hvs:xu P tm h fn.results.toList=some vs):
  (results fn a.tmps).run P w= .ok ((oneOf vs).den ρ) w∧(oneOf vs).lt ρ h.nx:=by
 obtain⟨r1,r2⟩:=uU A H _ _ hvs;refine⟨?_,?_⟩
 ·rw [lL,Array.mapM_eq_mapM_toList]
  simp only [Sem.run_bind,Sem.run_map];rw [r1];simp only [Result.andThen_ok,Sem.run_pure];congr 1
  match vs with
  | []=>simp [oneOf,SV.den,SV.gC]
  | [v]=>simp [oneOf]
  |v::u::vs=>simp [oneOf,SV.den,SV.gC,cS]
 ·match vs with
  | []=>trivial
  | [v]=>exact r2 v (by simp)
  |v::u::vs=>exact dj.2 r2
def Aw(P:Program)(rs:List ResultVar)(K:SV→HS→Bool)(tm:T SV)(h:HS):Bool:=match xu P tm h rs with
 |some vs=>K (oneOf vs) h
 |none=>false
def outK(P:Program)(C:FuncId→Option CT)(Λ:fl)(n:Nat)(g:FuncId)(caps:List SV)(rs:List ResultVar)(K:SV→HS→Bool):KT:=fun e tm h=>match e with
 | .ext _=>false
 | .pnc x=>BN P C Λ n g caps (some x) h fun h=>Aw P rs K tm h
 | .nrm=>BN P C Λ n g caps none h fun h=>Aw P rs K tm h
 | .ret=>BN P C Λ n g caps none h fun h=>Aw P rs K tm h
def ui(o:Oper):Option Operand:=match o.guard with
 |some _=>none
 |none=>match o.dst with
  |some _=>none
  |none=>match o.op with
   | .defer c=>match c.callee with
     | .value f=>(match c.args.toList with
       | []=>some f
       |_=>none)
     |_=>none
   |_=>none
theorem wm{P:Program}{o:Oper}{fv:Operand}(h:ui o=some fv)(ε:Operand→Value)(w:World){g:FuncId}{cap:Array Value}(hv:ε fv= .func (.func g) #[] cap):
  o.guard=none∧o.dst=none∧(execOp ε o).run P w= .ok (.defer { target:= .fn (.func g) cap,args:= #[] }) w:=by
 unfold ui at h
 split at h
 ·cases h
 ·rename_i hg
  split at h
  ·cases h
  ·rename_i hd
   refine⟨hg,hd,?_⟩
   split at h
   ·rename_i c hc
    split at h
    ·rename_i f hf
     split at h
     ·rename_i ha
      injection h with h
      subst h;have ha:c.args= #[]:=Array.toList_inj.1 ha;unfold execOp;rw [hc];simp only [resolve,hf,ha,hv,Deferred.ofValue,Sem.run_bind,Sem.run_pure,Result.andThen_ok];simp
     ·cases h
    ·cases h
   ·cases h
def pB(P:Program)(C:FuncId→Option CT)(Λ:fl)(n:Nat)(f:FuncId):CT:=fun args h K=>
 match Eb P f with
 |none=>false
 |some fn=>bif fn.name== "runtime.NumGoroutine" then false else
  match fn.body with
  |some (.seq (.region _ ops0 d0) (.seq (.region _ ops1 d1) rest))=>bif d0 then false else bif d1 then false else
   lF P (ml P C Λ n) (args.length+(fn.ntmps-args.length)) noE ops0.toList (fun tm h=>match ops1.toList with
    | [o1,o2]=>(match ui o2 with
      |some fv=>lF P (ml P C Λ n) (args.length+(fn.ntmps-args.length)) noE [o1,o2] (fun tm h=>match opd tm fv with
       |some z=>(match ER z with
        |some (g,caps)=>fx P C Λ n f (args.length+(fn.ntmps-args.length)) rest (outK P C Λ n g caps fn.results.toList K) tm h
        |none=>false)
       |none=>false) [o1] tm h
      |none=>false)
    |_=>false) ops0.toList (T.ofList args) h
  |_=>false
theorem mW{P:Program}(hm:P.follows .mixedOrders=true){C:FuncId→Option CT}(hC:aI P C){Λ:fl}(hΛ:cZ P Λ){n:Nat}{f:FuncId}{args:List SV}{h:HS}{K:SV→HS→Bool}(hk:pB P C Λ n f args h K=true)
  {ρ:Nat→Loc} {w:World} (R:aL ρ h w) (hargs:∀x∈args,x.lt ρ h.nx):db P f (args.map (SV.den ρ)).toArray w (cT ρ h K) fun _ _=>False:=by
 have CS:=ly hm hC hΛ n;unfold pB at hk
 split at hk
 ·exact absurd hk Bool.false_ne_true
 ·rename_i fn hfn
  have hf:=Ea hfn
  cases hname:fn.name== "runtime.NumGoroutine" with
  |true=>rw [hname]at hk;exact absurd hk Bool.false_ne_true
  |false=>
   rw [hname]at hk;simp only [cond_false]at hk
   split at hk
   ·rename_i id0 ops0 d0 id1 ops1 d1 rest hb
    cases d0 with
    |true=>exact absurd hk Bool.false_ne_true
    |false=>cases d1 with
     |true=>exact absurd hk Bool.false_ne_true
     |false=>
      simp only [cond_false]at hk;refine .inl ⟨fn,hf,⟨hname,by rw [hb];rfl⟩,calls_of_wp_defers hf hb ?_⟩;have A:=sU (k:=fn.ntmps) hargs;refine wp_seq (wp_region (vW CS (List.range ops0.size) ops0.toList ?_ hk A R (fun a1 w1 g1=> ?_) fun c a w g=>(nD g).elim))
      ·apply List.ext_getElem?
       intro i;simp only [List.getElem?_map]
       by_cases hi:i<ops0.size
       ·rw [List.getElem?_range hi]
        simp [hi]
       ·rw [List.getElem?_eq_none (by simpa using hi),List.getElem?_eq_none (by simpa using hi)]
        rfl
      ·obtain⟨tm1,h1,ρ1,k1,A1,R1,x1,n1,m1⟩:=g1
       simp only at k1
       split at k1
       ·rename_i o1 o2 hops
        split at k1
        ·rename_i fv hfv
         have i0:ops1[0]? =some o1:=by
          have:=congrArg (fun l=>l[0]?) hops;simpa using this
         have i1:ops1[1]? =some o2:=by
          have:=congrArg (fun l=>l[1]?) hops;simpa using this
         have hsz:List.range ops1.size= [0]++ [1]:=by
          have:ops1.size=2:=by
           have:=congrArg List.length hops;simpa using this
          rw [this];rfl
         show(Code.seq _ rest).wp P _ a1 w1
         refine wp_seq (wp_region ?_);rw [hsz];rw [←hops]at k1;refine Bx CS [0] [o1] (by simp [i0]) k1 A1 R1 (fun a2 w2 g2=> ?_) fun c a w g=>(nD g).elim
         obtain⟨tm2,h2,ρ2,k2,A2,R2,x2,n2,m2⟩:=g2;simp only at k2
         split at k2
         ·rename_i z hz
          split at k2
          ·rename_i g caps hgz
           obtain⟨e1,e2⟩:=aT A2 hz;obtain⟨e3,e4⟩:=wK hgz ρ2 e2;obtain⟨hgd,hdst,hrun⟩:=wm (P:=P) hfv a2.eval w2 (e1.trans e3);have hwant:∀y,Region.wanted o2 y=true:=fun y=>by simp [Region.wanted,hgd]
           simp only [wpOps,i1,hwant,if_true];refine .inl ?_;unfold Oper.wp;rw [hrun,Oper.upon_defer,hdst];show rest.wp P _ _ w2
           let d:Deferred:= { target:= .fn (.func g) (caps.map (SV.den ρ2)).toArray,args:= #[] }
           have A3:cG [d] ρ2 tm2 (args.length+(fn.ntmps-args.length)) h2.nx { a2 with defers:=d::a2.defers } :=⟨A2.size,A2.at_,by rw [A2.defers]⟩
           have leave:∀(px:Option SV) (tm4:T SV) (h4:HS) (ρ4:Nat→Loc) (a4:Act) (w4:World),(∀x,px=some x→x.lt ρ4 h4.nx)→
             BN P C Λ n g caps px h4 (fun h=>Aw P fn.results.toList K tm4 h)=true→cG [d] ρ4 tm4 (args.length+(fn.ntmps-args.length)) h4.nx a4→aL ρ4 h4 w4→Ext ρ2 ρ4 h2.nx→h2.nx≤h4.nx→h2.M.le h4.M→
             Leaves P fn a4.tmps (fun e w'=>(∃v,e= .returned v∧cT ρ h K v w')∨∃v,e= .panicked (pnc v)∧False) a4.defers (DB ρ4 px) w4:=by
            intro px tm4 h4 ρ4 a4 w4 hpx k4 A4 R4 x4 n4 m4;have hc4:∀x∈caps,x.lt ρ4 h4.nx:=fun x hx=>SV.eK x4 n4 x (e4 x hx)
            have hcap:(caps.map (SV.den ρ4))=caps.map (SV.den ρ2):=List.map_congr_left fun x hx=>SV.dN x4 x (e4 x hx)
            obtain⟨⟨fg,hfg,hng,hbg⟩,hcalls⟩:=BM hm hC hΛ k4 R4 hc4 hpx;rw [A4.defers];refine leaves_cons (f:=g) (args:=(caps.map (SV.den ρ4)).toArray) ?_ ?_ (hcalls.mono fun e u' w' hor=> ?_)
            ·cases px<;>(intro e;cases e)
            ·simp only [invoke,callFunc,Sem.run_bind,Result.andThen_ok,run_program,hfg,hng,hbg,Bool.false_eq_true,if_false,Sem.run_pure,hcap]
             simp
            ·obtain⟨he,hs,h5,ρ5,k5,R5,x5,n5,m5⟩:=hor
             subst he;show Leaves P fn a4.tmps _ [] (settle u') w'
             rw [hs];have k5:Aw P fn.results.toList K tm4 h5=true:=k5;unfold Aw at k5
             split at k5
             ·rename_i vs hvs
              obtain⟨r1,r2⟩:=oZ (A4.ext x5 n5) R5 hvs;refine⟨_,r1,.inl ⟨_,rfl,oneOf vs,h5,ρ5,k5,rfl,r2,R5,?_,?_,?_⟩⟩
              ·exact((x1.trans x2 n1).trans x4 (Nat.le_trans n1 n2)).trans x5 (Nat.le_trans (Nat.le_trans n1 n2) n4)
              ·exact Nat.le_trans (Nat.le_trans (Nat.le_trans n1 n2) n4) n5
              ·exact Mem.le_trans (Mem.le_trans (Mem.le_trans m1 m2) m4) m5
             ·exact absurd k5 Bool.false_ne_true
           refine wp_mono ((iO hm hC hΛ n).1 _ _ _ _ _ _ ⟨fn,_,hf,hb,.seqR (.seqR (.refl _))⟩ k2 [d] ρ2 _ w2 A3 R2) fun e a4 w4 g4=> ?_
           cases e with
           |normal=>
            obtain⟨tm4,h4,ρ4,k4,A4,R4,x4,n4,m4⟩:=g4;exact leave none tm4 h4 ρ4 a4 w4 (fun x e=>by cases e) k4 A4 R4 x4 n4 m4
           |ret=>
            obtain⟨tm4,h4,ρ4,k4,A4,R4,x4,n4,m4⟩:=g4;exact leave none tm4 h4 ρ4 a4 w4 (fun x e=>by cases e) k4 A4 R4 x4 n4 m4
           |exit i=>obtain⟨_,_,_,hk',_⟩:=g4;exact absurd hk' Bool.false_ne_true
           |goto l=>exact g4.elim
           |panic c=>
            obtain⟨x,tm4,h4,ρ4,hc,hl,k4,A4,R4,x4,n4,m4⟩:=g4;subst hc;exact leave (some x) tm4 h4 ρ4 a4 w4 (fun y e=>by injection e with e;subst e;exact hl) k4 A4 R4 x4 n4 m4
           |outgrown=>exact g4.elim
          ·exact absurd k2 Bool.false_ne_true
         ·exact absurd k2 Bool.false_ne_true
        ·exact absurd k1 Bool.false_ne_true
       ·exact absurd k1 Bool.false_ne_true
   ·exact absurd hk Bool.false_ne_true
end
end Go.Sx
