/-
  Parts of the proof: SxN SxO SxQ
-/
import Derived.Test.YtphigpccfbfnoaaGreatDoorG13
import Derived.ChangeSame
set_option maxRecDepth 100000
set_option maxHeartbeats 0
namespace Go.Sx
noncomputable section
variable {dfs : List Deferred}
inductive SX where
 |nrm
 |ext (id:Nat)
 |ret
 |pnc (x:SV)
abbrev KT:=SX→T SV→HS→Bool
abbrev CT:=List SV→HS→(SV→HS→Bool)→Bool
def ET(P:Program)(tm:T SV)(h:HS):List ResultVar→Option (List SV)
 | []=>some []
 |r::rs=>match (match r with
    | .tmp t=>tm.get t
    | .cell x t=>match tm.get x with
      |some x=>iW P h t x
      |none=>none),ET P tm h rs with
  |some v,some vs=>some (v::vs)
  |_,_=>none
def oneOf:List SV→SV
 | [v]=>v
 |vs=> .tup vs
abbrev LT:=Code→Nat→KT→T SV→HS→Bool
structure jQ where
 lt:FuncId→Nat→Option LT
 mg:FuncId→Bool
 gc:FuncId→Nat→Option (List Nat)
def retK(P:Program)(mg:Bool)(n0:Nat)(rs:List ResultVar)(K E:SV→HS→Bool)(e:SX)(tm:T SV)(h:HS):Bool:=
 match e with
 | .ext _=>false
 | .pnc x=>E x h
 |_=>match ET P tm h rs with
  |some vs=>bif mg then AH n0 (oneOf vs) h K else K (oneOf vs) h
  |none=>false
def Bq(P:Program)(mg:FuncId→Bool)(code:FuncId→Nat→Code→KT→T SV→HS→Bool)(f:FuncId)(args:List SV)(h:HS)(K E:SV→HS→Bool)(fn:Func)(c:Code):Bool:=
 bif fn.name== "runtime.NumGoroutine" then false else
  code f (args.length+(fn.ntmps-args.length)) c (retK P (mg f) h.nx fn.results.toList K E) (T.ofList args) h
def xw(P:Program)(mg:FuncId→Bool)(code:FuncId→Nat→Code→KT→T SV→HS→Bool)(C:FuncId→Option CT):ed:=fun f args h K E=>
 match C f with
 |some ct=>ct args h K
 |none=>match fnOf P f with
  |none=>false
  |some fn=>match fn.body with
   |none=>false
   |some c=>Bq P mg code f args h K E fn c
abbrev u0:=FuncId→Nat→Code→KT→T SV→HS→Bool
def seqK(ih:u0)(f:FuncId)(sz:Nat)(b:Code)(K:KT)(e:SX)(tm:T SV)(h:HS):Bool:=match e with
 | .nrm=>ih f sz b K tm h
 |e=>K e tm h
def blkK(id:Nat)(K:KT)(e:SX)(tm:T SV)(h:HS):Bool:=match e with
 | .ext i=>bif Nat.beq i id then K .nrm tm h else K (.ext i) tm h
 |e=>K e tm h
def Et(ih:u0)(f:FuncId)(sz:Nat)(x:Option SV)(a b:Code)(K:KT)(tm:T SV)(h:HS):Bool:=match x with
 |some (.v (.bool t))=>bif t then ih f sz a K tm h else ih f sz b K tm h
 |_=>false
def Bg(Λ:jQ)(ih:u0)(f:FuncId)(sz:Nat)(id:Nat)(a:Code)(K:KT)(tm:T SV)(h:HS):Bool:=match Λ.lt f id with
 |some lt=>lt a sz K tm h
 |none=>match Λ.gc f id with
  |some live=>gcK live tm h (fun tm h=>ih f sz a (blkK id K) tm h)
  |none=>ih f sz a (blkK id K) tm h
def oK:List Oper→T SV→T SV
 | [],tm=>tm
 |o::os,tm=>match o.dst with
  |none=>oK os tm
  |some d=>oK os (tm.del d)
theorem jW:∀ {os:List Oper} {tm:T SV} {i:Nat} {x:SV},(oK os tm).get i=some x→tm.get i=some x∧∀o∈os,o.dst≠some i
 | [],_,_,_,h=>⟨h,fun _ ho=>by cases ho⟩
 |o::os,tm,i,x,h=>by
  simp only [oK]at h
  cases hd:o.dst with
  |none=>
   rw [hd]at h;obtain⟨h1,h2⟩:=jW h
   exact⟨h1,fun o' ho'=>by
    rcases List.mem_cons.1 ho' with rfl|ho'
    ·rw [hd];exact fun e=>by cases e
    ·exact h2 o' ho'⟩
  |some d=>
   rw [hd]at h;obtain⟨h1,h2⟩:=jW h;obtain⟨h3,h4⟩:=T.dD h1
   exact⟨h4,fun o' ho'=>by
    rcases List.mem_cons.1 ho' with rfl|ho'
    ·rw [hd];exact fun e=>h3 (by injection e with e;exact e.symm)
    ·exact h2 o' ho'⟩
def regE(ops:Array Oper)(K:KT)(x:SV)(tm:T SV)(h:HS):Bool:=K (.pnc x) (oK ops.toList tm) h
def nv(P:Program)(call:ed)(sz:Nat)(ops:Array Oper)(draw:Bool)(K:KT)(tm:T SV)(h:HS):Bool:=
 bif draw then
  match zM P ops with
  |some pl=>bif h.M.X.op||vP pl then fE P call sz (K .nrm) (regE ops K) pl [] tm h else fE P call sz (fun tm' h'=>AF h.nx sz tm' h' (K .nrm)) (regE ops K) pl [] tm h
  |none=>false
 else BR P call sz (regE ops K) ops.toList (K .nrm) ops.toList tm h
def sxReg(P:Program)(call:ed)(Λ:jQ)(f:FuncId)(sz:Nat)(id:Nat)(ops:Array Oper)(draw:Bool)(K:KT)(tm:T SV)(h:HS):Bool:=match Λ.gc f (Nat.add 1000000 id)with
 |some live=>gcK live tm h (fun tm h=>nv P call sz ops draw K tm h)
 |none=>nv P call sz ops draw K tm h
def kM(P:Program)(C:FuncId→Option CT)(Λ:jQ)(ih:u0)(f:FuncId)(sz:Nat)(c:Code)(K:KT)(tm:T SV)(h:HS):Bool:=
 match c with
 | .skip=>K .nrm tm h
 | .label _=>K .nrm tm h
 | .ret=>K .ret tm h
 | .exit id=>K (.ext id) tm h
 | .seq a b=>ih f sz a (seqK ih f sz b K) tm h
 | .cond x a b=>Et ih f sz (opd tm x) a b K tm h
 | .block id a=>Bg Λ ih f sz id a K tm h
 | .scope a=>ih f sz a K tm h
 | .loop a=>ih f sz a (seqK ih f sz (.loop a) K) tm h
 | .region id ops draw=>sxReg P (xw P Λ.mg ih C) Λ f sz id ops draw K tm h
 |_=>false
def jV(P:Program)(C:FuncId→Option CT)(Λ:jQ)(n:Nat):u0:=
 Nat.rec (motive:=fun _=>u0) (fun _ _ _ _ _ _=>false) (fun _ ih f sz c K tm h=>kM P C Λ ih f sz c K tm h) n
theorem pY(P:Program)(C:FuncId→Option CT)(Λ:jQ)(n:Nat)(f:FuncId)(sz:Nat)(c:Code)(K:KT)(tm:T SV)(h:HS):
 jV P C Λ (n+1) f sz c K tm h=kM P C Λ (jV P C Λ n) f sz c K tm h:=rfl
def ig(dfs:List Deferred)(ρ:Nat→Loc)(h:HS)(sz:Nat)(K:KT):Exit→Act→World→Prop
 | .normal,a,w=>oH dfs ρ h sz (K .nrm) a w
 | .exit i,a,w=>oH dfs ρ h sz (K (.ext i)) a w
 | .ret,a,w=>oH dfs ρ h sz (K .ret) a w
 | .panic c,a,w=>oG dfs ρ h sz (fun x=>K (.pnc x)) c a w
 |_,_,_=>False
theorem ig.trans{ρ ρ':Nat→Loc}{h h':HS}{sz:Nat}{K:KT}{e:Exit}{a:Act}{w:World}(g:ig dfs ρ' h' sz K e a w)(hx:Ext ρ ρ' h.nx)(hn:h.nx≤h'.nx)(hm:h.M.le h'.M):ig dfs ρ h sz K e a w:=by
 cases e<;>first|exact oH.trans g hx hn hm|exact oG.trans g hx hn hm|exact g
def aF(P:Program)(C:FuncId→Option CT):Prop:=
 ∀f ct,C f=some ct→∀args h K,ct args h K→∀ρ w,ba ρ h w→(∀x∈args,x.lt ρ h.nx)→dZ P f (args.map (SV.den ρ)).toArray w (dT ρ h K) fun _ _=>False
theorem dZ.mono{P:Program}{f:FuncId}{args:Array Value}{w:World}{Φ Φ' Ψ Ψ':Value→World→Prop}(g:dZ P f args w Φ Ψ)(h1:∀v w',Φ v w'→Φ' v w')(h2:∀v w',Ψ v w'→Ψ' v w'):dZ P f args w Φ' Ψ':=by
 rcases g with⟨fn,a,b,c⟩|⟨v,w',a,b⟩
 ·exact .inl ⟨fn,a,b,c.mono fun e w' hor=>by
   rcases hor with⟨v,he,hq⟩|⟨v,he,hq⟩
   ·exact .inl ⟨v,he,h1 _ _ hq⟩
   ·exact .inr ⟨v,he,h2 _ _ hq⟩⟩
 ·exact .inr ⟨v,w',a,h1 _ _ b⟩
theorem rW{ρ:Nat→Loc}{h:HS}{v:Value}{w:World} :¬dT ρ h (fun _ _=>false) v w:=fun⟨_,_,_,hk,_⟩=>absurd hk Bool.false_ne_true
def uZ(dfs:List Deferred)(ops:Array Oper)(ρ:Nat→Loc)(h:HS)(sz:Nat)(K:KT):Exit→Act→World→Prop
 | .panic c,a,w=>∃x tm' h' ρ',c=pnc (x.den ρ')∧x.lt ρ' h'.nx∧K (.pnc x) tm' h'∧(∀i y,tm'.get i=some y→∀o∈ops.toList,o.dst≠some i)∧
    dR dfs ρ' tm' sz h'.nx a∧ba ρ' h' w∧Ext ρ ρ' h.nx∧h.nx≤h'.nx∧h.M.le h'.M
 |e,a,w=>ig dfs ρ h sz K e a w
theorem E5(a:Act)(d:Option Tmp)(v:Value):(a.put d v).tmps.size=a.tmps.size:=by
 cases d<;>simp [Act.put]
theorem CP(a:Act){d:Option Tmp}{i:Nat}(h:d≠some i)(v:Value):(a.put d v).tmps[i]? =a.tmps[i]? :=by
 cases d with
 |none=>rfl
 |some d=>
  have:d≠i:=fun e=>h (by rw [e])
  simp [Act.put,this]
theorem put_defers(a:Act)(d:Option Tmp)(v:Value):(a.put d v).defers=a.defers:=by
 cases d<;>rfl
inductive InC:Code→Code→Prop
 |refl (c:Code):InC c c
 |seqL {a b c:Code} :InC (.seq a b) c→InC a c
 |seqR {a b c:Code} :InC (.seq a b) c→InC b c
 |condL {x:Operand} {a b c:Code} :InC (.cond x a b) c→InC a c
 |condR {x:Operand} {a b c:Code} :InC (.cond x a b) c→InC b c
 |block {i:Nat} {a c:Code} :InC (.block i a) c→InC a c
 |loop {a c:Code} :InC (.loop a) c→InC a c
 |scope {a c:Code} :InC (.scope a) c→InC a c
def jn(P:Program)(f:FuncId)(c:Code):Prop:=∃fn b,P.funcs[f]? =some fn∧fn.body=some b∧InC c b
theorem jn.to{P:Program}{f:FuncId}{c d:Code}(h:jn P f c)(hd:∀ {b},InC c b→InC d b):jn P f d:=by
 obtain⟨fn,b,h1,h2,h3⟩:=h;exact⟨fn,b,h1,h2,hd h3⟩
def fe(P:Program)(Λ:jQ):Prop:=
 ∀f id lt,Λ.lt f id=some lt→∀c sz K tm h,jn P f (.block id c)→lt c sz K tm h→∀dfs ρ a w,dR dfs ρ tm sz h.nx a→ba ρ h w→(Code.block id c).wp P (ig dfs ρ h sz K) a w
def resM(tmps:Array Value):ResultVar→Sem Value
 | .tmp t=>pure (tmps.getD t undef)
 | .cell x t=>do loadVar t (←asAddr (tmps.getD x undef))
theorem zA(fn:Func)(tmps:Array Value):results fn tmps=(do
  let vs ←fn.results.mapM (resM tmps)
  pure (if h:vs.size=1 then vs[0]else .tuple vs)):=by
 unfold results;congr 1
theorem ES{P:Program}{tm:T SV}{h:HS}{ρ:Nat→Loc}{sz:Nat}{a:Act}{w:World}(A:dR dfs ρ tm sz h.nx a)(H:ba ρ h w):∀(rs:List ResultVar) (vs:List SV),ET P tm h rs=some vs→
  (rs.mapM (resM a.tmps)).run P w= .ok (vs.map (SV.den ρ)) w∧∀v∈vs,v.lt ρ h.nx:=by
 intro rs
 induction rs with
 |nil=>intro vs h;simp only [ET,Option.some.injEq]at h;subst h;exact⟨rfl,fun _ h=>by cases h⟩
 |cons r rs ih=>
  intro vs hv;simp only [ET]at hv
  split at hv
  ·rename_i v vs' h1 h2
   injection hv with hv;subst hv
   obtain⟨k1,k2⟩:=ih vs' h2
   cases r with
   |tmp t=>
    obtain⟨g1,g2⟩:=A.at_ t v h1;refine⟨?_,fun y hy=> ?_⟩
    ·have hg:a.tmps.getD t undef=v.den ρ:=by simp [g2]
     simp only [List.mapM_cons,resM,Sem.run_bind,Sem.run_pure,Result.andThen_ok,hg];rw [k1];rfl
    ·rcases List.mem_cons.1 hy with rfl|hy
     ·exact g1
     ·exact k2 y hy
   |cell x t=>
    simp only at h1
    split at h1
    ·rename_i xv hx
     obtain⟨g1,g2⟩:=A.at_ x xv hx;obtain⟨l1,l2⟩:=uG h1 H;have hg:a.tmps.getD x undef=xv.den ρ:=by simp [g2]
     refine⟨?_,fun y hy=> ?_⟩
     ·
      have hp:∃ad,xv.den ρ= .pointer (some ad):=by
       unfold iW at h1
       split at h1
       ·cases h1
       ·split at h1
        ·exact⟨_,rfl⟩
        ·exact⟨_,rfl⟩
        ·cases h1
      obtain⟨ad,had⟩:=hp;rw [had]at l1 hg;simp only [Instr.loadAt,Instr.sureAddr,Sem.run_bind,Sem.run_pure,Result.andThen_ok]at l1;have hasA:(asAddr (.pointer (some ad))).run P w= .ok ad w:=rfl;simp only [List.mapM_cons,resM,Sem.run_bind,hg,hasA,Sem.run_pure,Result.andThen_ok,l1];rw [k1];rfl
     ·rcases List.mem_cons.1 hy with rfl|hy
      ·exact l2
      ·exact k2 y hy
    ·cases h1
  ·cases hv
theorem qc{P:Program}{mg:FuncId→Bool}{C:FuncId→Option CT}(hC:aF P C){code:FuncId→Nat→Code→KT→T SV→HS→Bool}
  (hcode:∀f sz c K tm h,jn P f c→code f sz c K tm h→∀dfs ρ a w,dR dfs ρ tm sz h.nx a→ba ρ h w→c.wp P (ig dfs ρ h sz K) a w):iA P (xw P mg code C):=by
 intro f args h K E hk ρ w H hargs;unfold xw at hk
 split at hk
 ·rename_i ct hct
  exact(hC f ct hct args h K hk ρ w H hargs).mono (fun _ _ h=>h) fun _ _ h=>h.elim
 ·split at hk
  ·exact absurd hk Bool.false_ne_true
  ·rename_i fn hfn
   split at hk
   ·exact absurd hk Bool.false_ne_true
   ·rename_i c hb
    have hf:=fn_of hfn;unfold Bq at hk
    cases hname:fn.name== "runtime.NumGoroutine" with
    |true=>rw [hname]at hk;exact absurd hk Bool.false_ne_true
    |false=>
     rw [hname]at hk;simp only [cond_false]at hk;refine .inl ⟨fn,hf,⟨hname,by rw [hb];rfl⟩,calls_of_wp hf hb ?_⟩
     have A:dR [] ρ (T.ofList args) (args.length+(fn.ntmps-args.length)) h.nx { tmps:=(args.map (SV.den ρ)).toArray++Array.replicate (fn.ntmps-(args.map (SV.den ρ)).toArray.size) undef,defers:= [] } :=by
      refine⟨by simp,fun i x hi=> ?_,rfl⟩;have hx:=T.Al hi;refine⟨hargs x (List.mem_of_getElem? hx),?_⟩;have hlt:=(List.getElem?_eq_some_iff.1 hx).1;rw [Array.getElem?_append_left (by simpa using hlt)];simp [hx]
     refine wp_mono (hcode _ _ _ _ _ _ ⟨fn,c,hf,hb,.refl c⟩ hk [] ρ _ w A H) fun e a' w' g=> ?_
     have fin:∀a' w',oH [] ρ h (args.length+(fn.ntmps-args.length)) (retK P (mg f) h.nx fn.results.toList K E .nrm) a' w'→
       a'.defers= []∧∃v,(results fn a'.tmps).run P w'= .ok v w'∧((∃v',Ending.returned v= .returned v'∧dT ρ h K v' w')∨∃v',Ending.returned v= .panicked (pnc v')∧dT ρ h E v' w'):=by
      intro a' w' ⟨tm',h',ρ',hk',A',H',hx,hnx,hm⟩;refine⟨A'.defers,?_⟩;simp only [retK]at hk'
      split at hk'
      ·rename_i vs hvs
       obtain⟨r1,r2⟩:=ES A' H' _ _ hvs
       have hres:(results fn a'.tmps).run P w'= .ok ((oneOf vs).den ρ') w':=by
        rw [zA,Array.mapM_eq_mapM_toList];simp only [Sem.run_bind,Sem.run_map];rw [r1];simp only [Result.andThen_ok,Sem.run_pure];congr 1
        match vs with
        | []=>simp [oneOf,SV.den,SV.iO]
        | [v]=>simp [oneOf]
        |v::u::vs=>simp [oneOf,SV.den,SV.iO,dP]
       have hv:(oneOf vs).lt ρ' h'.nx:=by
        match vs with
        | []=>trivial
        | [v]=>exact r2 v (by simp)
        |v::u::vs=>exact eh.2 r2
       refine⟨_,hres,.inl ⟨_,rfl,?_⟩⟩
       cases hmg:mg f with
       |true=>rw [hmg]at hk';exact yY hk' hv H' hx hm
       |false=>rw [hmg]at hk';exact⟨oneOf vs,h',ρ',hk',rfl,hv,H',hx,hnx,hm⟩
      ·exact absurd hk' Bool.false_ne_true
     cases e with
     |normal=>exact fin a' w' g
     |ret=>exact fin a' w' g
     |exit i=>obtain⟨_,_,_,hk',_⟩:=g;exact absurd hk' Bool.false_ne_true
     |goto l=>exact g.elim
     |panic c=>
      obtain⟨x,tm',h',ρ',hc,hl,hk',A',H',hx,hnx,hm⟩:=g;have hk':E x h'=true:=hk';exact⟨A'.defers,.inr ⟨_,by rw [hc],x,h',ρ',hk',rfl,hl,H',hx,hnx,hm⟩⟩
     |outgrown=>exact g.elim
theorem xA{P:Program}{c:Code}{Q Q':Exit→Act→World→Prop}(hq:∀e a w,Q e a w→Q' e a w):∀(n:Nat) (a:Act) (w:World),Code.rounds P c Q n a w→Code.rounds P c Q' n a w:=by
 intro n
 induction n with
 |zero=>intro a w h;exact h
 |succ n ih=>
  intro a w h;exact wp_mono h fun e a w g=>by cases e<;>first|exact ih _ _ g|exact hq _ _ _ g
theorem uc{P:Program}(hm:P.follows .mixedOrders=true){C:FuncId→Option CT}(hC:aF P C){Λ:jQ}(hΛ:fe P Λ):∀(n:Nat),
  (∀f sz c K tm h,jn P f c→jV P C Λ n f sz c K tm h→∀dfs ρ a w,dR dfs ρ tm sz h.nx a→ba ρ h w→c.wp P (ig dfs ρ h sz K) a w)∧
  (∀f sz c K tm h,jn P f (.loop c)→jV P C Λ n f sz (.loop c) K tm h→∀dfs ρ a w,dR dfs ρ tm sz h.nx a→ba ρ h w→Code.rounds P c (ig dfs ρ h sz K) n a w):=by
 intro n
 induction n with
 |zero=>exact⟨fun _ _ _ _ _ _ _ h=>absurd h Bool.false_ne_true,fun _ _ _ _ _ _ _ h=>absurd h Bool.false_ne_true⟩
 |succ n ih=>
  obtain⟨ih1,ih2⟩:=ih
  have loops:∀f sz c K tm h,jn P f (.loop c)→jV P C Λ (n+1) f sz (.loop c) K tm h→∀dfs ρ a w,dR dfs ρ tm sz h.nx a→ba ρ h w→Code.rounds P c (ig dfs ρ h sz K) (n+1) a w:=by
   intro f sz c K tm h hW hk dfs ρ a w A H;rw [pY]at hk;simp only [kM]at hk;rw [rounds_succ];refine wp_mono (ih1 _ _ _ _ _ _ (hW.to .loop) hk dfs ρ a w A H) fun e a' w' g=> ?_
   cases e with
   |normal=>
    obtain⟨tm',h',ρ',hk',A',H',hx,hnx,hm'⟩:=g;simp only [seqK]at hk';exact xA (fun e a w g=>g.trans hx hnx hm') _ _ _ (ih2 _ _ _ _ _ _ hW hk' dfs ρ' a' w' A' H')
   |exit i=>exact g
   |ret=>exact g
   |goto l=>exact g
   |panic c=>exact g
   |outgrown=>exact g
  refine⟨?_,loops⟩;intro f sz c K tm h hW hk0 dfs ρ a w A H;have here:∀ {K':T SV→HS→Bool},K' tm h→oH dfs ρ h sz K' a w:=fun hk=>⟨tm,h,ρ,hk,A,H,Ext.refl _ _,Nat.le_refl _,Mem.le_refl _⟩
  have hk:=hk0;rw [pY]at hk
  cases c with
  |skip=>exact wp_skip (here hk)
  |label l=>exact wp_label (here hk)
  |ret=>exact wp_ret (here hk)
  |exit id=>exact wp_exit (here hk)
  |seq x y=>
   simp only [kM]at hk;refine wp_seq (wp_mono (ih1 _ _ _ _ _ _ (hW.to .seqL) hk dfs ρ a w A H) fun e a' w' g=> ?_)
   cases e with
   |normal=>
    obtain⟨tm',h',ρ',hk',A',H',hx,hnx,hm'⟩:=g;simp only [seqK]at hk';exact wp_mono (ih1 _ _ _ _ _ _ (hW.to .seqR) hk' dfs ρ' a' w' A' H') fun e a w g=>g.trans hx hnx hm'
   |exit i=>exact g
   |ret=>exact g
   |goto l=>exact g
   |panic c=>exact g
   |outgrown=>exact g
  |cond x y z=>
   simp only [kM,Et]at hk
   split at hk
   ·rename_i t ht
    obtain⟨h1,_⟩:=bg A ht;refine wp_cond (t:=t) h1 ?_
    cases t with
    |true=>exact ih1 _ _ _ _ _ _ (hW.to .condL) hk dfs ρ a w A H
    |false=>exact ih1 _ _ _ _ _ _ (hW.to .condR) hk dfs ρ a w A H
   ·exact absurd hk Bool.false_ne_true
  |block id x=>
   simp only [kM,Bg]at hk
   split at hk
   ·rename_i lt hlt
    exact hΛ f id lt hlt x sz K tm h hW hk dfs ρ a w A H
   have go:∀tm h,jV P C Λ n f sz x (blkK id K) tm h=true→dR dfs ρ tm sz h.nx a→ba ρ h w→(Code.block id x).wp P (ig dfs ρ h sz K) a w:=by
    intro tm h hk A H;refine wp_block (wp_mono (ih1 _ _ _ _ _ _ (hW.to .block) hk dfs ρ a w A H) fun e a' w' g=> ?_)
    cases e with
    |normal=>exact g
    |exit i=>
     obtain⟨tm',h',ρ',hk',A',H',hx,hnx,hm'⟩:=g;simp only [blkK]at hk'
     cases hb:Nat.beq i id with
     |true=>
      rw [hb]at hk';have:=Nat.eq_of_beq_eq_true hb;subst this;simp only [Exit.inBlock,if_true];exact⟨tm',h',ρ',hk',A',H',hx,hnx,hm'⟩
     |false=>
      rw [hb]at hk';have hne:i≠id:=fun e=>by rw [e,Nat.beq_refl]at hb;cases hb
      simp only [Exit.inBlock,hne,if_false];exact⟨tm',h',ρ',hk',A',H',hx,hnx,hm'⟩
    |ret=>exact g
    |goto l=>exact g
    |panic c=>exact g
    |outgrown=>exact g
   split at hk
   ·obtain⟨tm',H',hk',s1,s2⟩:=BP hk
    exact wp_mono (go tm' ⟨H',h.nx,h.M⟩ hk' ⟨A.size,fun i y hi=>A.at_ i y (s1 i y hi),A.defers⟩ (H.less s2)) fun e a' w' g=>g.trans (Ext.refl _ _) (Nat.le_refl _) (Mem.le_refl _)
   ·exact go tm h hk A H
  |scope x=>
   simp only [kM]at hk;refine wp_scope_straight (wp_mono (ih1 _ _ _ _ _ _ (hW.to .scope) hk dfs ρ a w A H) fun e a' w' g=> ?_)
   cases e<;>exact g
  |loop x=>exact wp_loop_rounds (n+1) (loops f sz x K tm h hW hk0 dfs ρ a w A H)
  |region id ops draw=>
   have CS:=qc (mg:=Λ.mg) hC ih1
   have go:∀tm h,nv P (xw P Λ.mg (jV P C Λ n) C) sz ops draw K tm h=true→dR dfs ρ tm sz h.nx a→ba ρ h w→(Code.region id ops draw).wp P (ig dfs ρ h sz K) a w:=by
    intro tm h hk A H;simp only [nv]at hk
    have hQ:∀(j:Nat) (o:Oper),ops[j]? =some o→∀v c a w,uZ dfs ops ρ h sz K (.panic c) (a.put o.dst v) w→uZ dfs ops ρ h sz K (.panic c) a w:=by
     intro j o ho v c a w ⟨x,tm',h',ρ',e,l,k,s,A',R'⟩;refine⟨x,tm',h',ρ',e,l,k,s,⟨?_,fun i y hi=> ?_,?_⟩,R'⟩
     ·rw [←A'.size];exact(E5 a o.dst v).symm
     ·obtain⟨l1,l2⟩:=A'.at_ i y hi
      refine⟨l1,?_⟩;rw [←l2];refine(CP a ?_ v).symm;exact s i y hi o (by simpa using Array.mem_of_getElem? ho)
     ·rw [←A'.defers];exact(put_defers a o.dst v).symm
    have hE:∀c a' w',oG dfs ρ h sz (regE ops K) c a' w'→uZ dfs ops ρ h sz K (.panic c) a' w':=by
     intro c a' w' ⟨x,tm',h',ρ',e,l,k,A',R'⟩;exact⟨x,oK ops.toList tm',h',ρ',e,l,k,fun i y hi=>(jW hi).2,⟨A'.size,fun i y hi=>A'.at_ i y (jW hi).1,A'.defers⟩,R'⟩
    have out:∀ {e:Exit} {a:Act} {w:World},uZ dfs ops ρ h sz K e a w→ig dfs ρ h sz K e a w:=by
     intro e a w g
     cases e with
     |panic c=>
      obtain⟨x,tm',h',ρ',e,l,k,_,A',R'⟩:=g;exact⟨x,tm',h',ρ',e,l,k,A',R'⟩
     |_=>exact g
    cases draw with
    |true=>
     simp only [cond_true]at hk
     split at hk
     ·rename_i pl hpl
      obtain⟨k1,k3⟩:=CW hpl
      have down:Down .any ops (Array.replicate ops.size false):=by
       intro k ok hk' hl;exfalso;rw [Array.getD_eq_getD_getElem?,Array.getElem?_replicate]at hl
       split at hl<;>simp at hl
      refine wp_mono (Q:=uZ dfs ops ρ h sz K) ?_ fun e a w g=>out g
      cases h1:(h.M.X.op||vP pl)with
      |true=>
       rw [h1]at hk;exact wp_region_any hm (qY _ [] _ _ _ (ub CS k3 hQ _ pl _ 0 [] k1 (by simp) hk [] A (H.drawn _) down (by simp) (fun a' w' g=>g) hE))
      |false=>
       rw [h1]at hk;refine wp_region_any hm (qY _ [] _ _ _ (ub CS k3 hQ _ pl _ 0 [] k1 (by simp) hk [] A (H.drawn _) down (by simp) (fun a' w' g=> ?_) hE));obtain⟨tm',h',ρ',hk',A',R',hx,_,hm'⟩:=g;exact yX (h0:=h) hk' A' R' hx hm'
     ·exact absurd hk Bool.false_ne_true
    |false=>
     simp only [cond_false]at hk;refine wp_mono (Q:=uZ dfs ops ρ h sz K) ?_ fun e a w g=>out g
     refine wp_region (F3 CS (List.range ops.size) ops.toList ?_ hk A H (fun a' w' g=>g) hE);apply List.ext_getElem?;intro i;simp only [List.getElem?_map]
     by_cases hi:i<ops.size
     ·rw [List.getElem?_range hi]
      simp [hi]
     ·rw [List.getElem?_eq_none (by simpa using hi),List.getElem?_eq_none (by simpa using hi)]
      rfl
   simp only [kM,sxReg]at hk
   split at hk
   ·obtain⟨tm',H',hk',s1,s2⟩:=BP hk
    exact wp_mono (go tm' ⟨H',h.nx,h.M⟩ hk' ⟨A.size,fun i y hi=>A.at_ i y (s1 i y hi),A.defers⟩ (H.less s2)) fun e a' w' g=>g.trans (Ext.refl _ _) (Nat.le_refl _) (Mem.le_refl _)
   ·exact go tm h hk A H
  |rangeFunc f ps x y=>exact absurd hk Bool.false_ne_true
  |goto l=>exact absurd hk Bool.false_ne_true
  |refuse s=>exact absurd hk Bool.false_ne_true
def noC:FuncId→Option CT:=fun _=>none
def noL:jQ:=⟨fun _ _=>none,fun _=>false,fun _ _=>none⟩
theorem aj(P:Program):aF P noC:=fun _ _ h=>by cases h
theorem ak(P:Program):fe P noL:=fun _ _ _ h=>by cases h
end
end Go.Sx
namespace Go.Sx
noncomputable section
open Go.RowKit
theorem ba.below{ρ:Nat→Loc}{h:HS}{w w':World}(H:ba ρ h w)(hb:Below w.heap.size w w'):ba ρ h w' where
 os:=hb.os.trans H.os
 out:=hb.output.trans H.out
 tape:=hb.tape.trans H.tape
 mem:=fun k o hk=>by
  have h1:=H.mem k o hk;rw [hb.block k (Array.getElem?_eq_some_iff.1 h1).1];exact h1
 blk:=fun b B hB=>by
  obtain⟨h1,h2,h3⟩:=H.blk b B hB;exact⟨h1,h2,h3.of (Ext.refl ρ h.nx) h2 (hb.block _ h3.size)⟩
 inj:=H.inj
 apart:=H.apart
 are:=fun k o hk=>by
  have h1:=H.are k o hk;rw [hb.block k (Array.getElem?_eq_some_iff.1 h1).1];exact h1
 aprA:=H.aprA
 disj:=H.disj
theorem mJ{P:Program}{f:FuncId}{fn:Func}(hf:P.funcs[f]? =some fn)(hn:(fn.name== "runtime.NumGoroutine")=false)(hb:fn.body.isNone=false)
  {args:Array Value} {w:World} {x:Value} (hc:Calls P f args w fun e w'=>e= .returned x∧Below w.heap.size w w')
  {ρ:Nat→Loc} {h:HS} (H:ba ρ h w) {K:SV→HS→Bool} {z:SV} (hk:K z h) (hz:z.den ρ=x) (hl:z.lt ρ h.nx) {Ψ:Value→World→Prop} :dZ P f args w (dT ρ h K) Ψ:=
 .inl ⟨fn,hf,⟨hn,hb⟩,hc.mono fun _ _ ⟨he,hw⟩=> .inl ⟨x,he,z,h,ρ,hk,hz.symm,hl,H.below hw,Ext.refl _ _,Nat.le_refl _,Mem.le_refl _⟩⟩
theorem gK{P:Program}{f:FuncId}{args:Array Value}{w:World}{x:Value}(hc:(callFunc f args).run P w= .ok (.value x) w)
  {ρ:Nat→Loc} {h:HS} (H:ba ρ h w) {K:SV→HS→Bool} {z:SV} (hk:K z h) (hz:z.den ρ=x) (hl:z.lt ρ h.nx) {Ψ:Value→World→Prop} :dZ P f args w (dT ρ h K) Ψ:=
 .inr ⟨x,w,hc,z,h,ρ,hk,hz.symm,hl,H,Ext.refl _ _,Nat.le_refl _,Mem.le_refl _⟩
theorem tY{P:Program}{f:FuncId}{args:Array Value}{w:World}{Φ:Value→World→Prop}(h:dZ P f args w Φ fun _ _=>False){fn:Func}(hf:P.funcs[f]? =some fn)
  (hn:(fn.name== "runtime.NumGoroutine")=false) (hb:fn.body.isSome=true):Calls P f args w fun e w'=>∃v,e= .returned v∧Φ v w':=by
 rcases h with⟨_,_,_,h⟩|⟨v,w',hv,h⟩
 ·exact h.mono fun e w' hor=>by
   rcases hor with h|⟨_,_,h⟩
   ·exact h
   ·exact h.elim
 ·have h1:fn.name≠ "runtime.NumGoroutine" :=by simpa using hn
  obtain⟨c,hc⟩:=Option.isSome_iff_exists.1 hb;have e:(callFunc f args).run P w= .ok (.enter f args) w:=by simp [callFunc,hf,h1,hc,mark]
  rw [e]at hv
  cases hv
def uB(w:World):Mem:= { blk:=fun k=>w.heap[k]?,os:=w.os,out:=w.output,tape:=w.tape,gl:= [],glok:=fun _ _ h=>(by cases h),X:= .none }
end
end Go.Sx
namespace Go.Sx
noncomputable section
open Go.RowKit Go.ChangeShapes Go.WideShapes
def isT(r:SV):Bool:=match r with
 | .v (.bool b)=>b
 |_=>false
section
variable {H:Type} {enc:TypeId×Value→H} {P:Program}
theorem tL{f:Func}{s:ChangeSpec}{apart fresh handsOn again:Bool}{W W':World}{args:Array Value}{v:Value}{ds gs:List (DataW H)}{before pa pv:List MemPlace}
  (hW:DataW.Whole enc P f.params.toList s.vars apart W args.toList ds gs before)
  (hres:∀(b:Nat) (sp:Nat→Bool) (hd:Bool),DataW.TrodAll enc P W' b sp hd f.resultTypes.toList (v.resultList f.resultTypes.size) (s.fn H (ds++gs)).results [])
  (hargs:∀sp:Nat→Bool,(∀p∈before,sp p.block=true)→DataW.TrodAll enc P W' 0 sp true f.params.toList args.toList (s.fn H (ds++gs)).args pa)
  (hvars:∀sp:Nat→Bool,(∀p∈before,sp p.block=true)→DataW.TrodVars enc P W' sp s.vars (s.fn H (ds++gs)).vars pv)
  (hps:before=pa++pv) (hk:Below W.heap.size W W')
  (hok:∀(j:Nat) (t:TypeId) (r:Value),f.resultTypes[j]? =some t→(v.resultList f.resultTypes.size)[j]? =some r→Value.okWide P W' .any 0 t r):
  s.post enc P f apart fresh handsOn again W args v W':=by
 have hlt:∀p∈before,p.block<W.heap.size:=fun p hp=>hW.lt p hp
 have hold:∀p∈before,(fun b=>decide (b<W.heap.size)) p.block=true:=fun p hp=>by simpa using hlt p hp
 refine⟨ds,gs,before, [],pa,pv,hW,hres _ _ _,hargs _ hold,hvars _ hold,World.keptBut_mono (fun p hp=>⟨hp,?_⟩) (hk.frame (· ∈before)),fun _=> ?_⟩
 ·rw [hps,List.mem_append]at hp
  exact Or.inr hp
 ·obtain⟨_,_,_,_,_,hz,hn⟩:=hW
  refine⟨hok,_,_,([]++pa)++pv,⟨[]++pa,pv,trodAll_append (hargs _ (fun _ _=>rfl)) (hres _ _ _),hvars _ (fun _ _=>rfl),rfl,?_,?_⟩,?_⟩
  ·intro b off hp
   have hp':MemPlace.cell b off∈before:=by rw [hps];simpa using hp
   rw [hk.frozen (hlt _ hp')];exact hz b off hp'
  ·intro ha
   have:=hn ha;rw [hps]at this;simpa using this
  ·intro p hp _
   rw [hps];simpa using hp
end
end
end Go.Sx
