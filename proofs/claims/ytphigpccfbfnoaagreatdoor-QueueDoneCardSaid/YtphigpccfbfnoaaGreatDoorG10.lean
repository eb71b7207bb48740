/-
  Parts of the proof: SxK SxL
-/
import Derived.Test.YtphigpccfbfnoaaGreatDoorG09
import Derived.Orders
set_option maxRecDepth 100000
set_option maxHeartbeats 0
namespace Go.Sx
noncomputable section
variable {dfs : List Deferred}
abbrev ed:=FuncId→List SV→HS→(SV→HS→Bool)→(SV→HS→Bool)→Bool
def pnc(v:Value):List PanicEntry:= [{ v,recovered:=false }]
def dZ(P:Program)(f:FuncId)(args:Array Value)(w:World)(Φ Ψ:Value→World→Prop):Prop:=
 (∃fn,P.funcs[f]? =some fn∧((fn.name== "runtime.NumGoroutine")=false∧fn.body.isNone=false)∧Calls P f args w fun e w'=>(∃v,e= .returned v∧Φ v w')∨∃v,e= .panicked (pnc v)∧Ψ v w')∨
 (∃v w',(callFunc f args).run P w= .ok (.value v) w'∧Φ v w')
def iA(P:Program)(call:ed):Prop:=
 ∀f args h K E,call f args h K E→∀ρ w,ba ρ h w→(∀x∈args,x.lt ρ h.nx)→dZ P f (args.map (SV.den ρ)).toArray w (dT ρ h K) (dT ρ h E)
def eb(P:Program)(tm:T SV)(h:HS):Op→Option SV
 | .load t x=>match opd tm x with
   |some x=>iW P h t x
   |none=>none
 | .lookup t x k ok=>match opd tm x,opd tm k with
   |some x,some k=>nY P h t x k ok
   |_,_=>none
 | .convert s d x=>match opd tm x with
   |some x=>cvV P h s d x
   |none=>none
 | .entry x=>match opd tm x with
   |some x=>lG h x
   |none=>none
 | .call c=>match c.callee with
   | .builtin .len=>match c.argTypes.toList,kJ tm c.args.toList with
     | [t],some [.mp b]=>match ty P t,h.H.get b with
       |some s,some (.map es _)=>bif qw s.und then some (.v (.int .i64 es.length))else none
       |_,_=>none
     | [t],some [.v (.map (some g))]=>bif h.M.X.op then(match ty P t with
       |some s=>bif qw s.und then(match h.M.A.cnt g with
        |some n=>some (.v (.int .i64 n))
        |none=>none)else none
       |none=>none)else none
     |_,_=>none
   | .builtin .unsafeSliceData=>match kJ tm c.args.toList with
     |some [x]=>sdV x
     |_=>none
   |_=>none
 |_=>none
theorem fI{P:Program}{tm:T SV}{h:HS}{op:Op}{z:SV}(hz:eb P tm h op=some z){ρ:Nat→Loc}{sz:Nat}{a:Act}{w:World}(A:dR dfs ρ tm sz h.nx a)(H:ba ρ h w)
  (o:Oper) (ho:o.op=op):(execOp a.eval o).run P w= .ok (.value (z.den ρ)) w∧z.lt ρ h.nx:=by
 unfold eb at hz;unfold execOp;rw [ho]
 split at hz
 ·split at hz
  ·rename_i x hx
   obtain⟨h1,_⟩:=bg A hx;obtain⟨k1,k2⟩:=uG hz H;exact⟨by simp only [Sem.run_bind,h1,k1,Result.andThen_ok,Sem.run_pure],k2⟩
  ·cases hz
 ·split at hz
  ·rename_i x k hx hk
   obtain⟨h1,_⟩:=bg A hx;obtain⟨h2,_⟩:=bg A hk;obtain⟨k1,k2⟩:=Dw hz H;exact⟨by simp only [Sem.run_bind,h1,h2,k1,Result.andThen_ok,Sem.run_pure],k2⟩
  ·cases hz
 ·split at hz
  ·rename_i x hx
   obtain⟨h1,_⟩:=bg A hx;obtain⟨k1,k2⟩:=cvV_run hz H;exact⟨by simp only [Sem.run_bind,h1,k1,Result.andThen_ok,Sem.run_pure],k2⟩
  ·cases hz
 ·split at hz
  ·rename_i x hx
   obtain⟨h1,_⟩:=bg A hx;obtain⟨k1,k2⟩:=Aw (P:=P) hz H;exact⟨by simp only [Sem.run_bind,h1,k1,Result.andThen_ok,Sem.run_pure],k2⟩
  ·cases hz
 ·rename_i c
  split at hz
  ·rename_i hc
   split at hz
   ·rename_i t b ht hxs
    split at hz
    ·rename_i s es clock hs hb
     cases hd:s.und with
     |map k e=>
      rw [hd]at hz;simp only [qw,cond_true,Option.some.injEq]at hz;subst hz;refine⟨?_,trivial⟩;obtain⟨h1,_⟩:=dY A _ _ hxs;obtain⟨_,_,h3⟩:=H.blk b _ hb;have h3:w.heap[(ρ b).blk]? =some (.map (es.map (aY ρ)).toArray clock):=h3;have hget:(getObj (ρ b).blk).run P w= .ok (.map (es.map (aY ρ)).toArray clock) w:=by simp [getObj,Sem.run,h3]
      have hargs:c.args.map a.eval= #[.map (some (ρ b).blk)]:=by
       apply Array.toList_inj.1;rw [Array.toList_map,h1];rfl
      have hts:c.argTypes= #[t]:=Array.toList_inj.1 ht;simp only [resolve,hc,hargs,hts,Sem.run_bind,Sem.run_pure,Result.andThen_ok,invoke,builtin,Builtin.len_,List.getElem?_toArray,List.getElem?_cons_zero,aA w hs,hd,hget,SV.den];simp [goInt]
     |_=>rw [hd]at hz;simp [qw]at hz
    ·cases hz
   ·rename_i t g ht hxs
    cases hop:h.M.X.op with
    |false=>rw [hop]at hz;cases hz
    |true=>
     rw [hop]at hz;simp only [cond_true]at hz
     split at hz
     ·rename_i s hs
      cases hd:s.und with
      |map k e=>
       rw [hd]at hz;simp only [qw,cond_true]at hz
       split at hz
       ·rename_i n hn
        simp only [Option.some.injEq]at hz;subst hz;refine⟨?_,trivial⟩;obtain⟨h1,_⟩:=dY A _ _ hxs;obtain⟨es,clock,hb,rfl⟩:=Gs hn;have h3:=H.are g _ hb;have hget:(getObj g).run P w= .ok (.map es clock) w:=by simp [getObj,Sem.run,h3]
        have hargs:c.args.map a.eval= #[.map (some g)]:=by
         apply Array.toList_inj.1;rw [Array.toList_map,h1];rfl
        have hts:c.argTypes= #[t]:=Array.toList_inj.1 ht;simp only [resolve,hc,hargs,hts,Sem.run_bind,Sem.run_pure,Result.andThen_ok,invoke,builtin,Builtin.len_,List.getElem?_toArray,List.getElem?_cons_zero,aA w hs,hd,hget,SV.den];simp [goInt]
       ·cases hz
      |_=>rw [hd]at hz;simp [qw]at hz
     ·cases hz
   ·cases hz
  ·rename_i hc
   split at hz
   ·rename_i x hxs
    obtain⟨h1,h2⟩:=dY A _ _ hxs;obtain⟨k1,k2⟩:=sdV_run (P:=P) hz (h2 x (by simp)) w c.argTypes o.type;refine⟨?_,k2⟩
    have hargs:c.args.map a.eval= #[x.den ρ]:=by
     apply Array.toList_inj.1;rw [Array.toList_map,h1];rfl
    simp only [resolve,hc,hargs,Sem.run_bind,Sem.run_pure,Result.andThen_ok,invoke,builtin,k1]
   ·cases hz
  ·cases hz
 ·cases hz
def asFn(x:SV):Option (FuncId×List SV):=
 match x with
 | .fn f caps=>some (f,caps)
 | .v (.func (.func f) first caps)=>bif first.isEmpty then some (f,caps.toList.map .v)else none
 |_=>none
theorem GJ{x:SV}{f:FuncId}{caps:List SV}(h:asFn x=some (f,caps))(ρ:Nat→Loc){n:Nat}(hx:x.lt ρ n):x.den ρ= .func (.func f) #[] (caps.map (SV.den ρ)).toArray∧∀y∈caps,y.lt ρ n:=by
 unfold asFn at h
 split at h
 ·injection h with h;injection h with h1 h2;subst h1;subst h2
  exact⟨by simp [SV.den,dP],eh.1 hx⟩
 ·rename_i f' first caps'
  cases hf:first.isEmpty with
  |false=>rw [hf]at h;cases h
  |true=>
   rw [hf]at h;injection h with h;injection h with h1 h2;subst h1;subst h2
   have:first= #[]:=Array.isEmpty_iff.1 hf;subst this;exact⟨by simp [SV.den,Function.comp_def],fun y hy=>by obtain⟨z,_,rfl⟩:=List.mem_map.1 hy;trivial⟩
 ·cases h
def uT(P:Program)(call:ed)(tm:T SV)(h:HS)(c:Call)(K E:SV→HS→Bool):Bool:=
 match c.callee with
 | .value f=>match opd tm f with
   |some fv=>match asFn fv,kJ tm c.args.toList with
    |some (f,caps),some xs=>call f (xs++caps) h K E
    |_,_=>false
   |none=>false
 | .builtin .append=>match kJ tm c.args.toList with
   |some [s,x]=>bif h.M.X.op then wT P h c.argTypes.toList s x K else match tR s,tR x with
    |some l,some n=>bif Nat.ble (l+n) 9223372036854775807 then wS P h c.argTypes.toList s x K else false
    |_,_=>false
   |_=>false
 | .builtin .copy=>match kJ tm c.args.toList with
   |some [d,x]=>copyV P h c.argTypes.toList d x K
   |_=>false
 | .builtin .delete=>match kJ tm c.args.toList with
   |some [m,k]=>delV P h c.argTypes.toList m k K
   |_=>false
 | .builtin .unsafeString=>match c.argTypes.toList,kJ tm c.args.toList with
   | [pt,_],some [p,n]=>usV P h pt p n K
   |_,_=>false
 |_=>false
def isIf(x:SV):Bool:=match x with
 | .ifc _ _=>true
 | .v (.iface _ _)=>true
 |_=>false
theorem FT{x:SV}(h:isIf x=true)(ρ:Nat→Loc):∃t v,x.den ρ= .iface t v:=by
 unfold isIf at h
 split at h
 ·rename_i t y
  exact⟨t,y.den ρ,by simp only [SV.den]⟩
 ·rename_i t y
  exact⟨t,y,by simp only [SV.den]⟩
 ·cases h
def GC(h:HS)(e:TypeId)(cs:List SV)(K:SV→HS→Bool)(len:Nat)(X:Bool):Bool:=bif h.M.X.op then(match je cs with
 |some vs=>h.M.D (∀g A',h.M.A.New A' g vs.toArray e→K (.v (.slice (some ⟨g,0,none⟩) len len)) (h.put A')=true)
 |none=>X)else X
def wJ(P:Program)(call:ed)(tm:T SV)(h:HS)(op:Op)(K E:SV→HS→Bool):Bool:=
 match op with
 | .alloc t=>tv P h t K
 | .box t x=>match opd tm x with
   |some x=>GF h t x K
   |none=>false
 | .store t a x=>match opd tm a,opd tm x with
   |some a,some x=>vj P h t a x K
   |_,_=>false
 | .makeSlice t l c=>match opd tm l,opd tm c with
   |some l,some c=>yd P h t l c K
   |_,_=>false
 | .makeMap _ none=>bif h.M.X.op then mapA h K else K (.mp h.nx) (h.new (.map [] 0))
 | .buildSlice t len parts=>match kJ tm (parts.toList.map (·.2))with
   |some xs=>match ty P t with
    |some s=>match s.und with
     | .slice e=>match ty P e with
       |some se=>bif Nat.ble (len*se.size) 16777216&&Nat.beq se.zero.cells.size se.size then
          (match qq (fun i=>some (i*se.size,se.size)) (du (se.zero.cells.toList.map .v) len) ((parts.toList.map (·.1)).zip xs)with
          |some cs=>GC h e cs K len (K (.slc h.nx 0 len (.lit len)) (h.new (.cells cs 0 (e+1))))
          |none=>false)
        else false
       |none=>false
     |_=>false
    |none=>false
   |none=>false
 | .mapUpdate t m k v=>match opd tm m,opd tm k,opd tm v with
   |some m,some k,some v=>E7 P h t m k v K
   |_,_,_=>false
 | .insert t m k v=>match opd tm m,opd tm k,opd tm v with
   |some m,some k,some v=>E7 P h t m k v K
   |_,_,_=>false
 | .range t x=>match opd tm x with
   |some x=>vD P h t x K
   |none=>false
 | .next x i=>match opd tm x with
   |some x=>BA h x i K
   |none=>false
 | .call c=>uT P call tm h c K E
 | .convert s d x=>match opd tm x with
   |some x=>Cd P h s d x K
   |none=>false
 | .panic x=>match opd tm x with
   |some x=>bif isIf x then E x h else false
   |none=>false
 |_=>false
theorem tq{P:Program}{t e:TypeId}{s se:STy}{len:Nat}{parts:List (Nat×SV)}{cs:List SV}(hs:ty P t=some s)(hd:s.und= .slice e)(hse:ty P e=some se)(hlen:len*se.size≤16777216)(hz:se.zero.cells.size=se.size)
  (hf:qq (fun i=>some (i*se.size,se.size)) (du (se.zero.cells.toList.map .v) len) parts=some cs) (ρ:Nat→Loc) (w:World):
  (Instr.buildSlice t len (parts.map fun(i,x)=>(i,x.den ρ)).toArray).run P w= .ok (.slice (some ⟨w.heap.size,0,none⟩) len len) { w with heap:=w.heap.push (.cells (cs.map (SV.den ρ)).toArray e) } :=by
 obtain⟨k1,_⟩:=jL (ρ:=ρ) (n:=0) parts _ cs hf
 have hcells:((Array.range (len*se.size)).map ((if len*se.size=0 then #[]else se.zero.cells)[· %(if len*se.size=0 then #[]else se.zero.cells).size]!))=((du (se.zero.cells.toList.map .v) len).map (SV.den ρ)).toArray:=by
  apply Array.toList_inj.1;rw [kc,←kf,hz]
  by_cases h0:len*se.size=0
  ·simp [h0]
  ·rw [if_neg h0];simp [hz]
 have h24:¬(len*se.size>2^24):=by
  have:(2^24:Nat)=16777216:=by decide
  omega
 simp only [Instr.buildSlice,Sem.run_bind,aA w hs,hd,Result.andThen_ok,bK w hse,h24,if_false]
 by_cases h0:len*se.size=0
 ·simp only [h0,if_true]at hcells
  simp only [h0,if_true,Sem.run_bind,Sem.run_pure,Result.andThen_ok,hcells,k1,newRow,run_newObj]
 ·simp only [h0,if_false]at hcells
  simp only [h0,if_false,Sem.run_bind,Sem.run_pure,Result.andThen_ok,cQ w hse,hcells,k1,newRow,run_newObj]
theorem call_wp{P:Program}{call:ed}(CS:iA P call){tm:T SV}{h:HS}{c:Call}{K E:SV→HS→Bool}(hk:uT P call tm h c K E){ρ:Nat→Loc}{sz:Nat}{a:Act}{w:World}(A:dR dfs ρ tm sz h.nx a)(H:ba ρ h w)
  (o:Oper) (ho:o.op= .call c) {next:Act→World→Prop} {Q:Exit→Act→World→Prop} (hn:∀v w',dT ρ h K v w'→next (a.put o.dst v) w') (hp:∀v w',dT ρ h E v w'→Q (.panic (pnc v)) a w'):o.wp P a w next Q:=by
 unfold Oper.wp execOp;rw [ho];unfold uT at hk
 split at hk
 ·rename_i f hc
  split at hk
  ·rename_i fv hfv
   split at hk
   ·rename_i f' caps xs hfn hxs
    obtain⟨h1,h2⟩:=bg A hfv;obtain⟨h3,h4⟩:=GJ hfn ρ h2;obtain⟨h5,h6⟩:=dY A _ _ hxs
    have hgo:=CS f' (xs++caps) h K E hk ρ w H (fun y hy=>by
     rcases List.mem_append.1 hy with hy|hy
     ·exact h6 y hy
     ·exact h4 y hy)
    have hargs:c.args.map a.eval=(xs.map (SV.den ρ)).toArray:=by
     apply Array.toList_inj.1;rw [Array.toList_map,h5]
    have hrun:(do let d ←resolve a.eval c o.type;invoke d.target d.args:Sem Next).run P w=(callFunc f' ((xs++caps).map (SV.den ρ)).toArray).run P w:=by
     simp only [resolve,hc,hargs,h1,h3,Deferred.ofValue,Sem.run_bind,Sem.run_pure,Result.andThen_ok,invoke];simp
    dsimp only;rw [hrun];rcases hgo with⟨fn,hf,⟨hname,hbody⟩,hcalls⟩|⟨v,w',hval,hq⟩
    ·have henter:(callFunc f' ((xs++caps).map (SV.den ρ)).toArray).run P w= .ok (.enter f' ((xs++caps).map (SV.den ρ)).toArray) w:=by
       simp only [callFunc,Sem.run_bind,Result.andThen_ok,run_program,hf,hname,hbody,Bool.false_eq_true,if_false,Sem.run_pure]
     rw [henter,Oper.upon_enter]
     exact hcalls.mono fun e w' hor=>by
      rcases hor with⟨v,he,hq⟩|⟨v,he,hq⟩
      ·subst he;exact hn v w' hq
      ·subst he;exact hp v w' hq
    ·rw [hval,Oper.upon_value]
     exact hn v w' hq
   ·exact absurd hk Bool.false_ne_true
  ·exact absurd hk Bool.false_ne_true
 ·rename_i hc
  split at hk
  ·rename_i s x hxs
   cases hop:h.M.X.op with
   |true=>
    rw [hop]at hk;simp only [cond_true]at hk;obtain⟨h5,h6⟩:=dY A _ _ hxs
    have hargs:c.args.map a.eval= #[s.den ρ,x.den ρ]:=by
     apply Array.toList_inj.1;rw [Array.toList_map,h5];rfl
    obtain⟨v,w',k1,k2⟩:=y8 hk H o.type;have:c.argTypes.toList.toArray=c.argTypes:=rfl;rw [this]at k1
    have hrun:(do let d ←resolve a.eval c o.type;invoke d.target d.args:Sem Next).run P w= .ok (.value v) w':=by
     simp only [resolve,hc,hargs,Sem.run_bind,Sem.run_pure,Result.andThen_ok,invoke,builtin,k1]
    dsimp only;rw [hrun,Oper.upon_value];exact hn v w' k2
   |false=>
   rw [hop]at hk;simp only [cond_false]at hk
   split at hk
   ·rename_i l n hl hn'
    cases hb:Nat.ble (l+n) 9223372036854775807 with
    |false=>rw [hb]at hk;exact absurd hk Bool.false_ne_true
    |true=>
     rw [hb]at hk;simp only [cond_true]at hk;obtain⟨h5,h6⟩:=dY A _ _ hxs
     have hargs:c.args.map a.eval= #[s.den ρ,x.den ρ]:=by
      apply Array.toList_inj.1;rw [Array.toList_map,h5];rfl
     obtain⟨v,w',k1,k2⟩:=y7 hk (fun l' n' h1 h2=>by rw [hl]at h1;rw [hn']at h2;injection h1 with h1;injection h2 with h2;subst h1;subst h2;exact Nat.le_of_ble_eq_true hb) H (h6 s (by simp)) o.type;have:c.argTypes.toList.toArray=c.argTypes:=rfl;rw [this]at k1
     have hrun:(do let d ←resolve a.eval c o.type;invoke d.target d.args:Sem Next).run P w= .ok (.value v) w':=by
      simp only [resolve,hc,hargs,Sem.run_bind,Sem.run_pure,Result.andThen_ok,invoke,builtin,k1]
     dsimp only;rw [hrun,Oper.upon_value];exact hn v w' k2
   ·exact absurd hk Bool.false_ne_true
  ·exact absurd hk Bool.false_ne_true
 ·rename_i hc
  split at hk
  ·rename_i d x hxs
   obtain⟨h5,h6⟩:=dY A _ _ hxs
   have hargs:c.args.map a.eval= #[d.den ρ,x.den ρ]:=by
    apply Array.toList_inj.1;rw [Array.toList_map,h5];rfl
   obtain⟨v,w',k1,k2⟩:=DY hk H o.type;have:c.argTypes.toList.toArray=c.argTypes:=rfl;rw [this]at k1
   have hrun:(do let d ←resolve a.eval c o.type;invoke d.target d.args:Sem Next).run P w= .ok (.value v) w':=by
    simp only [resolve,hc,hargs,Sem.run_bind,Sem.run_pure,Result.andThen_ok,invoke,builtin,k1]
   dsimp only;rw [hrun,Oper.upon_value];exact hn v w' k2
  ·exact absurd hk Bool.false_ne_true
 ·rename_i hc
  split at hk
  ·rename_i m k hxs
   obtain⟨h5,h6⟩:=dY A _ _ hxs
   have hargs:c.args.map a.eval= #[m.den ρ,k.den ρ]:=by
    apply Array.toList_inj.1;rw [Array.toList_map,h5];rfl
   obtain⟨v,w',k1,k2⟩:=Gj hk H o.type;have:c.argTypes.toList.toArray=c.argTypes:=rfl;rw [this]at k1
   have hrun:(do let d ←resolve a.eval c o.type;invoke d.target d.args:Sem Next).run P w= .ok (.value v) w':=by
    simp only [resolve,hc,hargs,Sem.run_bind,Sem.run_pure,Result.andThen_ok,invoke,builtin,k1]
   dsimp only;rw [hrun,Oper.upon_value];exact hn v w' k2
  ·exact absurd hk Bool.false_ne_true
 ·rename_i hc
  split at hk
  ·rename_i pt it p n hts hxs
   obtain⟨h5,h6⟩:=dY A _ _ hxs
   have hargs:c.args.map a.eval= #[p.den ρ,n.den ρ]:=by
    apply Array.toList_inj.1;rw [Array.toList_map,h5];rfl
   have hts:c.argTypes= #[pt,it]:=Array.toList_inj.1 hts;obtain⟨v,w',k1,k2⟩:=usV_run (it:=it) (u:=o.type) hk H
   have hrun:(do let d ←resolve a.eval c o.type;invoke d.target d.args:Sem Next).run P w= .ok (.value v) w':=by
    simp only [resolve,hc,hargs,hts,Sem.run_bind,Sem.run_pure,Result.andThen_ok,invoke,builtin,k1]
   dsimp only;rw [hrun,Oper.upon_value];exact hn v w' k2
  ·exact absurd hk Bool.false_ne_true
 ·exact absurd hk Bool.false_ne_true
theorem wI{P:Program}{call:ed}(CS:iA P call){tm:T SV}{h:HS}{op:Op}{K E:SV→HS→Bool}(hk:wJ P call tm h op K E){ρ:Nat→Loc}{sz:Nat}{a:Act}{w:World}(A:dR dfs ρ tm sz h.nx a)(H:ba ρ h w)
  (o:Oper) (ho:o.op=op) {next:Act→World→Prop} {Q:Exit→Act→World→Prop} (hn:∀v w',dT ρ h K v w'→next (a.put o.dst v) w') (hp:∀v w',dT ρ h E v w'→Q (.panic (pnc v)) a w'):o.wp P a w next Q:=by
 have val:∀ {s:Sem Value} {v:Value} {w':World},s.run P w= .ok v w'→(do pure (.value (←s)):Sem Next).run P w= .ok (.value v) w':=fun h=>by
  simp only [Sem.run_bind,h,Result.andThen_ok,Sem.run_pure]
 have skp:∀ {s:Sem Unit} {w':World},s.run P w= .ok () w'→(do s;pure .skip:Sem Next).run P w= .ok .skip w':=fun h=>by
  simp only [Sem.run_bind,h,Result.andThen_ok,Sem.run_pure]
 unfold wJ at hk
 split at hk
 ·obtain⟨v,w',k1,k2⟩:=AT hk H
  unfold Oper.wp execOp;rw [ho];dsimp only
  rw [val k1,Oper.upon_value];exact hn v w' k2
 ·rename_i t0 x0
  split at hk
  ·rename_i x hx
   obtain⟨h1,h2⟩:=bg A hx;obtain⟨v,w',k1,k2⟩:=GD (P:=P) (t:=t0) hk H h2;unfold Oper.wp execOp;rw [ho];dsimp only
   rw [h1,val k1,Oper.upon_value];exact hn v w' k2
  ·exact absurd hk Bool.false_ne_true
 ·split at hk
  ·rename_i x v hx hv
   obtain⟨h1,_⟩:=bg A hx;obtain⟨h2,h3⟩:=bg A hv;obtain⟨w',k1,k2⟩:=zn hk H h3;unfold Oper.wp execOp;rw [ho];dsimp only
   rw [h1,h2,skp k1,Oper.upon_skip];exact hn _ w' k2
  ·exact absurd hk Bool.false_ne_true
 ·split at hk
  ·rename_i l c hl hc
   obtain⟨h1,_⟩:=bg A hl;obtain⟨h2,_⟩:=bg A hc;obtain⟨v,w',k1,k2⟩:=Ds hk H;unfold Oper.wp execOp;rw [ho];dsimp only
   rw [h1,h2,val k1,Oper.upon_value];exact hn v w' k2
  ·exact absurd hk Bool.false_ne_true
 ·rename_i t
  cases hop:h.M.X.op with
  |true=>
   rw [hop]at hk;obtain⟨v,w',k1,k2⟩:=FE (P:=P) (t:=t) hk H;unfold Oper.wp execOp;rw [ho];dsimp only
   rw [Option.map_none,val k1,Oper.upon_value];exact hn v w' k2
  |false=>
  rw [hop]at hk;simp only [cond_false]at hk;have k1:(Instr.makeMap t none).run P w= .ok (.map (some w.heap.size)) { w with heap:=w.heap.push (.map #[] 0) } :=by simp [Instr.makeMap]
  unfold Oper.wp execOp;rw [ho];dsimp only
  rw [Option.map_none,val k1,Oper.upon_value];refine hn _ _ ⟨_,_,extend ρ h.nx ⟨w.heap.size,0,0⟩,hk,by simp [SV.den,bA],Nat.lt_succ_self _,?_,bd _ _ _,Nat.le_succ _,Mem.le_refl _⟩;exact H.alloc (o:= .map #[] 0) (B:= .map [] 0) (L:=⟨w.heap.size,0,0⟩) rfl (fun e he=>by cases he) fun w' hw'=>hw'
 ·rename_i t len parts
  split at hk
  ·rename_i xs hxs
   split at hk
   ·rename_i s hs
    split at hk
    ·rename_i e hd
     split at hk
     ·rename_i se hse
      cases hb:Nat.ble (len*se.size) 16777216&&Nat.beq se.zero.cells.size se.size with
      |false=>rw [hb]at hk;exact absurd hk Bool.false_ne_true
      |true=>
       rw [hb]at hk;simp only [Bool.and_eq_true]at hb;simp only [cond_true]at hk
       split at hk
       ·rename_i cs hf
        have hz:=Nat.eq_of_beq_eq_true hb.2;obtain⟨h1,h2⟩:=dY A _ _ hxs
        have hp:(parts.map fun(i,x)=>(i,a.eval x))=(((parts.toList.map (·.1)).zip xs).map fun(i,x)=>(i,x.den ρ)).toArray:=by
         apply Array.toList_inj.1;rw [Array.toList_map];show _=((parts.toList.map (·.1)).zip xs).map fun(i,x)=>(i,x.den ρ)
         have:(((parts.toList.map (·.1)).zip xs).map fun(i,x)=>(i,SV.den ρ x))=(parts.toList.map (·.1)).zip (xs.map (SV.den ρ)):=by
          rw [List.zip_map_right];rfl
         rw [this,←h1,List.map_map,List.zip_map'];rfl
        have k1:=tq hs hd hse (Nat.le_of_ble_eq_true hb.1) hz hf ρ w;have hlt:∀y∈cs,y.lt ρ h.nx:=(jL (ρ:=ρ) (n:=h.nx) _ _ cs hf).2 (kS _ _) (fun p hp=>h2 p.2 (List.of_mem_zip hp).2);unfold Oper.wp execOp;rw [ho];dsimp only
        rw [hp,val k1,Oper.upon_value]
        have old:K (.slc h.nx 0 len (.lit len)) (h.new (.cells cs 0 (e+1)))=true→next (a.put o.dst (.slice (some ⟨w.heap.size,0,none⟩) len len)) { w with heap:=w.heap.push (.cells (cs.map (SV.den ρ)).toArray e) } :=fun hk=>
         hn _ _ ⟨_,_,extend ρ h.nx ⟨w.heap.size,0,0⟩,hk,by simp [SV.den,bA,df.den],⟨Nat.lt_succ_self _,trivial,Nat.le_refl _⟩,l5 H hlt _ rfl e,bd _ _ _,Nat.le_succ _,Mem.le_refl _⟩
        unfold GC at hk
        cases hop:h.M.X.op with
        |false=>rw [hop]at hk;exact old hk
        |true=>
         rw [hop]at hk;simp only [cond_true]at hk
         split at hk
         ·rename_i vs hvs
          obtain⟨A',k2,k3⟩:=jP H vs.toArray e w.drawn;rw [eI ρ cs vs hvs];exact hn _ _ ⟨_,_,ρ,(h.M.X.hD _).1 hk _ A' k2,rfl,trivial,k3,Ext.refl _ _,Nat.le_refl _,Mem.dH _ _⟩
         ·exact old hk
       ·exact absurd hk Bool.false_ne_true
     ·exact absurd hk Bool.false_ne_true
    ·exact absurd hk Bool.false_ne_true
   ·exact absurd hk Bool.false_ne_true
  ·exact absurd hk Bool.false_ne_true
 ·split at hk
  ·rename_i m k v hm hkk hv
   obtain⟨h1,_⟩:=bg A hm;obtain⟨h2,h3⟩:=bg A hkk;obtain⟨h4,h5⟩:=bg A hv;obtain⟨w',k1,k2⟩:=xL hk H h3 h5;unfold Oper.wp execOp;rw [ho];dsimp only
   rw [h1,h2,h4,skp k1,Oper.upon_skip];exact hn _ w' k2
  ·exact absurd hk Bool.false_ne_true
 ·split at hk
  ·rename_i m k v hm hkk hv
   obtain⟨h1,_⟩:=bg A hm;obtain⟨h2,h3⟩:=bg A hkk;obtain⟨h4,h5⟩:=bg A hv;obtain⟨w',k1,k2⟩:=xL hk H h3 h5;unfold Oper.wp execOp;rw [ho];dsimp only
   rw [h1,h2,h4,skp k1,Oper.upon_skip];exact hn _ w' k2
  ·exact absurd hk Bool.false_ne_true
 ·split at hk
  ·rename_i x hx
   obtain⟨h1,_⟩:=bg A hx;obtain⟨v,w',k1,k2⟩:=zI hk H;unfold Oper.wp execOp;rw [ho];dsimp only
   rw [h1,val k1,Oper.upon_value];exact hn v w' k2
  ·exact absurd hk Bool.false_ne_true
 ·split at hk
  ·rename_i x hx
   obtain⟨h1,_⟩:=bg A hx;obtain⟨v,w',k1,k2⟩:=Dd hk H o.type;unfold Oper.wp execOp;rw [ho];dsimp only
   rw [h1,val k1,Oper.upon_value];exact hn v w' k2
  ·exact absurd hk Bool.false_ne_true
 ·exact call_wp CS hk A H o ho hn hp
 ·split at hk
  ·rename_i x hx
   obtain⟨h1,h2⟩:=bg A hx;obtain⟨v,w',k1,k2⟩:=D0 hk H h2;unfold Oper.wp execOp;rw [ho];dsimp only
   rw [h1,val k1,Oper.upon_value];exact hn v w' k2
  ·exact absurd hk Bool.false_ne_true
 ·split at hk
  ·rename_i x hx
   obtain⟨h1,h2⟩:=bg A hx
   cases hi:isIf x with
   |false=>rw [hi]at hk;exact absurd hk Bool.false_ne_true
   |true=>
    rw [hi]at hk;have hk:E x h=true:=hk;obtain⟨t,v,hd⟩:=FT hi ρ;unfold Oper.wp execOp;rw [ho];dsimp only
    have:(do pure (.value (←Instr.panic (x.den ρ))):Sem Next).run P w= .halt (.panic (x.den ρ)) w:=by
     rw [hd];rfl
    rw [h1,this,Oper.upon_panic];exact hp _ w ⟨x,h,ρ,hk,rfl,h2,H,Ext.refl _ _,Nat.le_refl _,Mem.le_refl _⟩
  ·exact absurd hk Bool.false_ne_true
 ·exact absurd hk Bool.false_ne_true
end
end Go.Sx
namespace Go.Sx
noncomputable section
section
variable {P : Program} {ops : Array Oper} {Q : Exit → Act → World → Prop} {md : Region.Mode}
structure qG where
 dep:Nat→Bool
 inv:World→Prop
def gz(P:Program)(md:Region.Mode)(ops:Array Oper)(Q:Exit→Act→World→Prop):Nat→List qG→Array Bool→Act→World→Prop
 |0,L,listed,a,w=>(∀p∈L,p.inv w)∧Region.ready md ops listed= []∧Q .normal a w
 |fuel+1,L,listed,a,w=>
  (∀p∈L,p.inv w)∧(Region.ready md ops listed= []→Q .normal a w)∧
  ∀i∈Region.ready md ops listed,wpOp P ops Q i (gz P md ops Q fuel (L.filter fun p=> !p.dep i) (listed.setIfInBounds i true)) a w
theorem qY:∀(fuel:Nat) (L:List qG) (listed:Array Bool) (a:Act) (w:World),gz P md ops Q fuel L listed a w→wpAny P md ops Q fuel listed a w:=by
 intro fuel
 induction fuel with
 |zero=>intro L listed a w h;exact h.2
 |succ fuel ih=>intro L listed a w h;exact⟨h.2.1,fun i hi=>wpOp_mono (fun a w h=>ih _ _ a w h) (h.2.2 i hi)⟩
def fc(P:Program)(ops:Array Oper)(I:World→Prop)(o:Oper)(v:Value)(a:Act):Prop:=
 (Region.wanted o (yielded ops a.tmps)=true∧∀w,I w→(execOp a.eval o).run P w= .ok (.value v) w)∨
 (Region.wanted o (yielded ops a.tmps)=false∧v=undef)
theorem fc.wpOp{I:World→Prop}{i:Nat}{o:Oper}{v:Value}{a:Act}(hi:ops[i]? =some o)(hy:fc P ops I o v a)
  {K:Act→World→Prop} {w:World} (hI:I w) (h:K (a.put o.dst v) w):wpOp P ops Q i K a w:=by
 unfold Go.wpOp;simp only [hi];rcases hy with⟨hw,hv⟩|⟨hw,rfl⟩
 ·simp only [hw,if_true,Oper.wp,hv w hI,Oper.upon];exact .inl h
 ·simp only [hw,Bool.false_eq_true,if_false];exact h
theorem fc.of_same{I:World→Prop}{o:Oper}{v:Value}{a a':Act}(hy:fc P ops I o v a)(he:execOp a'.eval o=execOp a.eval o)
  (hw:Region.wanted o (yielded ops a'.tmps)=Region.wanted o (yielded ops a.tmps)):fc P ops I o v a':=by
 unfold fc at*;rw [he,hw];exact hy
theorem Co{I:World→Prop}{j:Nat}{oi oj:Oper}{v:Value}(hj:ops[j]? =some oj)(hap:oi.apart ops oj=true)
  (hsi:∀cs b,oi.op≠ .select cs b) (hsj:∀cs b,oj.op≠ .select cs b)
  (hQ:∀c a w,Q (.panic c) (a.put oi.dst v) w→Q (.panic c) a w) {K:Act→World→Prop} {a:Act} {w:World}
  (hy:fc P ops I oi v a) (h:wpOp P ops Q j K (a.put oi.dst v) w):
  wpOp P ops Q j (fun a' w'=>fc P ops I oi v a'∧K (a'.put oi.dst v) w') a w:=by
 obtain⟨h1,h2,h3⟩:=Oper.apart_spec hap
 have bk:∀(a:Act),fc P ops I oi v a→∀u,fc P ops I oi v (a.put oj.dst u):=fun a hy u=>
  hy.of_same (execOp_put oi hsi a oj.dst u h3) (wanted_put oi a oj.dst u h3)
 have keepD:∀d,fc P ops I oi v { a with defers:=d::a.defers } :=fun d=>hy.of_same rfl rfl
 unfold wpOp at*;simp only [hj]at*;rw [wanted_put oj a oi.dst v h1]at h
 split
 ·rename_i hw
  simp only [hw,if_true]at h;rcases h with h|⟨hasks,hlets⟩
  case inr=>exact .inr ⟨by unfold Oper.asks at*;rw [execOp_put oj hsj a oi.dst v h1]at hasks;exact hasks,hlets⟩
  refine .inl ?_;unfold Oper.wp at*;rw [execOp_put oj hsj a oi.dst v h1]at h;generalize (execOp a.eval oj).run P w=r at*
  cases r with
  |ok n w'=>
   cases n<;>simp only [Oper.upon]at h ⊢
   case value u=>exact⟨bk a hy u,by rw [←Act.put_comm a v u h2];exact h⟩
   case skip=>exact⟨bk a hy _,by rw [←Act.put_comm a v undef h2];exact h⟩
   case defer d=>
    refine⟨bk _ (keepD d) _,?_⟩;rw [←Act.put_comm _ v undef h2,←Act.put_defers];exact h
   case enter f args=>
    refine Calls.mono h fun e w'' he=> ?_
    cases e with
    |returned u=>exact⟨bk a hy u,by rw [←Act.put_comm a v u h2];exact he⟩
    |panicked c=>exact hQ _ _ _ he
    |outgrown=>exact he
   case row row args=>exact Rows.mono h fun u w'' he=>⟨bk a hy u,by rw [←Act.put_comm a v u h2];exact he⟩
  |halt x w'=>
   cases x<;>simp only [Oper.upon]at h ⊢
   case panic u=>exact hQ _ _ _ h
 ·rename_i hw
  simp only [hw]at h;exact⟨bk a hy _,by rw [←Act.put_comm a v undef h2];exact h⟩
theorem w7:∀(fuel:Nat) (L L':List qG) (listed:Array Bool) (a:Act) (w:World),(∀p∈L',p∈L)→gz P md ops Q fuel L listed a w→gz P md ops Q fuel L' listed a w:=by
 intro fuel
 induction fuel with
 |zero=>intro L L' listed a w hs h;exact⟨fun p hp=>h.1 p (hs p hp),h.2⟩
 |succ fuel ih=>
  intro L L' listed a w hs h;refine⟨fun p hp=>h.1 p (hs p hp),h.2.1,fun k hk=>wpOp_mono (fun a w h'=>ih _ _ _ a w (fun p hp=> ?_) h') (h.2.2 k hk)⟩;rw [List.mem_filter]at hp ⊢;exact⟨hs p hp.1,hp.2⟩
def Down(md:Region.Mode)(ops:Array Oper)(listed:Array Bool):Prop:=
 ∀k ok,ops[k]? =some ok→listed.getD k false=true→∀e∈ok.after,Region.binds md e=true→listed.getD e.on false=true
theorem Down.step{listed:Array Bool}(h:Down md ops listed){i:Nat}(hi:i∈Region.ready md ops listed):Down md ops (listed.setIfInBounds i true):=by
 intro k ok hk hl e he hb;obtain⟨_,oi,hoi,hall⟩:=mem_ready.1 hi
 by_cases hki:k=i
 ·subst hki
  rw [hoi]at hk;injection hk with hk;subst hk
  exact getD_set_true (hall e he hb)
 ·rw [getD_set_ne false (Ne.symm hki)]at hl
  exact getD_set_true (h k ok hk hl e he hb)
theorem vf{D:qG}{i:Nat}{oi:Oper}{v:Value}(hi:ops[i]? =some oi)(hsel:∀(j:Nat) (o:Oper) cs b,ops[j]? =some o→o.op≠ .select cs b)
  (hQ:∀c a w,Q (.panic c) (a.put oi.dst v) w→Q (.panic c) a w)
  (hdep:∀(listed:Array Bool) (j:Nat),Down md ops listed→j∈Region.ready md ops listed→listed.getD i true=false→D.dep j=false):
  ∀(fuel:Nat) (L:List qG) (listed:Array Bool) (a:Act) (w:World),Down md ops listed→
   (∀j oj,ops[j]? =some oj→j≠i→listed.getD j true=false→(∀e∈oj.after,Region.binds md e=true→e.on≠i)→oi.apart ops oj=true)→
   i∈Region.ready md ops listed→fc P ops D.inv oi v a→
   gz P md ops Q fuel (D::L) (listed.setIfInBounds i true) (a.put oi.dst v) w→gz P md ops Q (fuel+1) L listed a w:=by
 intro fuel
 have held:∀(fuel:Nat) (L:List qG) (listed:Array Bool) (a:Act) (w:World),gz P md ops Q fuel L listed a w→∀p∈L,p.inv w:=by
  intro fuel;cases fuel<;>exact fun _ _ _ _ h=>h.1
 induction fuel with
 |zero=>
  intro L listed a w _ _ hr hy H;refine⟨fun p hp=>H.1 p (List.mem_cons_of_mem _ hp),fun h=>(by rw [h]at hr;cases hr),fun j hj=> ?_⟩
  by_cases hji:j=i
  ·subst hji
   exact hy.wpOp hi (H.1 D List.mem_cons_self) ⟨fun p hp=>H.1 p (List.mem_cons_of_mem _ (List.mem_filter.1 hp).1),H.2⟩
  ·have:=ready_mono hj hji
   rw [H.2.1]at this
   cases this
 |succ fuel ih=>
  intro L listed a w hdown hfree hr hy H;refine⟨fun p hp=>H.1 p (List.mem_cons_of_mem _ hp),fun h=>(by rw [h]at hr;cases hr),fun j hj=> ?_⟩
  by_cases hji:j=i
  ·subst hji
   exact hy.wpOp hi (H.1 D List.mem_cons_self) (w7 _ _ _ _ _ _ (fun p hp=>List.mem_cons_of_mem _ (List.mem_filter.1 hp).1) H)
  ·have h1:=H.2.2 j (ready_mono hj hji)
   obtain⟨hjun,oj,hoj,hall⟩:=mem_ready.1 hj;have hiun:=(mem_ready.1 hr).1
   have hnot:∀e∈oj.after,Region.binds md e=true→e.on≠i:=fun e he hb heq=>by
    have h1:=hall e he hb;have h0:=hiun;rw [heq]at h1;rcases Nat.lt_or_ge i listed.size with h'|h'
    ·simp [h']at h0 h1;rw [h0]at h1;cases h1
    ·simp [Array.getElem?_eq_none h']at h1
   have hap:=hfree j oj hoj hji hjun hnot;have hd:=hdep listed j hdown hj hiun;have h2:=Co hoj hap (fun cs b=>hsel i oi cs b hi) (fun cs b=>hsel j oj cs b hoj) hQ hy h1
   have hfree':∀k ok,ops[k]? =some ok→k≠i→(listed.setIfInBounds j true).getD k true=false→
     (∀e∈ok.after,Region.binds md e=true→e.on≠i)→oi.apart ops ok=true:=fun k ok hk hki hun hno=>by
    refine hfree k ok hk hki ?_ hno
    by_cases hjk:j=k
    ·subst hjk;exact hjun
    ·rw [getD_set_ne true hjk]at hun;exact hun
   refine wpOp_mono (fun a' w' h3=> ?_) h2;have h4:=h3.2;rw [List.filter_cons_of_pos (by simp [hd]),Array.setIfInBounds_comm _ _ (Ne.symm hji)]at h4;exact ih (L.filter fun p=> !p.dep j) (listed.setIfInBounds j true) a' w' (hdown.step hj) hfree' (ready_mono hr (Ne.symm hji)) h3.1 h4
def fZ(md:Region.Mode)(acc:List Nat):List Edge→Nat
 | []=>0
 |e::es=>bif Region.binds md e then(1<<<e.on)|||(acc.getD e.on 0|||fZ md acc es)else fZ md acc es
def qs(md:Region.Mode):List Oper→List Nat→List Nat
 | [],acc=>acc
 |o::os,acc=>qs md os (acc++ [fZ md acc o.after.toList])
def jl(md:Region.Mode)(ops:Array Oper):List Nat:=qs md ops.toList []
theorem tW{acc:List Nat}{i:Nat} :∀(es:List Edge),(fZ md acc es).testBit i=true→∃e∈es,Region.binds md e=true∧(i=e.on∨(acc.getD e.on 0).testBit i=true):=by
 intro es
 induction es with
 |nil=>intro h;simp [fZ]at h
 |cons e es ih=>
  intro h;simp only [fZ]at h
  cases hb:Region.binds md e with
  |false=>
   rw [hb]at h;obtain⟨e',he',h'⟩:=ih h;exact⟨e',List.mem_cons_of_mem _ he',h'⟩
  |true=>
   rw [hb]at h;simp only [cond_true,Nat.testBit_or,Bool.or_eq_true]at h;rcases h with h|h|h
   ·refine⟨e,List.mem_cons_self,hb,.inl ?_⟩
    rw [Nat.one_shiftLeft,Nat.testBit_two_pow]at h;simpa using (of_decide_eq_true h).symm
   ·exact⟨e,List.mem_cons_self,hb,.inr h⟩
   ·obtain⟨e',he',h'⟩:=ih h
    exact⟨e',List.mem_cons_of_mem _ he',h'⟩
theorem oy:∀(os:List Oper) (acc:List Nat) (k:Nat),k<acc.length→(qs md os acc)[k]? =acc[k]? :=by
 intro os
 induction os with
 |nil=>intro acc k _;rfl
 |cons o os ih=>
  intro acc k hk;rw [qs,ih _ _ (by simp;omega),List.getElem?_append_left hk]
theorem Gu:∀(os:List Oper) (acc:List Nat) (m:Nat) (o:Oper),os[m]? =some o→
  ∃acc',(qs md os acc)[acc.length+m]? =some (fZ md acc' o.after.toList)∧acc'.length=acc.length+m∧∀k,k<acc'.length→(qs md os acc)[k]? =acc'[k]? :=by
 intro os
 induction os with
 |nil=>intro acc m o h;simp at h
 |cons o' os ih=>
  intro acc m o h
  cases m with
  |zero=>
   simp only [List.getElem?_cons_zero,Option.some.injEq]at h;subst h;refine⟨acc,?_,by simp,fun k hk=>oy _ _ _ hk⟩;rw [qs,oy _ _ _ (by simp)];simp
  |succ m=>
   simp only [List.getElem?_cons_succ]at h;obtain⟨acc',h1,h2,h3⟩:=ih (acc++ [fZ md acc o'.after.toList]) m o h;refine⟨acc',?_,?_,h3⟩
   ·rw [qs]
    simp only [List.length_append,List.length_cons,List.length_nil]at h1;rw [show acc.length+(m+1)=acc.length+(0+1)+m by omega];exact h1
   ·simp only [List.length_append,List.length_cons,List.length_nil]at h2
    omega
theorem yS{listed:Array Bool}(hd:Down md ops listed){i:Nat}(hi:listed.getD i true=false):∀(n k:Nat) (ok:Oper),k<n→ops[k]? =some ok→
  (∀e∈ok.after,Region.binds md e=true→listed.getD e.on false=true)→((jl md ops).getD k 0).testBit i=false:=by
 intro n
 induction n with
 |zero=>intro k ok hk;exact absurd hk (Nat.not_lt_zero _)
 |succ n ih=>
  intro k ok hk hok hall
  cases hb:((jl md ops).getD k 0).testBit i with
  |false=>rfl
  |true=>
   exfalso;obtain⟨acc',h1,h2,h3⟩:=Gu (md:=md) ops.toList [] k ok (by simpa using hok);simp only [List.length_nil,Nat.zero_add]at h1 h2
   have hk0:(jl md ops).getD k 0=fZ md acc' ok.after.toList:=by
    rw [List.getD_eq_getElem?_getD];unfold jl;rw [h1];rfl
   rw [hk0]at hb;obtain⟨e,he,hbind,hor⟩:=tW _ hb;have hel:=hall e (by simpa using he) hbind;rcases hor with rfl|hbit
   ·rcases Nat.lt_or_ge e.on listed.size with h'|h'
    ·simp [h']at hi hel;rw [hi]at hel;cases hel
    ·simp [Array.getElem?_eq_none h']at hel
   ·have hlt:e.on<k:=by
      rcases Nat.lt_or_ge e.on k with h'|h'
      ·exact h'
      ·rw [List.getD_eq_getElem?_getD,List.getElem?_eq_none (by omega)]at hbit
       simp at hbit
    have hsame:acc'.getD e.on 0=(jl md ops).getD e.on 0:=by
     rw [List.getD_eq_getElem?_getD,List.getD_eq_getElem?_getD,←h3 e.on (by omega)];rfl
    rw [hsame]at hbit;have hop:e.on<ops.size:=Nat.lt_trans hlt (Array.getElem?_eq_some_iff.1 hok).1;have:=ih e.on ops[e.on] (by omega) (Array.getElem?_eq_getElem hop) (fun e' he' hb'=>hd e.on _ (Array.getElem?_eq_getElem hop) hel e' he' hb');rw [this]at hbit;cases hbit
theorem Ay{listed:Array Bool}(hd:Down md ops listed){i j:Nat}(hi:listed.getD i true=false)(hj:j∈Region.ready md ops listed):((jl md ops).getD j 0).testBit i=false:=by
 obtain⟨_,oj,hoj,hall⟩:=mem_ready.1 hj;exact yS hd hi (j+1) j oj (Nat.lt_succ_self _) hoj hall
end
end
end Go.Sx
