/-
  Parts of the proof: SxF SxG SxH SxI
-/
import Derived.Test.YtmmlhdiejkknnaaGreatDoorG01
set_option maxRecDepth 100000
set_option maxHeartbeats 0
namespace Go.Sx
noncomputable section
variable {dfs : List Deferred}
def DU(P:Program)(t:TypeId)(x:SV):Option SV:=
 match ty P t with
 |none=>none
 |some s=>match s.und with
  | .string=>x.str?.map fun l=> .v (.int .i64 l.length)
  | .slice _=>match x with
    | .slc _ _ l _=>some (.v (.int .i64 l))
    | .v (.slice _ l _)=>some (.v (.int .i64 l))
    |_=>none
  | .array n _=>some (.v (.int .i64 n))
  | .pointer e=>match ty P e with
    |some se=>match se.und with
     | .array n _=>some (.v (.int .i64 n))
     |_=>none
    |none=>none
  | .map _ _=>match x with
    | .v (.map none)=>some (.v (.int .i64 0))
    |_=>none
  |_=>none
theorem DT{P:Program}{t u:TypeId}{x z:SV}(h:DU P t x=some z)(ρ:Nat→Loc)(w:World):(Builtin.len_ #[t] u #[x.den ρ]).run P w= .ok (z.den ρ) w:=by
 unfold DU at h
 split at h
 ·cases h
 ·rename_i s hs
  have hu:=aq w hs
  split at h
  ·rename_i hd
   simp only [Option.map_eq_some_iff]at h;obtain⟨l,hl,rfl⟩:=h;rw [SV.bF hl];have hsz:(⟨l.toArray⟩:ByteArray).size=l.length:=by show l.toArray.size=_;simp
   simp only [Builtin.len_,List.getElem?_toArray,List.getElem?_cons_zero,Sem.run_bind,hu,hd,Result.andThen_ok,hsz];rfl
  ·rename_i e hd
   split at h
   ·injection h with h;subst h
    simp only [Builtin.len_,List.getElem?_toArray,List.getElem?_cons_zero,Sem.run_bind,hu,hd,Result.andThen_ok,SV.den];rfl
   ·injection h with h;subst h
    simp only [Builtin.len_,List.getElem?_toArray,List.getElem?_cons_zero,Sem.run_bind,hu,hd,Result.andThen_ok,SV.den];rfl
   ·cases h
  ·rename_i n e hd
   injection h with h;subst h
   simp only [Builtin.len_,List.getElem?_toArray,List.getElem?_cons_zero,Sem.run_bind,hu,hd,Result.andThen_ok];rfl
  ·rename_i e hd
   split at h
   ·rename_i se hse
    split at h
    ·rename_i n e' hd'
     injection h with h;subst h
     simp only [Builtin.len_,List.getElem?_toArray,List.getElem?_cons_zero,Sem.run_bind,hu,hd,Result.andThen_ok,aq w hse,hd'];rfl
    ·cases h
   ·cases h
  ·rename_i k e hd
   split at h
   ·injection h with h;subst h
    simp only [Builtin.len_,List.getElem?_toArray,List.getElem?_cons_zero,Sem.run_bind,hu,hd,Result.andThen_ok,SV.den];rfl
   ·cases h
  ·cases h
theorem lenV_lt{P:Program}{t:TypeId}{x z:SV}(h:DU P t x=some z)(ρ:Nat→Loc)(n:Nat):z.lt ρ n:=by
 unfold DU at h
 split at h
 ·cases h
 ·split at h
  ·simp only [Option.map_eq_some_iff]at h
   obtain⟨l,hl,rfl⟩:=h;trivial
  all_goals first
   |(injection h with h;subst h;trivial)
   |(split at h<;>first|(cases h;done)|(injection h with h;subst h;trivial)|(split at h<;>first|(cases h;done)|(injection h with h;subst h;trivial)))
   |(cases h;done)
def ED(P:Program)(t:TypeId)(x:SV):Option SV:=
 match ty P t with
 |none=>none
 |some s=>match s.und,x with
  | .slice _,.slc _ _ _ (.lit c)=>some (.v (.int .i64 c))
  | .slice _,.v (.slice _ _ c)=>some (.v (.int .i64 c))
  |_,_=>none
theorem EC{P:Program}{t u:TypeId}{x z:SV}(h:ED P t x=some z)(ρ:Nat→Loc)(w:World):(Builtin.cap_ #[t] u #[x.den ρ]).run P w= .ok (z.den ρ) w:=by
 unfold ED at h
 split at h
 ·cases h
 ·rename_i s hs
  have hu:=aq w hs
  split at h
  ·rename_i hd
   injection h with h;subst h
   simp only [Builtin.cap_,List.getElem?_toArray,List.getElem?_cons_zero,Sem.run_bind,hu,hd,Result.andThen_ok,SV.den];rfl
  ·rename_i hd
   injection h with h;subst h
   simp only [Builtin.cap_,List.getElem?_toArray,List.getElem?_cons_zero,Sem.run_bind,hu,hd,Result.andThen_ok,SV.den];rfl
  ·cases h
theorem capV_lt{P:Program}{t:TypeId}{x z:SV}(h:ED P t x=some z)(ρ:Nat→Loc)(n:Nat):z.lt ρ n:=by
 unfold ED at h
 split at h
 ·cases h
 ·split at h<;>first|(cases h;done)|(injection h with h;subst h;trivial)
def foldM(mx:Bool)(k:IntKind):Int→List SV→Option SV
 |a, []=>some (.v (.int k a))
 |a,y::ys=>match y.int? with
  |some (_,b)=>foldM mx k (bif mx then(bif decide (a<b)then b else a)else(bif decide (b<a)then b else a)) ys
  |none=>none
theorem BB{P:Program}{ρ:Nat→Loc}{k:IntKind}(w:World):∀(ys:List SV) (a:Int) (z:SV),foldM false k a ys=some z→((ys.map (SV.den ρ)).foldlM Builtin.min2 (.int k a)).run P w= .ok (z.den ρ) w:=by
 intro ys
 induction ys with
 |nil=>intro a z h;injection h with h;subst h;rfl
 |cons y ys ih=>
  intro a z h;simp only [foldM]at h
  split at h
  ·rename_i k' b hy
   have:=ih _ z h;simp only [List.map_cons,List.foldlM_cons,SV.bm hy,Builtin.min2,Sem.run_bind,Sem.run_pure,Result.andThen_ok]
   by_cases hab:b<a<;>simp [hab]at this ⊢ <;>exact this
  ·cases h
theorem BC{P:Program}{ρ:Nat→Loc}{k:IntKind}(w:World):∀(ys:List SV) (a:Int) (z:SV),foldM true k a ys=some z→((ys.map (SV.den ρ)).foldlM Builtin.max2 (.int k a)).run P w= .ok (z.den ρ) w:=by
 intro ys
 induction ys with
 |nil=>intro a z h;injection h with h;subst h;rfl
 |cons y ys ih=>
  intro a z h;simp only [foldM]at h
  split at h
  ·rename_i k' b hy
   have:=ih _ z h;simp only [List.map_cons,List.foldlM_cons,SV.bm hy,Builtin.max2,Sem.run_bind,Sem.run_pure,Result.andThen_ok]
   by_cases hab:a<b
   ·simp [hab]at this ⊢;exact this
   ·simp [hab]at this ⊢;exact this
  ·cases h
theorem vZ{mx:Bool}{k:IntKind}(ρ:Nat→Loc)(n:Nat):∀(ys:List SV) (a:Int) (z:SV),foldM mx k a ys=some z→z.lt ρ n:=by
 intro ys
 induction ys with
 |nil=>intro a z h;injection h with h;subst h;trivial
 |cons y ys ih=>
  intro a z h;simp only [foldM]at h
  split at h
  ·exact ih _ z h
  ·cases h
def rh(P:Program)(b:Builtin)(ts:List TypeId)(xs:List SV):Option SV:=
 match b,ts,xs with
 | .len, [t], [x]=>DU P t x
 | .cap, [t], [x]=>ED P t x
 | .min,_,x::ys=>match x.int? with
   |some (k,a)=>foldM false k a ys
   |none=>none
 | .max,_,x::ys=>match x.int? with
   |some (k,a)=>foldM true k a ys
   |none=>none
 |_,_,_=>none
theorem yK{P:Program}{b:Builtin}{ts:List TypeId}{xs:List SV}{z:SV}(h:rh P b ts xs=some z)(ρ:Nat→Loc)(w:World)(u:TypeId)(cs:Array Bool):
  (builtin b ts.toArray u cs (xs.map (SV.den ρ)).toArray).run P w= .ok (.value (z.den ρ)) w:=by
 unfold rh at h
 split at h
 ·have:=DT h ρ w (u:=u)
  simp only [builtin,Sem.run_bind,List.map_cons,List.map_nil,this,Result.andThen_ok,Sem.run_pure]
 ·have:=EC h ρ w (u:=u)
  simp only [builtin,Sem.run_bind,List.map_cons,List.map_nil,this,Result.andThen_ok,Sem.run_pure]
 ·split at h
  ·rename_i k a hx
   simp only [builtin,Builtin.min_,List.map_cons,SV.bm hx,Sem.run_bind,BB w _ _ _ h,Result.andThen_ok,Sem.run_pure]
  ·cases h
 ·split at h
  ·rename_i k a hx
   simp only [builtin,Builtin.max_,List.map_cons,SV.bm hx,Sem.run_bind,BC w _ _ _ h,Result.andThen_ok,Sem.run_pure]
  ·cases h
 ·cases h
theorem BZ{P:Program}{b:Builtin}{ts:List TypeId}{xs:List SV}{z:SV}(h:rh P b ts xs=some z)(ρ:Nat→Loc)(n:Nat):z.lt ρ n:=by
 unfold rh at h
 split at h
 ·exact lenV_lt h ρ n
 ·exact capV_lt h ρ n
 ·split at h
  ·exact vZ ρ n _ _ _ h
  ·cases h
 ·split at h
  ·exact vZ ρ n _ _ _ h
  ·cases h
 ·cases h
def gg(x:Option SV):Option (Bool×SV):=
 match x with
 |some v=>some (true,v)
 |none=>none
def iE(tm:T SV):Option Operand→Option (Option SV)
 |none=>some none
 |some x=>match opd tm x with
  |some v=>some (some v)
  |none=>none
def r6(c a b:SV):Option SV:=
 match c with
 | .v (.bool t)=>match a,b with
   | .v (.bool x),.v (.bool y)=>some (.v (.bool (bif t then x else y)))
   |a,b=>some (bif t then a else b)
 |_=>none
theorem AJ{c a b z:SV}(h:r6 c a b=some z)(ρ:Nat→Loc):∃t,c= .v (.bool t)∧z.den ρ=if t then a.den ρ else b.den ρ:=by
 unfold r6 at h
 split at h
 ·rename_i t
  refine⟨t,rfl,?_⟩
  split at h<;>injection h with h<;>subst h<;>cases t<;>rfl
 ·cases h
theorem Df{c a b z:SV}(h:r6 c a b=some z){ρ:Nat→Loc}{n:Nat}(ha:a.lt ρ n)(hb:b.lt ρ n):z.lt ρ n:=by
 unfold r6 at h
 split at h
 ·rename_i t
  split at h
  ·injection h with h;subst h;trivial
  ·injection h with h;subst h;cases t
   ·exact hb
   ·exact ha
 ·cases h
def qd(P:Program)(tm:T SV)(c:Call):Option (Bool×SV):=
 match c.callee with
 | .builtin b=>match jR tm c.args.toList with
   |some xs=>gg (rh P b c.argTypes.toList xs)
   |none=>none
 |_=>none
def Dc(P:Program)(tm:T SV):Op→Option (Bool×SV)
 | .move x=>gg (opd tm x)
 | .assign x=>gg (opd tm x)
 | .pick c a b=>match opd tm c,opd tm a,opd tm b with
   |some c,some a,some b=>gg (r6 c a b)
   |some (.v (.bool true)),some a,none=>some (true,a)
   |some (.v (.bool false)),none,some b=>some (true,b)
   |_,_,_=>none
 | .build t parts=>match jR tm (parts.toList.map (·.2))with
   |some xs=>gg (nY P t ((parts.toList.map (·.1)).zip xs))
   |none=>none
 | .nilCheck x=>match opd tm x with
   |some x=>nilV x
   |none=>none
 | .binOp op t x y _=>match opd tm x,opd tm y with
   |some a,some b=>Cc P op t (isCst y) a b
   |_,_=>none
 | .unOp op _ x=>match opd tm x with
   |some x=>gg (unV op x)
   |none=>none
 | .convert s d x=>match opd tm x with
   |some x=>gg (sO P s d x)
   |none=>none
 | .makeInterface t x=>match opd tm x with
   |some x=>gg (Bs P t x)
   |none=>none
 | .makeFunc (.func f) first caps=>bif first.isEmpty then(match jR tm caps.toList with
    |some xs=>some (true,.fn f xs)
    |none=>none)else none
 | .slice t x lo hi mx=>match opd tm x,iE tm lo,iE tm hi,iE tm mx with
   |some x,some lo,some hi,some mx=>tj P t x lo hi mx
   |_,_,_,_=>none
 | .fieldAddr t x i=>match opd tm x with
   |some x=>gg (fK P t x i)
   |none=>none
 | .field t x i=>match opd tm x with
   |some x=>gg (nW P t x i)
   |none=>none
 | .indexAddr t x i=>match opd tm x,opd tm i with
   |some x,some i=>fI P t x i
   |_,_=>none
 | .index t x i=>match opd tm x,opd tm i with
   |some x,some i=>nN P t x i
   |_,_=>none
 | .extract x i=>match opd tm x with
   |some x=>gg (je x i)
   |none=>none
 | .typeAssert x _ t ok=>match opd tm x with
   |some x=>gg (lq P t ok x)
   |none=>none
 | .call c=>qd P tm c
 |_=>none
theorem cU{x:Option SV}{r:Bool}{z:SV}(h:gg x=some (r,z)):x=some z:=by
 unfold gg at h
 split at h
 ·injection h with h;injection h with _ h;subst h;rfl
 ·cases h
theorem gQ{ρ:Nat→Loc}{tm:T SV}{sz nx:Nat}{a:Act}(A:cG dfs ρ tm sz nx a){x:Option Operand}{v:Option SV}(h:iE tm x=some v):x.map a.eval=v.map (SV.den ρ):=by
 unfold iE at h
 split at h
 ·injection h with h;subst h;rfl
 ·split at h
  ·rename_i hv
   injection h with h;subst h
   simp [(aT A hv).1]
  ·cases h
theorem nt{P:Program}{tm:T SV}{op:Op}{r:Bool}{z:SV}(h:Dc P tm op=some (r,z))(hr:r=true){ρ:Nat→Loc}{sz nx:Nat}{a:Act}(A:cG dfs ρ tm sz nx a)
  (o:Oper) (ho:o.op=op) (w:World):(execOp a.eval o).run P w= .ok (.value (z.den ρ)) w∧z.lt ρ nx:=by
 subst hr;unfold Dc at h;unfold execOp;rw [ho]
 split at h
 ·have h:=cU h
  obtain⟨h1,h2⟩:=aT A h;exact⟨by simp [h1],h2⟩
 ·have h:=cU h
  obtain⟨h1,h2⟩:=aT A h;exact⟨by simp [h1],h2⟩
 ·split at h
  ·rename_i c x y hc hx hy
   have h:=cU h;obtain⟨c1,_⟩:=aT A hc;obtain⟨x1,x2⟩:=aT A hx;obtain⟨y1,y2⟩:=aT A hy;obtain⟨t,rfl,hz⟩:=AJ h ρ;refine⟨?_,Df h x2 y2⟩;rw [hz];simp only [c1,x1,y1,SV.den,asBool,Sem.run_bind,Sem.run_pure,Result.andThen_ok]
  ·rename_i x hc hx hy
   injection h with h;injection h with _ h;subst h
   obtain⟨c1,_⟩:=aT A hc;obtain⟨x1,x2⟩:=aT A hx;exact⟨by simp only [c1,x1,SV.den,asBool,Sem.run_bind,Sem.run_pure,Result.andThen_ok,if_true],x2⟩
  ·rename_i x hc hx hy
   injection h with h;injection h with _ h;subst h
   obtain⟨c1,_⟩:=aT A hc;obtain⟨x1,x2⟩:=aT A hy;exact⟨by simp only [c1,x1,SV.den,asBool,Sem.run_bind,Sem.run_pure,Result.andThen_ok,Bool.false_eq_true,if_false],x2⟩
  ·cases h
 ·rename_i t parts
  split at h
  ·rename_i xs hxs
   have h:=cU h;obtain⟨h1,h2⟩:=dw A _ _ hxs
   have hp:(parts.map fun(i,x)=>(i,a.eval x))=(((parts.toList.map (·.1)).zip xs).map fun(i,x)=>(i,x.den ρ)).toArray:=by
    apply Array.toList_inj.1;rw [Array.toList_map];show _=((parts.toList.map (·.1)).zip xs).map fun(i,x)=>(i,x.den ρ)
    have:(((parts.toList.map (·.1)).zip xs).map fun(i,x)=>(i,SV.den ρ x))=(parts.toList.map (·.1)).zip (xs.map (SV.den ρ)):=by
     rw [List.zip_map_right];rfl
    rw [this,←h1,List.map_map,List.zip_map'];rfl
   refine⟨?_,Ca h fun p hp=>h2 p.2 (List.of_mem_zip hp).2⟩;simp only [Sem.run_bind];rw [hp,yL h ρ w];simp
  ·cases h
 ·split at h
  ·rename_i x hx
   obtain⟨h1,h2⟩:=aT A hx;dsimp only;rw [h1];unfold nilV at h
   split at h
   ·injection h with h;injection h with _ h;subst h;exact⟨rfl,h2⟩
   ·rename_i o
    injection h with h;injection h with h3 h;subst h
    cases o with
    |none=>cases h3
    |some a=>exact⟨rfl,trivial⟩
   ·injection h with h;injection h with _ h;subst h;exact⟨rfl,h2⟩
   ·injection h with h;injection h with _ h;subst h;exact⟨rfl,h2⟩
   ·cases h
  ·cases h
 ·rename_i op t x y _
  split at h
  ·rename_i u v hu hv
   obtain⟨h1,_⟩:=aT A hu;obtain⟨h2,_⟩:=aT A hv;refine⟨?_,binV_lt h ρ nx⟩;have:=EM h rfl ρ w x y (fun hc=>by cases y<;>first|exact⟨_,rfl⟩|cases hc);rw [←h1,←h2]at this;simp only [Sem.run_bind]at this ⊢;rw [this];simp
  ·cases h
 ·split at h
  ·rename_i x hx
   have h:=cU h;obtain⟨h1,_⟩:=aT A hx;refine⟨?_,unV_lt h ρ nx⟩;simp only [Sem.run_bind,h1,unV_run h ρ w,Result.andThen_ok,Sem.run_pure]
  ·cases h
 ·split at h
  ·rename_i x hx
   have h:=cU h;obtain⟨h1,h2⟩:=aT A hx;refine⟨?_,Ev h h2⟩;simp only [Sem.run_bind,h1,BQ h ρ w,Result.andThen_ok,Sem.run_pure]
  ·cases h
 ·split at h
  ·rename_i x hx
   have h:=cU h;obtain⟨h1,h2⟩:=aT A hx;refine⟨?_,ifcV_lt h h2⟩;simp only [Sem.run_bind,h1,D2 h ρ w,Result.andThen_ok,Sem.run_pure]
  ·cases h
 ·rename_i f first caps
  cases hf:first.isEmpty with
  |false=>rw [hf]at h;cases h
  |true=>
   rw [hf]at h;simp only [cond_true]at h
   split at h
   ·rename_i xs hxs
    injection h with h;injection h with _ h;subst h
    obtain⟨h1,h2⟩:=dw A _ _ hxs;have hfe:first= #[]:=Array.isEmpty_iff.1 hf;subst hfe;refine⟨?_,dj.2 h2⟩
    have hc:caps.map a.eval=(xs.map (SV.den ρ)).toArray:=by
     apply Array.toList_inj.1;rw [Array.toList_map,h1]
    simp only [Instr.makeFunc,hc,SV.den,cS,Sem.run_bind,Sem.run_pure,Result.andThen_ok,Array.map_empty]
   ·cases h
 ·split at h
  ·rename_i x lo hi mx hx hlo hhi hmx
   obtain⟨h1,h2⟩:=aT A hx;obtain⟨k1,k2⟩:=xm h rfl h2 w;refine⟨?_,k2⟩;simp only [Sem.run_bind,h1,gQ A hlo,gQ A hhi,gQ A hmx,k1,Result.andThen_ok,Sem.run_pure]
  ·cases h
 ·split at h
  ·rename_i x hx
   have h:=cU h;obtain⟨h1,h2⟩:=aT A hx;refine⟨?_,rI h h2⟩;simp only [Sem.run_bind,h1,qU h ρ w,Result.andThen_ok,Sem.run_pure]
  ·cases h
 ·split at h
  ·rename_i x hx
   have h:=cU h;obtain⟨h1,h2⟩:=aT A hx;refine⟨?_,BD h h2⟩;simp only [Sem.run_bind,h1,yr h ρ w,Result.andThen_ok,Sem.run_pure]
  ·cases h
 ·split at h
  ·rename_i x i hx hi
   obtain⟨h1,h2⟩:=aT A hx;obtain⟨h3,_⟩:=aT A hi;refine⟨?_,rH h h2⟩;simp only [Sem.run_bind,h1,h3,qK h rfl ρ w,Result.andThen_ok,Sem.run_pure]
  ·cases h
 ·split at h
  ·rename_i x i hx hi
   obtain⟨h1,h2⟩:=aT A hx;obtain⟨h3,_⟩:=aT A hi;refine⟨?_,Br h h2⟩;simp only [Sem.run_bind,h1,h3,yk h rfl ρ w,Result.andThen_ok,Sem.run_pure]
  ·cases h
 ·split at h
  ·rename_i x hx
   have h:=cU h;obtain⟨h1,h2⟩:=aT A hx;refine⟨?_,wb h h2⟩;simp only [Sem.run_bind,h1,ua h ρ w,Result.andThen_ok,Sem.run_pure]
  ·cases h
 ·split at h
  ·rename_i x hx
   have h:=cU h;obtain⟨h1,h2⟩:=aT A hx;refine⟨?_,yN h h2⟩;simp only [Sem.run_bind,h1,wJ h ρ w,Result.andThen_ok,Sem.run_pure]
  ·cases h
 ·rename_i c
  unfold qd at h
  split at h
  ·rename_i b hb
   split at h
   ·rename_i xs hxs
    have h:=cU h;obtain⟨h1,_⟩:=dw A _ _ hxs;refine⟨?_,BZ h ρ nx⟩
    have hc:c.args.map a.eval=(xs.map (SV.den ρ)).toArray:=by
     apply Array.toList_inj.1;rw [Array.toList_map,h1]
    have key:∀cs,(builtin b c.argTypes o.type cs (xs.map (SV.den ρ)).toArray).run P w= .ok (.value (z.den ρ)) w:=fun cs=>yK h ρ w o.type cs
    simp only [resolve,hb,hc,Sem.run_bind,Sem.run_pure,Result.andThen_ok,invoke];exact key _
   ·cases h
  ·cases h
 ·cases h
end
end Go.Sx
namespace Go.Sx
noncomputable section
theorem um{w:World}{blk o:Nat}{c:Array Value}{t:TypeId}{fz:Nat×Nat}(h:w.heap[blk]? =some (.cells c t fz)):w.cell? ⟨blk,o,none⟩=c[o]? :=by
 simp [World.cell?,h]
theorem Bz{w:World}{blk o:Nat}{c:Array Value}{t:TypeId}{fz:Nat×Nat}(h:w.heap[blk]? =some (.cells c t fz))(hf:¬(fz.1≤o∧o<fz.2)):w.frozen? ⟨blk,o,none⟩=false:=by
 obtain⟨lo,hi⟩:=fz;simp only [World.frozen?,h];simp only [not_and]at hf
 by_cases h1:lo≤o
 ·simp [h1,hf h1]
 ·simp [h1]
theorem mL{P:Program}{w:World}{blk o:Nat}{c:Array Value}{t:TypeId}{fz:Nat×Nat}{v:Value}(h:w.heap[blk]? =some (.cells c t fz))(hv:c[o]? =some v):
  (load ⟨blk,o,none⟩).run P w= .ok v w:=by
 simp [um h,hv]
theorem dF{P:Program}{w:World}{blk o:Nat}{c:Array Value}{t:TypeId}{fz:Nat×Nat}(h:w.heap[blk]? =some (.cells c t fz)):∀(vs:List Value) (i:Nat) (acc:Array Value),
  (∀j v,vs[j]? =some v→c[o+(i+j)]? =some v)→(loadCellsFrom ⟨blk,o,none⟩ i vs.length acc).run P w= .ok (acc++vs.toArray) w:=by
 intro vs
 induction vs with
 |nil=>intro i acc _;simp [loadCellsFrom]
 |cons v vs ih=>
  intro i acc hv;simp only [List.length_cons,loadCellsFrom,Sem.run_bind,cE];have h0:=hv 0 v rfl;simp only [Nat.add_zero]at h0;rw [mL h h0];simp only [Result.andThen_ok];rw [ih (i+1) (acc.push v) (fun j u hj=>by have:=hv (j+1) u (by simpa using hj);rw [show i+1+j=i+(j+1)by omega];exact this)];congr 1;apply Array.toList_inj.1;simp
structure Same(blk:Nat)(w w':World):Prop where
 other:∀k,k≠blk→w'.heap[k]? =w.heap[k]?
 os:w'.os=w.os
 out:w'.output=w.output
 tape:w'.tape=w.tape
theorem rv{w:World}{blk o:Nat}{c:Array Value}{t:TypeId}{fz:Nat×Nat}(h:w.heap[blk]? =some (.cells c t fz))(v:Value):(w.setCell ⟨blk,o,none⟩ v).heap[blk]? =some (.cells (c.setIfInBounds o v) t fz):=by
 simp only [World.setCell,Array.getElem?_modify,if_true,h,Option.map_some,Option.isSome_none,Bool.false_eq_true,if_false]
theorem ru{w:World}{blk o k:Nat}(v:Value)(h:k≠blk):(w.setCell ⟨blk,o,none⟩ v).heap[k]? =w.heap[k]? :=by
 simp only [World.setCell,Array.getElem?_modify];rw [if_neg (fun e=>h e.symm)]
theorem gJ{P:Program}{blk o:Nat}{t:TypeId}{fz:Nat×Nat} :∀(vs:List Value) (i:Nat) (w:World) (c:Array Value),w.heap[blk]? =some (.cells c t fz)→
  o+i+vs.length≤c.size→(∀k,k<c.size→¬(fz.1≤k∧k<fz.2))→(∀v∈vs,v.oneCell'=true)→
  ∃w' c',(storeCells ⟨blk,o,none⟩ vs i).run P w= .ok () w'∧w'.heap[blk]? =some (.cells c' t fz)∧c'.toList=c.toList.take (o+i)++vs++c.toList.drop (o+i+vs.length)∧Same blk w w':=by
 intro vs
 induction vs with
 |nil=>intro i w c h _ _ _;exact⟨w,c,rfl,h,by simp,⟨fun _ _=>rfl,rfl,rfl,rfl⟩⟩
 |cons v vs ih=>
  intro i w c h hs hf ho;simp only [List.length_cons]at hs;have hlt:o+i<c.size:=by omega
  have h1:=rv (o:=o+i) h v;obtain⟨w',c',k1,k2,k3,k4⟩:=ih (i+1) (w.setCell ⟨blk,o+i,none⟩ v) (c.setIfInBounds (o+i) v) h1 (by simp;omega) (by simpa using hf) (fun u hu=>ho u (List.mem_cons_of_mem _ hu));refine⟨w',c',?_,k2,?_,⟨fun k hk=>(k4.other k hk).trans (ru v hk),k4.os,k4.out,k4.tape⟩⟩
  ·simp only [storeCells,Sem.run_bind,cE]
   rw [run_store P w _ v _ (ho v List.mem_cons_self),um h,Array.getElem?_eq_getElem hlt];simp only [Bz h (hf _ hlt),Bool.false_eq_true,if_false,Result.andThen_ok];exact k1
  ·rw [k3]
   simp only [Array.toList_setIfInBounds,List.length_cons];have hlt':o+i<c.toList.length:=by simpa using hlt
   rw [show o+(i+1)=(o+i)+1 by omega,show(o+i)+1+vs.length=o+i+(vs.length+1)by omega];rw [List.take_add_one,List.take_set_of_le (Nat.le_refl _),List.drop_set_of_lt (by omega),List.getElem?_set_self hlt'];simp
def takeN:Nat→List SV→Option (List SV)
 |0,_=>some []
 |n+1,x::xs=>match takeN n xs with
  |some l=>some (x::l)
  |none=>none
 |_+1, []=>none
theorem fw:∀ {n:Nat} {l out:List SV},takeN n l=some out→out.length=n∧∀(j:Nat) (x:SV),out[j]? =some x→l[j]? =some x:=by
 intro n
 induction n with
 |zero=>intro l out h;simp only [takeN,Option.some.injEq]at h;subst h;exact⟨rfl,fun j x hj=>by simp at hj⟩
 |succ n ih=>
  intro l out h
  cases l with
  |nil=>simp [takeN]at h
  |cons y ys=>
   simp only [takeN]at h
   split at h
   ·rename_i l' hl'
    injection h with h;subst h
    obtain⟨h1,h2⟩:=ih hl';refine⟨by simp [h1],fun j x hj=> ?_⟩
    cases j with
    |zero=>exact hj
    |succ j=>exact h2 j x hj
   ·cases h
def zG(g:Nat):List (Nat×List Value)→Option (List Value)
 | []=>none
 |x::xs=>bif Nat.beq x.1 g then some x.2 else zG g xs
theorem Bw{g:Nat}{cs:List Value} :∀ {l:List (Nat×List Value)},zG g l=some cs→(g,cs)∈l:=by
 intro l
 induction l with
 |nil=>intro h;cases h
 |cons x l ih=>
  intro h;simp only [zG]at h
  cases hb:Nat.beq x.1 g with
  |true=>
   rw [hb]at h;injection h with h
   have:=Nat.eq_of_beq_eq_true hb;subst this;subst h
   exact List.mem_cons_self
  |false=>
   rw [hb]at h;exact List.mem_cons_of_mem _ (ih h)
def loadG(s:STy)(o:Nat)(cs:List Value):Option SV:=
 bif TypeDesc.isAgg s.und then(takeN s.size ((cs.drop o).map .v)).map .agg else(nth cs o).map .v
def DS(s:STy)(r:Option (List Value)):Option SV:=match r with
 |some vs=>bif TypeDesc.isAgg s.und then some (.v (.agg vs.toArray))else(match vs with
  | [v]=>some (.v v)
  |_=>none)
 |none=>none
theorem rd_some{A:aa}{g o n:Nat}{vs:List Value}(h:A.rd g o n=some vs):∃c t fz,A.blk g=some (.cells c t fz)∧o+n≤c.size∧vs=(c.toList.drop o).take n:=by
 rw [A.rdeq]at h;unfold xz at h
 split at h
 ·rename_i c t fz hb
  split at h
  ·rename_i hle
   injection h with h
   exact⟨c,t,fz,hb,hle,h.symm⟩
  ·cases h
 ·cases h
theorem tw{A:aa}{g o n:Nat}{vs:List Value}(h:A.rd g o n=some vs):vs.length=n:=by
 obtain⟨c,t,fz,_,h1,rfl⟩:=rd_some h;simp;omega
def iw(P:Program)(h:HS)(t:TypeId)(x:SV):Option SV:=
 match ty P t with
 |none=>none
 |some s=>match x with
  | .ptr b o=>match h.H.get b with
    |some (.cells cs _ _)=>bif TypeDesc.isAgg s.und then(takeN s.size (cs.drop o)).map .agg else cs[o]?
    |_=>none
  | .v (.pointer (some ⟨g,o,none⟩))=>bif h.M.X.op then DS s (h.M.A.rd g o s.size)else(match zG g h.M.gl with
    |some cs=>loadG s o cs
    |none=>none)
  |_=>none
theorem sB{P:Program}{h:HS}{t:TypeId}{x z:SV}(hz:iw P h t x=some z){ρ:Nat→Loc}{w:World}(H:aL ρ h w):(Instr.loadAt t (x.den ρ)).run P w= .ok (z.den ρ) w∧z.lt ρ h.nx:=by
 unfold iw at hz
 split at hz
 ·cases hz
 ·rename_i s hs
  split at hz
  ·rename_i b o
   split at hz
   ·rename_i cs es τ hb
    obtain⟨_,h2,c,t',fz,h3,h4,h5,h7,h6⟩:=H.blk b _ hb;simp only [Instr.loadAt,SV.den,Instr.sureAddr,Sem.run_bind,Sem.run_pure,Result.andThen_ok,loadVar,mB w hs]
    cases ha:TypeDesc.isAgg s.und with
    |true=>
     rw [ha]at hz;simp only [cond_true,Option.map_eq_some_iff]at hz;obtain⟨l,hl,rfl⟩:=hz;obtain⟨k1,k2⟩:=fw hl;simp only [if_true,Sem.run_bind,bp w hs,Result.andThen_ok,loadCells]
     have:=dF (P:=P) (o:=(ρ b).off+o) h3 (l.map (SV.den ρ)) 0 #[] (fun j v hj=>by
      rw [List.getElem?_map]at hj
      cases hx:l[j]? with
      |none=>rw [hx]at hj;cases hj
      |some x=>
       rw [hx]at hj;injection hj with hj;subst hj
       have:=k2 j x hx;rw [List.getElem?_drop]at this;rw [Nat.zero_add,Nat.add_assoc]
       exact h4 (o+j) x this)
     rw [List.length_map,k1]at this;rw [this];refine⟨by simp [SV.den,cS],dj.2 fun y hy=> ?_⟩;obtain⟨j,hj⟩:=List.mem_iff_getElem?.1 hy;have:=k2 j y hj;exact h2 y (List.mem_of_mem_drop (List.mem_of_getElem? this))
    |false=>
     rw [ha]at hz;simp only [cond_false]at hz;simp only [Bool.false_eq_true,if_false];exact⟨mL h3 (h4 o z hz),h2 z (List.mem_of_getElem? hz)⟩
   ·cases hz
  ·rename_i g o
   cases hop:h.M.X.op with
   |true=>
    rw [hop]at hz;simp only [cond_true]at hz;unfold DS at hz
    split at hz
    ·rename_i vs hvs
     obtain⟨c,t',fz,hc,hle,hvs'⟩:=rd_some hvs;have hlen:=tw hvs;have h3:=H.are g _ hc
     have key:∀j v,vs[j]? =some v→c[o+(0+j)]? =some v:=fun j v hj=>by
      rw [hvs']at hj
      have hj':j<s.size:=by
       have:=(List.getElem?_eq_some_iff.1 hj).1;simp at this;omega
      rw [List.getElem?_take_of_lt hj',List.getElem?_drop,Array.getElem?_toList]at hj;rw [Nat.zero_add];exact hj
     simp only [Instr.loadAt,SV.den,Instr.sureAddr,Sem.run_bind,Sem.run_pure,Result.andThen_ok,loadVar,mB w hs]
     cases ha:TypeDesc.isAgg s.und with
     |true=>
      rw [ha]at hz;simp only [cond_true,Option.some.injEq]at hz;subst hz;simp only [if_true,Sem.run_bind,bp w hs,Result.andThen_ok,loadCells];have:=dF (P:=P) (o:=o) h3 vs 0 #[] key;rw [hlen]at this;rw [this];exact⟨by simp [SV.den],trivial⟩
     |false=>
      rw [ha]at hz;simp only [cond_false]at hz
      match vs,key,hz with
      | [v],key,hz=>
        injection hz with hz
        subst hz;simp only [Bool.false_eq_true,if_false];exact⟨mL h3 (by have:=key 0 v rfl;simpa [SV.den]using this),trivial⟩
    ·cases hz
   |false=>
   rw [hop]at hz;simp only [cond_false]at hz
   split at hz
   ·rename_i cs hg
    obtain⟨c,t',fz,hc,h4⟩:=h.M.glok g cs (Bw hg);have h3:=H.mem g _ hc;unfold loadG at hz;simp only [Instr.loadAt,SV.den,Instr.sureAddr,Sem.run_bind,Sem.run_pure,Result.andThen_ok,loadVar,mB w hs]
    cases ha:TypeDesc.isAgg s.und with
    |true=>
     rw [ha]at hz;simp only [cond_true,Option.map_eq_some_iff]at hz;obtain⟨l,hl,rfl⟩:=hz;obtain⟨k1,k2⟩:=fw hl
     have k3:∀(j:Nat) (x:SV),l[j]? =some x→∃v,x= .v v∧cs[o+j]? =some v:=fun j x hj=>by
      have:=k2 j x hj;rw [List.getElem?_map,List.getElem?_drop]at this
      cases hv:cs[o+j]? with
      |none=>rw [hv]at this;cases this
      |some v=>rw [hv]at this;injection this with this;exact⟨v,this.symm,rfl⟩
     simp only [if_true,Sem.run_bind,bp w hs,Result.andThen_ok,loadCells]
     have:=dF (P:=P) (o:=o) h3 (l.map (SV.den ρ)) 0 #[] (fun j v hj=>by
      rw [List.getElem?_map]at hj
      cases hx:l[j]? with
      |none=>rw [hx]at hj;cases hj
      |some x=>
       rw [hx]at hj;injection hj with hj;subst hj
       obtain⟨v,rfl,hv⟩:=k3 j x hx;rw [Nat.zero_add]
       exact h4 (o+j) v hv)
     rw [List.length_map,k1]at this;rw [this];refine⟨by simp [SV.den,cS],dj.2 fun y hy=> ?_⟩;obtain⟨j,hj⟩:=List.mem_iff_getElem?.1 hy;obtain⟨v,rfl,_⟩:=k3 j y hj;trivial
    |false=>
     rw [ha]at hz;simp only [cond_false,Option.map_eq_some_iff,kq]at hz;obtain⟨v,hv,rfl⟩:=hz;simp only [Bool.false_eq_true,if_false];exact⟨mL h3 (h4 o v hv),trivial⟩
   ·cases hz
  ·cases hz
def HS.new(h:HS)(B:bD):HS:=match h with
 |⟨H,nx,M⟩=>⟨H.set nx B,nx+1,M⟩
theorem la{ρ:Nat→Loc}{h:HS}{w:World}(H:aL ρ h w){cs:List SV}(hl:∀x∈cs,x.lt ρ h.nx)(c:Array Value)(hc:c=(cs.map (SV.den ρ)).toArray)(t:TypeId):
  aL (extend ρ h.nx ⟨w.heap.size,0,0⟩) (h.new (.cells cs 0 (t+1))) { w with heap:=w.heap.push (.cells c t) } :=by
 refine H.alloc (o:= .cells c t) (B:= .cells cs 0 (t+1)) (L:=⟨w.heap.size,0,0⟩) rfl hl fun w' hw'=>⟨c,t,(0,0),hw',fun i x hi=> ?_,by simp,.inl rfl,.inl rfl,.inr ⟨rfl,rfl,fun _=>by rw [hc];simp⟩⟩
 subst hc;simp [hi]
def plain? :SV→Option Value
 | .v x=>some x
 | .str l=>some (.string ⟨l.toArray⟩)
 |_=>none
def iC:List SV→Option (List Value)
 | []=>some []
 |x::xs=>match plain? x with
  |some v=>match iC xs with
   |some vs=>some (v::vs)
   |none=>none
  |none=>none
theorem AI{x:SV}{v:Value}(h:plain? x=some v)(ρ:Nat→Loc):x.den ρ=v:=by
 unfold plain? at h
 split at h
 ·injection h
 ·injection h
 ·cases h
theorem dW(ρ:Nat→Loc):∀(l:List SV) (vs:List Value),iC l=some vs→l.map (SV.den ρ)=vs
 | [],vs,h=>by injection h
 |x::xs,vs,h=>by
  simp only [iC]at h
  split at h
  ·rename_i v hv
   split at h
   ·rename_i us hus
    injection h with h;subst h
    rw [List.map_cons,AI hv ρ,dW ρ xs us hus]
   ·cases h
  ·cases h
structure aa.New(A A':aa)(g:Nat)(c:Array Value)(t:TypeId):Prop where
 none_:A.blk g=none
 at_:A'.blk g=some (.cells c t (0,0))
 other:∀k,k≠g→A'.blk k=A.blk k
theorem jf{ρ:Nat→Loc}{h:HS}{w:World}(H:aL ρ h w)(o:Obj)(d:Nat):
  ∃A',h.M.A.blk w.heap.size=none∧A'.blk w.heap.size=some o∧(∀k,k≠w.heap.size→A'.blk k=h.M.A.blk k)∧aL ρ (h.put A') { w with drawn:=d,heap:=w.heap.push o } :=by
 have hno:h.M.A.blk w.heap.size=none:=by
  cases hA:h.M.A.blk w.heap.size with
  |none=>rfl
  |some o=>have:=(Array.getElem?_eq_some_iff.1 (H.are _ _ hA)).1;omega
 have hold:∀k,k≠w.heap.size→(w.heap.push o)[k]? =w.heap[k]? :=fun k hk=>by
  rw [Array.getElem?_push,if_neg hk]
 refine⟨aa.of fun k=>if k=w.heap.size then some o else h.M.A.blk k,hno,by simp [aa.of],fun k hk=>by simp [aa.of,hk],H.sS (w':= { w with drawn:=d,heap:=w.heap.push o }) rfl rfl rfl (fun k _ hk=>hold k (by omega)) (fun k o' hk=> ?_) fun k o' hk=> ?_⟩
 ·simp only [aa.of]at hk
  by_cases hkg:k=w.heap.size
  ·subst hkg
   rw [if_pos rfl]at hk;show(w.heap.push o)[w.heap.size]? =some o'
   rw [←hk];simp
  ·rw [if_neg hkg]at hk
   show(w.heap.push o)[k]? =some o'
   rw [hold k hkg];exact H.are k o' hk
 ·simp only [aa.of]at hk
  by_cases hkg:k=w.heap.size
  ·exact .inr (by omega)
  ·rw [if_neg hkg]at hk;exact .inl ⟨_,hk⟩
theorem jg{ρ:Nat→Loc}{h:HS}{w:World}(H:aL ρ h w)(c:Array Value)(t:TypeId)(d:Nat):
  ∃A',h.M.A.New A' w.heap.size c t∧aL ρ (h.put A') { w with drawn:=d,heap:=w.heap.push (.cells c t) } :=by
 obtain⟨A',h1,h2,h3,h4⟩:=jf H (.cells c t) d;exact⟨A',⟨h1,h2,h3⟩,h4⟩
theorem eo{ρ:Nat→Loc}{h:HS}{w:World}(H:aL ρ h w){g:Nat}{o0:Obj}(hg:h.M.A.blk g=some o0)(o:Obj):
  ∃A',A'.blk g=some o∧(∀k,k≠g→A'.blk k=h.M.A.blk k)∧aL ρ (h.put A') { w with heap:=w.heap.setIfInBounds g o } :=by
 have h3:=H.are g _ hg
 have hold:∀k,k≠g→(w.heap.setIfInBounds g o)[k]? =w.heap[k]? :=fun k hk=>by
  rw [Array.getElem?_setIfInBounds_ne (Ne.symm hk)]
 refine⟨aa.of fun k=>if k=g then some o else h.M.A.blk k,by simp [aa.of],fun k hk=>by simp [aa.of,hk],H.sS (w':= { w with heap:=w.heap.setIfInBounds g o }) rfl rfl rfl (fun k hk _=>hold k fun e=>by subst e;rw [hg]at hk;cases hk) (fun k o' hk=> ?_) fun k o' hk=> ?_⟩
 ·simp only [aa.of]at hk
  by_cases hkg:k=g
  ·subst hkg
   rw [if_pos rfl]at hk;show(w.heap.setIfInBounds k o)[k]? =some o'
   rw [←hk,Array.getElem?_setIfInBounds_self,if_pos (Array.getElem?_eq_some_iff.1 h3).1]
  ·rw [if_neg hkg]at hk
   show(w.heap.setIfInBounds g o)[k]? =some o'
   rw [hold k hkg];exact H.are k o' hk
 ·simp only [aa.of]at hk
  by_cases hkg:k=g
  ·subst hkg;exact .inl ⟨_,hg⟩
  ·rw [if_neg hkg]at hk;exact .inl ⟨_,hk⟩
def rm(P:Program)(h:HS)(t:TypeId)(K:SV→HS→Bool):Bool:=
 match ty P t with
 |none=>false
 |some s=>bif h.M.X.al t then h.M.D (∀g A',h.M.A.New A' g s.zero.cells t→K (.v (.pointer (some ⟨g,0,none⟩))) (h.put A')=true)
  else K (.ptr h.nx 0) (h.new (.cells (s.zero.cells.toList.map .v) 0 (t+1)))
def EL(h:HS)(t:TypeId)(x:SV)(K:SV→HS→Bool):Bool:=
 match x.cells with
 |none=>false
 |some cs=>bif h.M.X.al t then(match iC cs with
    |some vs=>h.M.D (∀g A',h.M.A.New A' g vs.toArray t→K (.v (.pointer (some ⟨g,0,none⟩))) (h.put A')=true)
    |none=>false)
  else K (.ptr h.nx 0) (h.new (.cells cs 0 (t+1)))
def cT(ρ:Nat→Loc)(h:HS)(K:SV→HS→Bool)(v:Value)(w':World):Prop:=
 ∃z h' ρ',K z h'∧v=z.den ρ'∧z.lt ρ' h'.nx∧aL ρ' h' w'∧Ext ρ ρ' h.nx∧h.nx≤h'.nx∧h.M.le h'.M
theorem yQ{P:Program}{h:HS}{t:TypeId}{K:SV→HS→Bool}(hk:rm P h t K){ρ:Nat→Loc}{w:World}(H:aL ρ h w):
  ∃v w',(Instr.alloc t true (.tuple #[])).run P w= .ok v w'∧cT ρ h K v w':=by
 unfold rm at hk
 split at hk
 ·exact absurd hk Bool.false_ne_true
 ·rename_i s hs
  cases hal:h.M.X.al t with
  |true=>
   rw [hal]at hk;have hk:=(h.M.X.hD _).1 hk;obtain⟨A',k1,k2⟩:=jg H s.zero.cells t w.drawn;refine⟨.pointer (some ⟨w.heap.size,0,none⟩), { w with heap:=w.heap.push (.cells s.zero.cells t) },?_,_,_,ρ,hk _ A' k1,rfl,trivial,k2,Ext.refl _ _,Nat.le_refl _,Mem.cH _ _⟩;simp [Instr.alloc,cu w hs,newVar,newRow]
  |false=>
  rw [hal]at hk;simp only [cond_false]at hk
  refine⟨.pointer (some ⟨w.heap.size,0,none⟩), { w with heap:=w.heap.push (.cells s.zero.cells t) },?_,_,_,extend ρ h.nx ⟨w.heap.size,0,0⟩,hk,?_,Nat.lt_succ_self _,
   la H (fun x hx=>by obtain⟨y,_,rfl⟩:=List.mem_map.1 hx;trivial) _ (by simp [Function.comp_def,SV.den]) t,aS _ _ _,Nat.le_succ _,Mem.le_refl _⟩
  ·simp [Instr.alloc,cu w hs,newVar,newRow]
  ·simp [SV.den,bb]
theorem EK{P:Program}{h:HS}{t:TypeId}{x:SV}{K:SV→HS→Bool}(hk:EL h t x K){ρ:Nat→Loc}{w:World}(H:aL ρ h w)(hx:x.lt ρ h.nx):
  ∃v w',(Instr.box t (x.den ρ)).run P w= .ok v w'∧cT ρ h K v w':=by
 unfold EL at hk
 split at hk
 ·exact absurd hk Bool.false_ne_true
 ·rename_i cs hcs
  have hc:=SV.ll (ρ:=ρ) hcs
  cases hal:h.M.X.al t with
  |true=>
   rw [hal]at hk;simp only [cond_true]at hk
   split at hk
   ·rename_i vs hvs
    have hk:=(h.M.X.hD _).1 hk;have hvc:(x.den ρ).cells=vs.toArray:=Array.toList_inj.1 (by rw [hc,dW ρ cs vs hvs]);obtain⟨A',k1,k2⟩:=jg H vs.toArray t w.drawn;refine⟨.pointer (some ⟨w.heap.size,0,none⟩), { w with heap:=w.heap.push (.cells vs.toArray t) },?_,_,_,ρ,hk _ A' k1,rfl,trivial,k2,Ext.refl _ _,Nat.le_refl _,Mem.cH _ _⟩;simp [Instr.box,newVar,newRow,hvc]
   ·exact absurd hk Bool.false_ne_true
  |false=>
  rw [hal]at hk;simp only [cond_false]at hk
  refine⟨.pointer (some ⟨w.heap.size,0,none⟩), { w with heap:=w.heap.push (.cells (x.den ρ).cells t) },?_,_,_,extend ρ h.nx ⟨w.heap.size,0,0⟩,hk,?_,Nat.lt_succ_self _,
   la H (SV.ra hcs hx) _ (Array.toList_inj.1 (by rw [hc])) t,aS _ _ _,Nat.le_succ _,Mem.le_refl _⟩
  ·simp [Instr.box,newVar,newRow]
  ·simp [SV.den,bb]
def fT(cs:List SV)(off:Nat)(vc:List SV):Option (List SV):=bif Nat.ble (off+vc.length) cs.length then some (dA cs off vc)else none
structure aa.Put(A A':aa)(g o:Nat)(vs:List Value):Prop where
 at_:∃c t fz c',A.blk g=some (.cells c t fz)∧A'.blk g=some (.cells c' t fz)∧c'.toList=c.toList.take o++vs++c.toList.drop (o+vs.length)
 other:∀k,k≠g→A'.blk k=A.blk k
def aa.Room(A:aa)(g o n:Nat):Prop:=∃c t fz,A.blk g=some (.cells c t fz)∧o+n≤c.size∧Fz c.size fz
theorem oe{P:Program}{ρ:Nat→Loc}{h:HS}{w:World}(H:aL ρ h w){g o:Nat}{vs:List Value}(hr:h.M.A.Room g o vs.length)(hone:∀v∈vs,v.oneCell'=true):
  ∃w' A',(storeCells ⟨g,o,none⟩ vs).run P w= .ok () w'∧h.M.A.Put A' g o vs∧aL ρ (h.put A') w':=by
 obtain⟨c,t,fz,hb,hle,hfz⟩:=hr;have h3:=H.are g _ hb;obtain⟨w',c',k1,k2,k3,k4⟩:=gJ (P:=P) (o:=o) vs 0 w c h3 (by omega) hfz.not hone;simp only [Nat.add_zero]at k3;refine⟨w',aa.of fun k=>if k=g then some (.cells c' t fz)else h.M.A.blk k,k1,⟨⟨c,t,fz,c',hb,by simp [aa.of],k3⟩,fun k hk=>by simp [aa.of,hk]⟩,H.sS k4.os k4.out k4.tape (fun k hk _=>k4.other k fun e=>by subst e;rw [hb]at hk;cases hk) (fun k o hk=> ?_) fun k o hk=> ?_⟩
 ·simp only [aa.of]at hk
  by_cases hkg:k=g
  ·subst hkg;rw [if_pos rfl]at hk;rw [k2];exact hk
  ·rw [if_neg hkg]at hk;rw [k4.other k hkg];exact H.are k o hk
 ·simp only [aa.of]at hk
  by_cases hkg:k=g
  ·subst hkg;exact .inl ⟨_,hb⟩
  ·rw [if_neg hkg]at hk;exact .inl ⟨_,hk⟩
def Cx(s:STy)(h:HS)(g o:Nat)(vc:List SV)(K:SV→HS→Bool):Bool:=match iC vc with
 |some vs=>bif Nat.beq vc.length s.size&&vc.all SV.one then h.M.D (h.M.A.Room g o vs.length∧∀A',h.M.A.Put A' g o vs→K (.v (.tuple #[])) (h.put A')=true)else false
 |none=>false
def ti(P:Program)(h:HS)(t:TypeId)(x v:SV)(K:SV→HS→Bool):Bool:=
 match ty P t,x,v.cells with
 |some s,.v (.pointer (some ⟨g,o,none⟩)),some vc=>Cx s h g o vc K
 |some s,.ptr b o,some vc=>match h.H.get b with
  |some (.cells cs es τ)=>bif Nat.beq vc.length s.size&&vc.all SV.one then(match fT cs o vc with
   |some cs'=>K (.v (.tuple #[])) { h with H:=h.H.set b (.cells cs' es τ) }
   |none=>false)else false
  |_=>false
 |_,_,_=>false
theorem nR{cs vc:List SV}{off i:Nat}(h:off+vc.length≤cs.length):(dA cs off vc)[i]? =if i<off then cs[i]? else if i<off+vc.length then vc[i-off]? else cs[i]? :=by
 unfold dA
 by_cases h1:i<off
 ·rw [if_pos h1,List.append_assoc,List.getElem?_append_left (by simp;omega),List.getElem?_take_of_lt h1]
 ·rw [if_neg h1]
  by_cases h2:i<off+vc.length
  ·rw [if_pos h2,List.append_assoc,List.getElem?_append_right (by simp;omega),List.getElem?_append_left (by simp;omega)]
   congr 1;simp;omega
  ·rw [if_neg h2,List.getElem?_append_right (by simp;omega),List.getElem?_drop]
   congr 1;simp;omega
theorem ik{P:Program}{ρ:Nat→Loc}{h:HS}{w:World}(H:aL ρ h w){b o es τ:Nat}{cs vc:List SV}(hb:h.H.get b=some (.cells cs es τ))(hlen:o+vc.length≤cs.length)
  (hone:∀x∈vc,x.one=true) (hlt:∀x∈vc,x.lt ρ h.nx):
  ∃w',(storeCells ⟨(ρ b).blk,(ρ b).off+o,none⟩ (vc.map (SV.den ρ))).run P w= .ok () w'∧aL ρ { h with H:=h.H.set b (.cells (dA cs o vc) es τ) } w':=by
 obtain⟨_,h2,c,t',fz,h3,h4,h5,h7,h6⟩:=H.blk b _ hb
 have hsz:cs= []∨(ρ b).off+cs.length≤c.size:=by
  cases hcs:cs.reverse with
  |nil=>exact .inl (List.reverse_eq_nil_iff.1 hcs)
  |cons y ys=>
   have:cs[cs.length-1]? =some y:=by
    have:cs=(y::ys).reverse:=by rw [←hcs,List.reverse_reverse]
    rw [this];simp
   have:=(Array.getElem?_eq_some_iff.1 (h4 _ y this)).1;have hne:cs.length≠0:=fun e=>by rw [List.length_eq_zero_iff.1 e]at hcs;cases hcs
   exact .inr (by omega)
 by_cases hv:vc= []
 ·subst hv
  refine⟨w,rfl,?_⟩;have:dA cs o []=cs:=by simp [dA]
  rw [this];exact H.write hb h2 ⟨c,t',fz,h3,h4,h5,h7,h6⟩ (fun _ _=>rfl) rfl rfl rfl
 ·have hvl:0<vc.length:=List.length_pos_iff.2 hv
  have hsz':(ρ b).off+cs.length≤c.size:=hsz.resolve_left (fun e=>by rw [e]at hlen;simp only [List.length_nil]at hlen;omega)
  obtain⟨w',c',k1,k2,k3,k4⟩:=gJ (P:=P) (o:=(ρ b).off+o) (vc.map (SV.den ρ)) 0 w c h3 (by simp;omega) h6.1.not (fun v hv=>by
   obtain⟨x,hx,rfl⟩:=List.mem_map.1 hv;exact SV.one_den (hone x hx))
  refine⟨w',k1,H.write hb (B':= .cells (dA cs o vc) es τ) (fun x hx=> ?_) ⟨c',t',fz,k2,fun i x hi=> ?_,?_,?_,?_⟩ k4.other k4.os k4.out k4.tape⟩
  ·simp only [dA,List.mem_append]at hx
   rcases hx with(hx|hx)|hx
   ·exact h2 x (List.mem_of_mem_take hx)
   ·exact hlt x hx
   ·exact h2 x (List.mem_of_mem_drop hx)
  ·rw [nR hlen]at hi
   rw [←Array.getElem?_toList,k3];simp only [Nat.add_zero,List.length_map];have hcl:c.toList.length=c.size:=Array.length_toList
   by_cases h1:i<o
   ·rw [if_pos h1]at hi
    rw [List.append_assoc,List.getElem?_append_left (by simp;omega),List.getElem?_take_of_lt (by omega),Array.getElem?_toList];exact h4 i x hi
   ·rw [if_neg h1]at hi
    by_cases h2:i<o+vc.length
    ·rw [if_pos h2]at hi
     rw [List.append_assoc,List.getElem?_append_right (by simp;omega),List.getElem?_append_left (by simp;omega),List.getElem?_map];have:(ρ b).off+i-(List.take ((ρ b).off+o) c.toList).length=i-o:=by simp;omega
     rw [this,hi];rfl
    ·rw [if_neg h2]at hi
     rw [List.getElem?_append_right (by simp;omega),List.getElem?_drop,Array.getElem?_toList];have:(ρ b).off+o+vc.length+((ρ b).off+i-(List.take ((ρ b).off+o) c.toList++List.map (SV.den ρ) vc).length)=(ρ b).off+i:=by simp;omega
     rw [this];exact h4 i x hi
  ·have:c'.size=c.size:=by
     rw [←Array.length_toList,k3];simp;omega
   rw [this];exact h5
  ·have:(dA cs o vc).length=cs.length:=by simp [dA];omega
   rw [this];exact h7
  ·have:c'.size=c.size:=by
     rw [←Array.length_toList,k3];simp;omega
   have hov:(dA cs o vc).length=cs.length:=by simp [dA];omega
   rw [this,hov];exact h6
theorem xh{P:Program}{h:HS}{t:TypeId}{x v:SV}{K:SV→HS→Bool}(hk:ti P h t x v K){ρ:Nat→Loc}{w:World}(H:aL ρ h w)(hv:v.lt ρ h.nx):
  ∃w',(Instr.storeAt t (x.den ρ) (v.den ρ)).run P w= .ok () w'∧cT ρ h K (.tuple #[]) w':=by
 unfold ti at hk
 split at hk
 ·rename_i s g o vc hs hvc
  unfold Cx at hk
  split at hk
  ·rename_i vs hvs
   cases hc:Nat.beq vc.length s.size&&vc.all SV.one with
   |false=>rw [hc]at hk;exact absurd hk Bool.false_ne_true
   |true=>
    rw [hc]at hk;simp only [Bool.and_eq_true,List.all_eq_true]at hc;have hlen:=Nat.eq_of_beq_eq_true hc.1;simp only [cond_true]at hk;obtain⟨hroom,hk⟩:=(h.M.X.hD _).1 hk;have hd:=SV.ll (ρ:=ρ) hvc;have hp:=dW ρ vc vs hvs
    obtain⟨w',A',k1,k2,k3⟩:=oe (P:=P) H hroom (fun u hu=>by
     rw [←hp]at hu
     obtain⟨y,hy,rfl⟩:=List.mem_map.1 hu;exact SV.one_den (hc.2 y hy))
    have hsz:(v.den ρ).cells.size=s.size:=by rw [←Array.length_toList,hd,List.length_map,hlen]
    refine⟨w',?_,_,_,ρ,hk A' k2,rfl,trivial,k3,Ext.refl _ _,Nat.le_refl _,Mem.cH _ _⟩;simp only [Instr.storeAt,SV.den,Instr.sureAddr,Sem.run_bind,Sem.run_pure,Result.andThen_ok,storeVar,bp w hs,hsz,ne_eq,not_true_eq_false,if_false,hd,hp];exact k1
  ·exact absurd hk Bool.false_ne_true
 ·rename_i s b o vc hs hvc
  split at hk
  ·rename_i cs es τ hb
   cases hc:Nat.beq vc.length s.size&&vc.all SV.one with
   |false=>rw [hc]at hk;exact absurd hk Bool.false_ne_true
   |true=>
    rw [hc]at hk;simp only [Bool.and_eq_true,List.all_eq_true]at hc;have hlen:=Nat.eq_of_beq_eq_true hc.1;simp only [cond_true]at hk
    split at hk
    ·rename_i cs' hov
     unfold fT at hov
     cases hble:Nat.ble (o+vc.length) cs.length with
     |false=>rw [hble]at hov;cases hov
     |true=>
      rw [hble]at hov;injection hov with hov;subst hov
      have hd:=SV.ll (ρ:=ρ) hvc;obtain⟨w',k1,k2⟩:=ik (P:=P) H hb (Nat.le_of_ble_eq_true hble) hc.2 (SV.ra hvc hv);have hsz:(v.den ρ).cells.size=s.size:=by rw [←Array.length_toList,hd,List.length_map,hlen]
      refine⟨w',?_,_,_,ρ,hk,rfl,trivial,k2,Ext.refl _ _,Nat.le_refl _,Mem.le_refl _⟩;simp only [Instr.storeAt,SV.den,Instr.sureAddr,Sem.run_bind,Sem.run_pure,Result.andThen_ok,storeVar,bp w hs,hsz,ne_eq,not_true_eq_false,if_false,hd];exact k1
    ·exact absurd hk Bool.false_ne_true
  ·exact absurd hk Bool.false_ne_true
 ·exact absurd hk Bool.false_ne_true
def cM(zc:List SV):Nat→List SV
 |0=> []
 |n+1=>zc++cM zc n
theorem o3(zc:List SV):∀n,(cM zc n).length=n*zc.length
 |0=>by simp [cM]
 |n+1=>by simp [cM,o3 zc n,Nat.add_mul];omega
theorem ju{α:Type} [Inhabited α](z:Array α)(n:Nat):((Array.range (n*z.size)).map (z[· %z.size]!)).toList=(List.replicate n z.toList).flatten:=by
 apply List.ext_getElem?;intro i;simp only [Array.toList_map,Array.toList_range,List.getElem?_map]
 by_cases hi:i<n*z.size
 ·have hz:0<z.size:=by
    rcases Nat.eq_zero_or_pos z.size with h|h
    ·rw [h]at hi;simp at hi
    ·exact h
  rw [List.getElem?_range hi]
  have key:∀(n i:Nat),i<n*z.size→((List.replicate n z.toList).flatten)[i]? =some (z[i%z.size]!):=by
   intro n
   induction n with
   |zero=>intro i h;simp at h
   |succ n ih=>
    intro i h;rw [List.replicate_succ,List.flatten_cons]
    by_cases hlt:i<z.size
    ·rw [List.getElem?_append_left (by simpa using hlt),Nat.mod_eq_of_lt hlt]
     simp [hlt]
    ·rw [List.getElem?_append_right (by simp;omega),Array.length_toList]
     have:i-z.size<n*z.size:=by rw [Nat.add_mul]at h;omega
     rw [ih _ this];congr 2;exact(Nat.mod_eq_sub_mod (by omega)).symm
  rw [key n i hi];rfl
 ·rw [List.getElem?_eq_none (by simpa using hi),List.getElem?_eq_none (by
    simp only [List.length_flatten,List.map_replicate,List.sum_replicate_nat,Array.length_toList];omega)]
  rfl
theorem jr(ρ:Nat→Loc)(z:Array Value):∀n,(cM (z.toList.map .v) n).map (SV.den ρ)=(List.replicate n z.toList).flatten
 |0=>rfl
 |n+1=>by
  rw [cM,List.map_append,jr ρ z n,List.replicate_succ,List.flatten_cons];simp [Function.comp_def,SV.den]
theorem kf{ρ:Nat→Loc}{m:Nat}(z:Array Value):∀n,∀y∈cM (z.toList.map .v) n,y.lt ρ m
 |0,y,h=>by simp [cM]at h
 |n+1,y,h=>by
  simp only [cM,List.mem_append]at h;rcases h with h|h
  ·obtain⟨x,_,rfl⟩:=List.mem_map.1 h;trivial
  ·exact kf z n y h
def makeA(h:HS)(e:TypeId)(se:STy)(li ci:Int)(K:SV→HS→Bool):Bool:=
 h.M.D (0≤li∧li≤ci∧ci≤9223372036854775807∧se.bytes*ci.toNat≤281474976710656∧se.zero.cells.size=se.size∧
  ∀(g:Nat) (A':aa) (c:Array Value),c.toList=(List.replicate ci.toNat se.zero.cells.toList).flatten→h.M.A.New A' g c e→K (.v (.slice (some ⟨g,0,none⟩) li.toNat ci.toNat)) (h.put A')=true)
def vB(P:Program)(h:HS)(t:TypeId)(l c:SV)(K:SV→HS→Bool):Bool:=
 match ty P t,l.int?,c.int? with
 |some s,some (_,li),some (_,ci)=>match s.und with
  | .slice e=>match ty P e with
    |some se=>bif h.M.X.op then makeA h e se li ci K else
     let n:=ci.toNat
     bif decide (0≤li)&&decide (li≤ci)&&decide (ci≤9223372036854775807)&&Nat.ble (se.bytes*n) 281474976710656&&Nat.beq se.zero.cells.size se.size then
      K (.slc h.nx 0 li.toNat (.lit n)) (h.new (.cells (cM (se.zero.cells.toList.map .v) n) 0 (e+1)))
     else false
    |none=>false
  |_=>false
 |_,_,_=>false
theorem wrap_i64{n:Int}(h0:0≤n)(h1:n≤9223372036854775807):IntKind.i64.wrap n=n:=by
 simp only [IntKind.wrap,IntKind.bits,IntKind.signed];simp;omega
theorem Bc{P:Program}{h:HS}{t:TypeId}{l c:SV}{K:SV→HS→Bool}(hk:vB P h t l c K){ρ:Nat→Loc}{w:World}(H:aL ρ h w):
  ∃v w',(Instr.makeSlice t (l.den ρ) (c.den ρ)).run P w= .ok v w'∧cT ρ h K v w':=by
 unfold vB at hk
 split at hk
 ·rename_i s k li k' ci hs hl hc
  split at hk
  ·rename_i e hd
   split at hk
   ·rename_i se hse
    cases hop:h.M.X.op with
    |true=>
     rw [hop]at hk;simp only [cond_true]at hk;obtain⟨h0,h1,h2,h3,h4,hk⟩:=(h.M.X.hD _).1 hk;obtain⟨i,hi,hi1,hi2,hi3⟩:=fB w hse
     have hbytes:¬((se.bytes:Int)*ci>2^48):=by
      have:((se.bytes*ci.toNat:Nat):Int)=(se.bytes:Int)*ci:=by
       rw [Int.natCast_mul,Int.toNat_of_nonneg (by omega)]
      have h5:(2^48:Int)=281474976710656:=by decide
      rw [h5];omega
     have hbytesl:¬((se.bytes:Int)*li>2^48):=by
      have:(se.bytes:Int)*li≤(se.bytes:Int)*ci:=Int.mul_le_mul_of_nonneg_left h1 (Int.natCast_nonneg _);omega
     have hcells:((Array.range (ci.toNat*se.size)).map ((if ci.toNat*se.size=0 then #[]else se.zero.cells)[· %(if ci.toNat*se.size=0 then #[]else se.zero.cells).size]!)).toList=(List.replicate ci.toNat se.zero.cells.toList).flatten:=by
      rw [←ju,h4]
      by_cases hz:ci.toNat*se.size=0
      ·simp [hz]
      ·rw [if_neg hz];simp [h4]
     obtain⟨A',k1,k2⟩:=jg H ((Array.range (ci.toNat*se.size)).map ((if ci.toNat*se.size=0 then #[]else se.zero.cells)[· %(if ci.toNat*se.size=0 then #[]else se.zero.cells).size]!)) e w.drawn;refine⟨.slice (some ⟨w.heap.size,0,none⟩) li.toNat ci.toNat,_,?_,_,_,ρ,hk _ A' _ hcells k1,rfl,trivial,k2,Ext.refl _ _,Nat.le_refl _,Mem.cH _ _⟩;simp only [Instr.makeSlice,Sem.run_bind,aq w hs,Result.andThen_ok,hd,SV.bm hl,SV.bm hc,asInt,asIntOf,Sem.run_pure,hi,hi2,wrap_i64 h0 (by omega),wrap_i64 (show 0≤ci by omega) h2]
     rw [if_neg (by
      simp only [Bool.or_eq_true,decide_eq_true_eq,not_or]
      refine⟨⟨⟨by omega,by simpa using hbytes⟩,by omega⟩,by omega⟩)]
     simp only [Sem.run_bind,run_askRoom,Result.andThen_ok,bp w hse]
     by_cases hz:ci.toNat*se.size=0
     ·simp only [hz,if_true,Sem.run_bind,Sem.run_pure,Result.andThen_ok,newRow,run_newObj]
     ·simp only [hz,if_false,Sem.run_bind,Sem.run_pure,Result.andThen_ok,cu w hse,newRow,run_newObj]
    |false=>
    rw [hop]at hk;simp only [cond_false]at hk
    cases hb:decide (0≤li)&&decide (li≤ci)&&decide (ci≤9223372036854775807)&&Nat.ble (se.bytes*ci.toNat) 281474976710656&&Nat.beq se.zero.cells.size se.size with
    |false=>rw [hb]at hk;exact absurd hk Bool.false_ne_true
    |true=>
     rw [hb]at hk;simp only [Bool.and_eq_true,decide_eq_true_eq]at hb;obtain⟨⟨⟨⟨h0,h1⟩,h2⟩,h3⟩,h4⟩:=hb;have h3:=Nat.le_of_ble_eq_true h3;have h4:=Nat.eq_of_beq_eq_true h4;obtain⟨i,hi,hi1,hi2,hi3⟩:=fB w hse
     have hbytes:¬((se.bytes:Int)*ci>2^48):=by
      have:((se.bytes*ci.toNat:Nat):Int)=(se.bytes:Int)*ci:=by
       rw [Int.natCast_mul,Int.toNat_of_nonneg (by omega)]
      have h5:(2^48:Int)=281474976710656:=by decide
      rw [h5];omega
     have hbytesl:¬((se.bytes:Int)*li>2^48):=by
      have:(se.bytes:Int)*li≤(se.bytes:Int)*ci:=Int.mul_le_mul_of_nonneg_left h1 (Int.natCast_nonneg _);omega
     have hcells:((Array.range (ci.toNat*se.size)).map ((if ci.toNat*se.size=0 then #[]else se.zero.cells)[· %(if ci.toNat*se.size=0 then #[]else se.zero.cells).size]!))=((cM (se.zero.cells.toList.map .v) ci.toNat).map (SV.den ρ)).toArray:=by
      apply Array.toList_inj.1;rw [jr,←ju,h4]
      by_cases hz:ci.toNat*se.size=0
      ·simp [hz]
      ·rw [if_neg hz];simp [h4]
     refine⟨.slice (some ⟨w.heap.size,0,none⟩) li.toNat ci.toNat, { w with heap:=w.heap.push (.cells ((cM (se.zero.cells.toList.map .v) ci.toNat).map (SV.den ρ)).toArray e) },?_,_,_,extend ρ h.nx ⟨w.heap.size,0,0⟩,hk,?_,⟨Nat.lt_succ_self _,trivial,?_⟩,
      la H (kf _ _) _ rfl e,aS _ _ _,Nat.le_succ _,Mem.le_refl _⟩
     ·simp only [Instr.makeSlice,Sem.run_bind,aq w hs,Result.andThen_ok,hd,SV.bm hl,SV.bm hc,asInt,asIntOf,Sem.run_pure,hi,hi2,wrap_i64 h0 (by omega),wrap_i64 (show 0≤ci by omega) h2]
      rw [if_neg (by
       simp only [Bool.or_eq_true,decide_eq_true_eq,not_or]
       refine⟨⟨⟨by omega,by simpa using hbytes⟩,by omega⟩,by omega⟩)]
      simp only [Sem.run_bind,run_askRoom,Result.andThen_ok,bp w hse]
      by_cases hz:ci.toNat*se.size=0
      ·simp only [hz,if_true]at hcells
       simp only [hz,if_true,Sem.run_bind,Sem.run_pure,Result.andThen_ok,newRow,run_newObj,hcells]
      ·simp only [hz,if_false]at hcells
       simp only [hz,if_false,Sem.run_bind,Sem.run_pure,Result.andThen_ok,cu w hse,newRow,run_newObj,hcells]
     ·simp [SV.den,bb,cJ.den]
     ·simp only [cJ.den];omega
   ·exact absurd hk Bool.false_ne_true
  ·exact absurd hk Bool.false_ne_true
 ·exact absurd hk Bool.false_ne_true
def jC(l:List UInt8):List SV:=l.map fun b=> .v (.int .u8 b.toNat)
def dR(h:HS)(size n:Nat)(x:SV):Option (List SV):=
 match x with
 | .slc b o _ _=>match h.H.get b with
   |some (.cells cs _ _)=>takeN (n*size) (cs.drop o)
   |_=>none
 | .v (.slice none _ _)=>bif Nat.beq n 0 then some []else none
 |x=>match x.str? with
  |some l=>bif Nat.beq size 1 then some (jC (l.take n))else none
  |none=>none
def rF(x:SV):Option Nat:=
 match x with
 | .slc _ _ l _=>some l
 | .v (.slice _ l _)=>some l
 |x=>x.str?.map List.length
theorem qC{P:Program}{x:SV}{n:Nat}(h:rF x=some n)(ρ:Nat→Loc)(w:World):(Builtin.lenOf (x.den ρ)).run P w= .ok n w:=by
 unfold rF at h
 split at h
 ·injection h with h;subst h;rfl
 ·injection h with h;subst h;rfl
 ·simp only [Option.map_eq_some_iff]at h
  obtain⟨l,hl,rfl⟩:=h;rw [SV.bF hl];have hsz:(⟨l.toArray⟩:ByteArray).size=l.length:=by show l.toArray.size=_;simp
  simp [Builtin.lenOf,hsz]
theorem jn{P:Program}{h:HS}{size n:Nat}{x:SV}{cs:List SV}(hx:dR h size n x=some cs){ρ:Nat→Loc}{w:World}(H:aL ρ h w):
  (Builtin.firstCells size n (x.den ρ)).run P w= .ok (cs.map (SV.den ρ)).toArray w∧cs.length=n*size∨(∃l,x.str? =some l∧cs=jC (l.take n)∧size=1∧
    (Builtin.firstCells size n (x.den ρ)).run P w= .ok (cs.map (SV.den ρ)).toArray w):=by
 unfold dR at hx
 split at hx
 ·rename_i b o l c
  left
  split at hx
  ·rename_i cs0 es hb
   obtain⟨_,h2,c',t',fz,h3,h4,h5,h7,h6⟩:=H.blk b _ hb;obtain⟨k1,k2⟩:=fw hx;refine⟨?_,k1⟩
   have:=dF (P:=P) (o:=(ρ b).off+o) h3 (cs.map (SV.den ρ)) 0 #[] (fun j v hj=>by
    rw [List.getElem?_map]at hj
    cases hy:cs[j]? with
    |none=>rw [hy]at hj;cases hj
    |some y=>
     rw [hy]at hj;injection hj with hj;subst hj
     have:=k2 j y hy;rw [List.getElem?_drop]at this;rw [Nat.zero_add,Nat.add_assoc]
     exact h4 (o+j) y this)
   rw [List.length_map,k1]at this;simp only [Builtin.firstCells,SV.den,loadCells];rw [this];simp
  ·cases hx
 ·rename_i l c
  left
  cases hn:Nat.beq n 0 with
  |false=>rw [hn]at hx;cases hx
  |true=>
   rw [hn]at hx;injection hx with hx;subst hx
   have:=Nat.eq_of_beq_eq_true hn;subst this;exact⟨rfl,by simp⟩
 ·right
  split at hx
  ·rename_i l hl
   cases h1:Nat.beq size 1 with
   |false=>rw [h1]at hx;cases hx
   |true=>
    rw [h1]at hx;injection hx with hx;subst hx
    refine⟨l,hl,rfl,Nat.eq_of_beq_eq_true h1,?_⟩;rw [SV.bF hl];simp only [Builtin.firstCells,jB,List.drop_zero,Nat.sub_zero,Sem.run_pure];congr 1;apply Array.toList_inj.1;simp [jC,SV.den,Function.comp_def]
  ·cases hx
theorem jX{h:HS}{size n:Nat}{x:SV}{cs:List SV}(hx:dR h size n x=some cs){ρ:Nat→Loc}{w:World}(H:aL ρ h w):∀y∈cs,y.lt ρ h.nx:=by
 unfold dR at hx
 split at hx
 ·split at hx
  ·rename_i cs0 es hb
   obtain⟨k1,k2⟩:=fw hx;intro y hy;obtain⟨j,hj⟩:=List.mem_iff_getElem?.1 hy;exact(H.blk _ _ hb).2.1 y (List.mem_of_mem_drop (List.mem_of_getElem? (k2 j y hj)))
  ·cases hx
 ·cases hn:Nat.beq n 0 with
  |false=>rw [hn]at hx;cases hx
  |true=>rw [hn]at hx;injection hx with hx;subst hx;simp
 ·split at hx
  ·cases h1:Nat.beq size 1 with
   |false=>rw [h1]at hx;cases hx
   |true=>
    rw [h1]at hx;injection hx with hx;subst hx
    intro y hy;obtain⟨b,_,rfl⟩:=List.mem_map.1 hy;trivial
  ·cases hx
theorem Bv(m:Nat):∀(r c:Nat),c<m→Builtin.growBy m r c≤m+(m+768)/4:=by
 intro r
 induction r with
 |zero=>intro c h;simp only [Builtin.growBy];omega
 |succ r ih=>
  intro c h;simp only [Builtin.growBy];rw [if_neg (by omega)]
  by_cases h2:c+(c+768)/4<m
  ·exact ih _ h2
  ·cases r with
   |zero=>simp only [Builtin.growBy];omega
   |succ r=>simp only [Builtin.growBy];rw [if_pos (by omega)];omega
theorem fF{m c:Nat}(h:c<m):Builtin.nextslicecap m c≤2*m+768:=by
 unfold Builtin.nextslicecap
 split
 ·omega
 ·split
  ·omega
  ·have:=Bv m 4 c h;omega
theorem D3{h:HS}{e:TypeId}{se:STy}{τ:Nat}(hτ:τ=0∨(τ=e+1∧se.size≠0))(hz:se.zero.cells.size=se.size){ρ:Nat→Loc}{w:World}(H:aL ρ h w){cs:List SV}(hlt:∀x∈cs,x.lt ρ h.nx)
  {need newCap:Nat} (hcs:cs.length=need*se.size) (hcap:need≤newCap):
  aL (extend ρ h.nx ⟨w.heap.size,0,newCap⟩) (h.new (.cells cs se.size τ)) { w with heap:=w.heap.push (.cells ((cs.map (SV.den ρ)).toArray++Builtin.zeroCells se.zero.cells (newCap-need)) e) } :=by
 refine H.alloc (o:= .cells ((cs.map (SV.den ρ)).toArray++Builtin.zeroCells se.zero.cells (newCap-need)) e) (B:= .cells cs se.size τ) (L:=⟨w.heap.size,0,newCap⟩) rfl hlt fun w' hw'=>⟨_,e,(0,0),hw',fun i x hi=> ?_,?_,.inr ?_,⟨.inl rfl,hτ.imp id fun h=>⟨h.1,rfl,fun h0=>absurd h0 h.2⟩⟩⟩
 ·have hlt':=(List.getElem?_eq_some_iff.1 hi).1
  rw [Nat.zero_add,Array.getElem?_append_left (by simpa using hlt')];simp [hi]
 ·simp only [Array.size_append,Builtin.zeroCells,Array.size_map,Array.size_range,List.size_toArray,List.length_map,hcs,hz]
  rw [←Nat.add_mul];have:need+(newCap-need)=newCap:=by omega
  rw [this];omega
 ·rw [hcs];exact Nat.mul_le_mul_right _ hcap
def tyG(s e:Nat):Nat:=bif Nat.beq s 0 then 0 else e+1
theorem pc(s e:Nat):tyG s e=0∨(tyG s e=e+1∧s≠0):=by
 unfold tyG
 cases hb:Nat.beq s 0 with
 |true=>exact .inl rfl
 |false=>exact .inr ⟨rfl,fun e=>by rw [e]at hb;cases hb⟩
def wX(τ o s e:Nat):Nat:=bif Nat.beq τ (e+1)&&Nat.beq o 0 then tyG s e else 0
theorem Cr(τ o s e:Nat):wX τ o s e=0∨(wX τ o s e=e+1∧s≠0):=by
 unfold wX
 cases Nat.beq τ (e+1)&&Nat.beq o 0 with
 |true=>exact pc s e
 |false=>exact .inl rfl
theorem Cs{τ o s e t off n len n' len':Nat}(h:Whole τ s off n len t):Whole (wX τ o s e) s (off+o) n' len' t:=by
 unfold wX
 cases hb:Nat.beq τ (e+1)&&Nat.beq o 0 with
 |false=>exact .inl rfl
 |true=>
  simp only [Bool.and_eq_true]at hb;have h1:=Nat.eq_of_beq_eq_true hb.1;have h2:=Nat.eq_of_beq_eq_true hb.2;rcases h with h|⟨h,h3,_⟩
  ·omega
  ·rcases pc s e with h4|⟨h4,h5⟩
   ·exact .inl h4
   ·right
    refine⟨?_,by omega,fun h0=>absurd h0 h5⟩;show tyG s e=t+1
    omega
def oN(h:HS)(τ:Nat)(se:STy)(cs:List SV)(need:Nat)(K:SV→HS→Bool):Bool:=
 bif Nat.beq se.zero.cells.size se.size&&Nat.beq cs.length (need*se.size)&&Nat.ble ((2*need+768)*se.bytes) 281474976710656 then
  K (.slc h.nx 0 need (.sub h.nx 0)) (h.new (.cells cs se.size τ))
 else false
def uy(P:Program)(h:HS)(ts:List TypeId)(s x:SV)(K:SV→HS→Bool):Bool:=
 match ts with
 | [st,xt]=>match ty P st,ty P xt with
   |some ss,some sx=>match ss.und,(match sx.und with| .int _=>true|_=>false)with
    | .slice e,false=>match ty P e,rF x with
      |some se,some n=>match dR h se.size n x with
       |none=>false
       |some nc=>bif !(Nat.beq nc.length (n*se.size))|| !(nc.all SV.one)then false else
        match s with
        | .v (.slice none 0 0)=>bif Nat.beq n 0 then K (.v (.slice none 0 0)) h else oN h (tyG se.size e) se nc n K
        | .slc b o l (.lit cap)=>
          bif Nat.ble (l+n) cap then
           (match h.H.get b with
           |some (.cells cs es τ)=>match fT cs (o+l*se.size) nc with
            |some cs'=>K (.slc b o (l+n) (.lit cap)) { h with H:=h.H.set b (.cells cs' es τ) }
            |none=>false
           |_=>false)
          else(match dR h se.size l s with
           |some old=>oN h (tyG se.size e) se (old++nc) (l+n) K
           |none=>false)
        | .slc b o l (.sub b' d)=>
          bif !(Nat.beq b b')|| !(Nat.beq o (d*se.size))||Nat.beq se.size 0 then false else
          bif Nat.beq n 0 then K (.slc b o l (.sub b' d)) h else
          match h.H.get b with
          |some (.cells cs es τ)=>
           bif !(Nat.beq es se.size)then false else
           bif Nat.ble ((d+l+n)*se.size) cs.length then
            (match fT cs (o+l*se.size) nc with
            |some cs'=>K (.slc b o (l+n) (.sub b' d)) { h with H:=h.H.set b (.cells cs' es τ) }
            |none=>false)
           else bif Nat.beq cs.length ((d+l)*se.size)then
            oN { h with H:=h.H.del b } (wX τ o se.size e) se (cs.drop o++nc) (l+n) K
           else false
          |_=>false
        |_=>false
      |_,_=>false
    |_,_=>false
   |_,_=>false
 |_=>false
end
end Go.Sx
namespace Go.Sx
noncomputable section
def nE:TypeDesc→Bool
 | .int _=>false
 |_=>true
section
variable {P:Program} {st xt u e:TypeId} {se sx:STy} {blk o sLen sCap n:Nat} {X:Value} {nc:Array Value} {w:World}
theorem ea{base:Option Addr}(hst:P.underlying st=some (.slice e))(hse:ty P e=some se)(hxt:ty P xt=some sx)(hni:nE sx.und=true)
  (hlen:(Builtin.lenOf X).run P w= .ok n w) (hfc:(Builtin.firstCells se.size n X).run P w= .ok nc w) (hle:sLen+n≤sCap) {w':World}
  (hs:((match base with|some a=>storeCells (a.add (sLen*se.size)) nc.toList|none=>pure ()):Sem Unit).run P w= .ok () w'):
  (Builtin.append_ #[st,xt] u #[.slice base sLen sCap,X]).run P w= .ok (.slice base (sLen+n) sCap) w':=by
 cases hd:sx.und<;>rw [hd]at hni<;>first
  |(cases hni;done)
  |(simp only [Builtin.append_,List.getElem?_toArray,List.getElem?_cons_zero,List.getElem?_cons_succ,Sem.run_bind,run_underlying hst,aq w hxt,bp w hse,Result.andThen_ok,Sem.run_pure,hd,Bool.false_eq_true,if_false,hlen,hle,if_true,Bool.not_false,hfc]
    cases base with
    |none=>simp only [Sem.run_pure]at hs;injection hs with _ hs;subst hs;rfl
    |some a=>simp only [Sem.run_bind,hs,Result.andThen_ok,Sem.run_pure])
theorem lI{base:Option Addr}(hst:P.underlying st=some (.slice e))(hse:ty P e=some se)(hxt:ty P xt=some sx)(hni:nE sx.und=true)
  (hlen:(Builtin.lenOf X).run P w= .ok n w) (hfc:∀d,(Builtin.firstCells se.size n X).run P { w with drawn:=d } = .ok nc { w with drawn:=d }) (hgt:sCap<sLen+n) {old:Array Value}
  (hold:∀d,(Builtin.firstCells se.size sLen (.slice base sLen sCap)).run P { w with drawn:=d } = .ok old { w with drawn:=d })
  (hneed:Builtin.nextslicecap (sLen+n) sCap*se.bytes≤281474976710656) (hbig:sLen+n≤9223372036854775807):
  ∃newCap,sLen+n≤newCap∧(Builtin.append_ #[st,xt] u #[.slice base sLen sCap,X]).run P w=
   .ok (.slice (some ⟨w.heap.size,0,none⟩) (sLen+n) newCap) { w with drawn:=w.drawn+1,heap:=w.heap.push (.cells (old++nc++Builtin.zeroCells se.zero.cells (newCap-(sLen+n))) e) } :=by
 obtain⟨i,hi,hi1,hi2,hi3⟩:=fB w hse;have hz:∀d,(zeroValue e).run P { w with drawn:=d } = .ok se.zero { w with drawn:=d } :=fun d=>cu _ hse
 have hti:∀d,∃i,(typeInfo e).run P { w with drawn:=d } = .ok i { w with drawn:=d } :=fun d=>let ⟨i,hi,_⟩:=fB { w with drawn:=d } hse;⟨i,hi⟩
 obtain⟨i2,hi2'⟩:=hti (w.drawn+1)
 have hnext:¬(Builtin.nextslicecap (sLen+n) sCap*i.bytes>2^48):=by
  rw [hi2];have:(2^48:Nat)=281474976710656:=by decide
  omega
 have hmax:¬(((sLen+n:Nat):Int)>IntKind.i64.max∧(False∨i.bytes=0)):=by
  rintro⟨h,_⟩
  have:IntKind.i64.max=9223372036854775807:=by decide
  omega
 have hcap:sLen+n≤(Question.appendCap (sLen+n) sCap e).cut (w.tape w.drawn (Question.appendCap (sLen+n) sCap e)):=by simp [Question.cut]
 refine⟨_,hcap,?_⟩
 cases hd:sx.und<;>rw [hd]at hni<;>first
  |(cases hni;done)
  |(simp only [Builtin.append_,List.getElem?_toArray,List.getElem?_cons_zero,List.getElem?_cons_succ,Sem.run_bind,run_underlying hst,aq w hxt,bp w hse,Result.andThen_ok,Sem.run_pure,hd,Bool.false_eq_true,if_false,hlen,show ¬(sLen+n≤sCap)by omega,hi,hnext,hmax,run_choose,Question.forced,hi2',run_askRoom,hold,Bool.not_false,if_true,hfc,hz,newRow,run_newObj]
    done)
theorem jG{base:Option Addr}(hst:P.underlying st=some (.slice e))(hse:ty P e=some se)(hxt:ty P xt=some sx)(hni:nE sx.und=true)
  (hlen:(Builtin.lenOf X).run P w= .ok n w) (hfc:∀d,(Builtin.firstCells se.size n X).run P { w with drawn:=d } = .ok nc { w with drawn:=d }) (hgt:sCap<sLen+n) {old:Array Value}
  (hold:∀d,(Builtin.firstCells se.size sLen (.slice base sLen sCap)).run P { w with drawn:=d } = .ok old { w with drawn:=d })
  (hneed:(2*(sLen+n)+768)*se.bytes≤281474976710656) (hbig:sLen+n≤9223372036854775807):
  ∃newCap,sLen+n≤newCap∧(Builtin.append_ #[st,xt] u #[.slice base sLen sCap,X]).run P w=
   .ok (.slice (some ⟨w.heap.size,0,none⟩) (sLen+n) newCap) { w with drawn:=w.drawn+1,heap:=w.heap.push (.cells (old++nc++Builtin.zeroCells se.zero.cells (newCap-(sLen+n))) e) } :=
 lI hst hse hxt hni hlen hfc hgt hold (by
  have h1:=fF hgt;have h2:=Nat.mul_le_mul_right se.bytes h1
  omega) hbig
end
theorem aL.move{ρ:Nat→Loc}{h:HS}{w w':World}(H:aL ρ h w){b:Nat}{B0 B:bD}{L:Loc}(hb:h.H.get b=some B0)(hB:B.lt ρ h.nx)(hL:L.blk=(ρ b).blk)(hR:B.Rel ρ L w')
  (S:Same (ρ b).blk w w'):aL (extend ρ h.nx L) (HS.new { h with H:=h.H.del b } B) w':=by
 refine⟨S.os.trans H.os,S.out.trans H.out,S.tape.trans H.tape,fun k o hk=> ?_,fun c C hc=> ?_,fun c c' C C' hc hc' he=> ?_,fun c C hc=> ?_,fun k o hk=> ?_,fun c C hc=> ?_,H.disj⟩
 ·have hk':h.M.blk k=some o:=hk
  rw [S.other k (fun e=>by subst e;rw [H.apart b B0 hb]at hk';cases hk')];exact H.mem k o hk
 ·rcases T.bW hc with⟨rfl,rfl⟩|⟨hne,hc⟩
  ·refine⟨Nat.lt_succ_self _,bD.eK (aS _ _ _) (Nat.le_succ _) hB,?_⟩
   rw [bb];exact hR.of (aS _ _ _) hB rfl
  ·obtain⟨hcb,hc⟩:=T.cR hc
   obtain⟨k1,k2,k3⟩:=H.blk c C hc;refine⟨Nat.lt_succ_of_lt k1,bD.eK (aS _ _ _) (Nat.le_succ _) k2,?_⟩;rw [aS ρ h.nx L c k1];exact k3.of (aS _ _ _) k2 (S.other _ fun e=>hcb (H.inj c b C B0 hc hb e))
 ·rcases T.bW hc with⟨rfl,rfl⟩|⟨hne,hc2⟩<;>rcases T.bW hc' with⟨rfl,rfl⟩|⟨hne',hc2'⟩
  ·rfl
  ·obtain⟨hcb,hc2'⟩:=T.cR hc2'
   rw [bb,aS ρ h.nx L c' (H.blk c' C' hc2').1,hL]at he;exact absurd (H.inj c' b C' B0 hc2' hb he.symm) hcb
  ·obtain⟨hcb,hc2⟩:=T.cR hc2
   rw [bb,aS ρ h.nx L c (H.blk c C hc2).1,hL]at he;exact absurd (H.inj c b C B0 hc2 hb he) hcb
  ·obtain⟨_,hc2⟩:=T.cR hc2
   obtain⟨_,hc2'⟩:=T.cR hc2';rw [aS ρ h.nx L c (H.blk c C hc2).1,aS ρ h.nx L c' (H.blk c' C' hc2').1]at he;exact H.inj c c' C C' hc2 hc2' he
 ·rcases T.bW hc with⟨rfl,rfl⟩|⟨hne,hc⟩
  ·rw [bb,hL];exact H.apart b B0 hb
  ·obtain⟨_,hc⟩:=T.cR hc
   rw [aS ρ h.nx L c (H.blk c C hc).1];exact H.apart c C hc
 ·have hk':h.M.A.blk k=some o:=hk
  rw [S.other k (fun e=>by subst e;rw [H.aprA b B0 hb]at hk';cases hk')];exact H.are k o hk
 ·rcases T.bW hc with⟨rfl,rfl⟩|⟨hne,hc⟩
  ·rw [bb,hL];exact H.aprA b B0 hb
  ·obtain⟨_,hc⟩:=T.cR hc
   rw [aS ρ h.nx L c (H.blk c C hc).1];exact H.aprA c C hc
theorem dq{h:HS}{size n:Nat}{x:SV}{cs:List SV}{P:Program}(hx:dR h size n x=some cs){ρ:Nat→Loc}{w:World}(H:aL ρ h w)(d:Nat):
  (Builtin.firstCells size n (x.den ρ)).run P { w with drawn:=d } = .ok (cs.map (SV.den ρ)).toArray { w with drawn:=d } :=by
 rcases jn (P:=P) hx (H.drawn d)with⟨h,_⟩|⟨_,_,_,_,h⟩<;>exact h
theorem nP{h h0:HS}{e:TypeId}{τ:Nat}{se:STy}(hτ:τ=0∨(τ=e+1∧se.size≠0)){cs:List SV}{need:Nat}{K:SV→HS→Bool}(hk:oN h τ se cs need K){ρ:Nat→Loc}{w:World}(H:aL ρ h w)(hlt:∀x∈cs,x.lt ρ h.nx)
  (h01:h0.nx=h.nx) (h02:h0.M=h.M) {newCap:Nat} (hcap:need≤newCap) {c:Array Value} (hc:c=(cs.map (SV.den ρ)).toArray) (d:Nat):
  cT ρ h0 K (.slice (some ⟨w.heap.size,0,none⟩) need newCap) { w with drawn:=d,heap:=w.heap.push (.cells (c++Builtin.zeroCells se.zero.cells (newCap-need)) e) } ∧cs.length=need*se.size∧(2*need+768)*se.bytes≤281474976710656:=by
 unfold oN at hk
 cases hb:Nat.beq se.zero.cells.size se.size&&Nat.beq cs.length (need*se.size)&&Nat.ble ((2*need+768)*se.bytes) 281474976710656 with
 |false=>rw [hb]at hk;exact absurd hk Bool.false_ne_true
 |true=>
  rw [hb]at hk;simp only [Bool.and_eq_true]at hb;obtain⟨⟨h1,h2⟩,h3⟩:=hb;have h1:=Nat.eq_of_beq_eq_true h1;have h2:=Nat.eq_of_beq_eq_true h2;have h3:=Nat.le_of_ble_eq_true h3;subst hc;have G:=D3 (e:=e) hτ h1 (H.drawn d) hlt h2 hcap;refine⟨⟨_,_,_,hk,?_,⟨Nat.lt_succ_self _,Nat.lt_succ_self _,?_⟩,G,?_,?_,?_⟩,h2,h3⟩
  ·simp [SV.den,cJ.den,bb]
  ·simp only [cJ.den,bb];omega
  ·rw [h01];exact aS _ _ _
  ·rw [h01];exact Nat.le_succ _
  ·rw [h02];exact Mem.le_refl _
theorem kE{h:HS}{τ:Nat}{se:STy}{cs:List SV}{need:Nat}{K:SV→HS→Bool}(hk:oN h τ se cs need K):se.zero.cells.size=se.size∧cs.length=need*se.size∧(2*need+768)*se.bytes≤281474976710656:=by
 unfold oN at hk
 cases hb:Nat.beq se.zero.cells.size se.size&&Nat.beq cs.length (need*se.size)&&Nat.ble ((2*need+768)*se.bytes) 281474976710656 with
 |false=>rw [hb]at hk;exact absurd hk Bool.false_ne_true
 |true=>
  simp only [Bool.and_eq_true]at hb;exact⟨Nat.eq_of_beq_eq_true hb.1.1,Nat.eq_of_beq_eq_true hb.1.2,Nat.le_of_ble_eq_true hb.2⟩
theorem AT{d:TypeDesc}(h:(match d with| .int _=>true|_=>false)=false):nE d=true:=by
 cases d<;>first|rfl|(cases h;done)
theorem wM{P:Program}{h:HS}{ts:List TypeId}{s x:SV}{K:SV→HS→Bool}(hk:uy P h ts s x K)(hbig:∀l n,rF s=some l→rF x=some n→l+n≤9223372036854775807){ρ:Nat→Loc}{w:World}(H:aL ρ h w)(hs:s.lt ρ h.nx)(u:TypeId):
  ∃v w',(Builtin.append_ ts.toArray u #[s.den ρ,x.den ρ]).run P w= .ok v w'∧cT ρ h K v w':=by
 unfold uy at hk
 split at hk
 ·rename_i st xt
  split at hk
  ·rename_i ss sx hss hsx
   split at hk
   ·rename_i e hd hni
    split at hk
    ·rename_i se n hse hn
     split at hk
     ·exact absurd hk Bool.false_ne_true
     ·rename_i nc hnc
      have hst:P.underlying st=some (.slice e):=by rw [(bK hss).und,hd]
      have hni:=AT hni
      cases hlen: !(Nat.beq nc.length (n*se.size))|| !(nc.all SV.one)with
      |true=>rw [hlen]at hk;exact absurd hk Bool.false_ne_true
      |false=>
       rw [hlen]at hk;simp only [Bool.or_eq_false_iff,Bool.not_eq_false']at hlen;have hncl:=Nat.eq_of_beq_eq_true hlen.1;have hone:=List.all_eq_true.1 hlen.2;have hnclt:=jX hnc H;simp only [cond_false]at hk
       have hfc:(Builtin.firstCells se.size n (x.den ρ)).run P w= .ok (nc.map (SV.den ρ)).toArray w:=by
        rcases jn (P:=P) hnc H with⟨h,_⟩|⟨_,_,_,_,h⟩<;>exact h
       have hlx:=qC (P:=P) hn ρ w
       split at hk
       ·
        cases h0:Nat.beq n 0 with
        |true=>
         rw [h0]at hk;have:=Nat.eq_of_beq_eq_true h0;subst this;have hf:=ea (u:=u) (base:=none) (sLen:=0) (sCap:=0) (w':=w) hst hse hsx hni hlx hfc (by omega) rfl;exact⟨_,w,hf,_,_,ρ,hk,rfl,trivial,H,Ext.refl _ _,Nat.le_refl _,Mem.le_refl _⟩
        |false=>
         rw [h0]at hk;simp only [cond_false]at hk;have hpos:0<n:=Nat.pos_of_ne_zero fun e=>by rw [e]at h0;cases h0
         obtain⟨f1,f2,f3⟩:=kE hk
         obtain⟨newCap,g1,g2⟩:=jG (u:=u) (base:=none) (sLen:=0) (sCap:=0) (n:=n) (old:= #[]) hst hse hsx hni hlx (dq hnc H) (by omega) (fun d=>rfl) (by simpa using f3) (by
          have:=hbig 0 n rfl hn;omega)
         simp only [Nat.zero_add]at g1 g2;obtain⟨p,_⟩:=nP (h0:=h) (e:=e) (pc _ _) hk H hnclt rfl rfl g1 (c:= #[]++(nc.map (SV.den ρ)).toArray) (by simp) (w.drawn+1);exact⟨_,_,g2,p⟩
       ·
        rename_i b o l cap
        cases hfit:Nat.ble (l+n) cap with
        |true=>
         rw [hfit]at hk;simp only [cond_true]at hk;have hle:=Nat.le_of_ble_eq_true hfit
         split at hk
         ·rename_i cs es τ hb
          split at hk
          ·rename_i cs' hov
           unfold fT at hov
           cases hble:Nat.ble (o+l*se.size+nc.length) cs.length with
           |false=>rw [hble]at hov;cases hov
           |true=>
            rw [hble]at hov;injection hov with hov;subst hov
            obtain⟨w',k1,k2⟩:=ik (P:=P) H hb (Nat.le_of_ble_eq_true hble) hone hnclt
            have hf:=ea (u:=u) (base:=some ⟨(ρ b).blk,(ρ b).off+o,none⟩) (sLen:=l) (sCap:=cap) (w':=w') hst hse hsx hni hlx hfc hle (by
             simp only [cE,Nat.add_assoc];simpa using k1)
            exact⟨_,w',hf,_,_,ρ,hk,rfl,⟨hs.1,trivial,hle⟩,k2,Ext.refl _ _,Nat.le_refl _,Mem.le_refl _⟩
          ·exact absurd hk Bool.false_ne_true
         ·exact absurd hk Bool.false_ne_true
        |false=>
         rw [hfit]at hk;simp only [cond_false]at hk
         have hgt:cap<l+n:=by
          rcases Nat.lt_or_ge cap (l+n)with h|h
          ·exact h
          ·rw [Nat.ble_eq.mpr h]at hfit;cases hfit
         split at hk
         ·rename_i old hold
          obtain⟨f1,f2,f3⟩:=kE hk
          obtain⟨newCap,g1,g2⟩:=jG (u:=u) (base:=some ⟨(ρ b).blk,(ρ b).off+o,none⟩) (sLen:=l) (sCap:=cap) (n:=n) hst hse hsx hni hlx (dq hnc H) hgt
           (dq hold H) f3 (hbig l n rfl hn)
          obtain⟨p,_⟩:=nP (h0:=h) (e:=e) (pc _ _) hk H (fun y hy=>by
           rcases List.mem_append.1 hy with hy|hy
           ·exact jX hold H y hy
           ·exact hnclt y hy) rfl rfl g1 (c:=(old.map (SV.den ρ)).toArray++(nc.map (SV.den ρ)).toArray) (by simp) (w.drawn+1)
          exact⟨_,_,g2,p⟩
         ·exact absurd hk Bool.false_ne_true
       ·
        rename_i b o l b' d
        cases hbb: !(Nat.beq b b')|| !(Nat.beq o (d*se.size))||Nat.beq se.size 0 with
        |true=>rw [hbb]at hk;exact absurd hk Bool.false_ne_true
        |false=>
         rw [hbb]at hk;simp only [Bool.or_eq_false_iff,Bool.not_eq_false']at hbb;obtain⟨⟨hb1,ho⟩,hz⟩:=hbb;have hb1:=Nat.eq_of_beq_eq_true hb1;have ho:=Nat.eq_of_beq_eq_true ho;have hz:se.size≠0:=fun e=>by rw [e]at hz;cases hz
         subst hb1;simp only [cond_false]at hk;have hlc:l≤(ρ b).cap-d:=hs.2.2
         cases h0:Nat.beq n 0 with
         |true=>
          rw [h0]at hk;have:=Nat.eq_of_beq_eq_true h0;subst this;have hncn:nc= []:=List.length_eq_zero_iff.1 (by rw [hncl];simp);subst hncn;have hf:=ea (u:=u) (base:=some ⟨(ρ b).blk,(ρ b).off+o,none⟩) (sLen:=l) (sCap:=(ρ b).cap-d) (w':=w) hst hse hsx hni hlx hfc (by omega) rfl;exact⟨_,w,hf,_,_,ρ,hk,rfl,hs,H,Ext.refl _ _,Nat.le_refl _,Mem.le_refl _⟩
         |false=>
          rw [h0]at hk;simp only [cond_false]at hk
          split at hk
          ·rename_i cs es τ hb
           cases hes: !(Nat.beq es se.size)with
           |true=>rw [hes]at hk;exact absurd hk Bool.false_ne_true
           |false=>
            rw [hes]at hk;simp only [Bool.not_eq_false']at hes;have hes:=Nat.eq_of_beq_eq_true hes;subst hes;simp only [cond_false]at hk;obtain⟨_,h2,c,t',fz,h3,h4,h5,h7,h6⟩:=H.blk b _ hb;have h7:=h7.resolve_left hz
            cases hin:Nat.ble ((d+l+n)*se.size) cs.length with
            |true=>
             rw [hin]at hk;simp only [cond_true]at hk;have hin:=Nat.le_of_ble_eq_true hin;have hle:d+l+n≤(ρ b).cap:=Nat.le_of_mul_le_mul_right (Nat.le_trans hin h7) (Nat.pos_of_ne_zero hz)
             split at hk
             ·rename_i cs' hov
              unfold fT at hov
              cases hble:Nat.ble (o+l*se.size+nc.length) cs.length with
              |false=>rw [hble]at hov;cases hov
              |true=>
               rw [hble]at hov;injection hov with hov;subst hov
               obtain⟨w',k1,k2⟩:=ik (P:=P) H hb (Nat.le_of_ble_eq_true hble) hone hnclt
               have hf:=ea (u:=u) (base:=some ⟨(ρ b).blk,(ρ b).off+o,none⟩) (sLen:=l) (sCap:=(ρ b).cap-d) (w':=w') hst hse hsx hni hlx hfc (by omega) (by
                simp only [cE,Nat.add_assoc];simpa using k1)
               exact⟨_,w',hf,_,_,ρ,hk,rfl,⟨hs.1,hs.2.1,by simp only [cJ.den];omega⟩,k2,Ext.refl _ _,Nat.le_refl _,Mem.le_refl _⟩
             ·exact absurd hk Bool.false_ne_true
            |false=>
             rw [hin]at hk;simp only [cond_false]at hk
             cases hend:Nat.beq cs.length ((d+l)*se.size)with
             |false=>rw [hend]at hk;exact absurd hk Bool.false_ne_true
             |true=>
              rw [hend]at hk;simp only [cond_true]at hk;have hend:=Nat.eq_of_beq_eq_true hend;obtain⟨f1,f2,f3⟩:=kE hk
              have hdl:(cs.drop o).length=l*se.size:=by
               rw [List.length_drop,hend,ho,Nat.add_mul];omega
              have hold:dR h se.size l (.slc b o l (.sub b d))=some (cs.drop o):=by
               simp only [dR,hb]
               have:∀(m:Nat) (l:List SV),l.length=m→takeN m l=some l:=by
                intro m
                induction m with
                |zero=>intro l hl;rw [List.length_eq_zero_iff.1 hl];rfl
                |succ m ih=>
                 intro l hl
                 cases l with
                 |nil=>simp at hl
                 |cons y ys=>simp only [takeN,ih ys (by simpa using hl)]
               exact this _ _ hdl
              have hmem:∀y∈cs.drop o++nc,y.lt ρ h.nx:=fun y hy=>by
               rcases List.mem_append.1 hy with hy|hy
               ·exact h2 y (List.mem_of_mem_drop hy)
               ·exact hnclt y hy
              have hpos:0<n:=Nat.pos_of_ne_zero fun e=>by rw [e]at h0;cases h0
              by_cases hfit:l+n≤(ρ b).cap-d
              ·
               have hroom:(ρ b).off+o+l*se.size+nc.length≤c.size:=by
                have h8:(d+l+n)*se.size≤(ρ b).cap*se.size:=Nat.mul_le_mul_right _ (by omega);have h9:(d+l+n)*se.size=d*se.size+l*se.size+n*se.size:=by rw [Nat.add_mul,Nat.add_mul]
                rw [hncl,ho];omega
               obtain⟨w',c',k1,k2,k3,k4⟩:=gJ (P:=P) (o:=(ρ b).off+(o+l*se.size)) (nc.map (SV.den ρ)) 0 w c h3 (by simp;omega) h6.1.not (fun v hv=>by
                obtain⟨y,hy,rfl⟩:=List.mem_map.1 hv;exact SV.one_den (hone y hy))
               have hf:=ea (u:=u) (base:=some ⟨(ρ b).blk,(ρ b).off+o,none⟩) (sLen:=l) (sCap:=(ρ b).cap-d) (w':=w') hst hse hsx hni hlx hfc hfit (by
                simp only [cE,Nat.add_assoc];simpa using k1)
               have hsz':c'.size=c.size:=by
                rw [←Array.length_toList,k3];simp;omega
               have hzb:(Nat.beq se.zero.cells.size se.size&&Nat.beq (cs.drop o++nc).length ((l+n)*se.size)&&Nat.ble ((2*(l+n)+768)*se.bytes) 281474976710656)=true:=by
                simp only [Bool.and_eq_true];exact⟨⟨Nat.beq_eq.mpr f1,Nat.beq_eq.mpr f2⟩,Nat.ble_eq.mpr f3⟩
               unfold oN at hk;rw [hzb]at hk;have M:=H.move (L:=⟨(ρ b).blk,(ρ b).off+o,(ρ b).cap-d⟩) (B:= .cells (cs.drop o++nc) se.size (wX τ o se.size e)) hb hmem rfl ⟨c',t',fz,k2,fun i y hi=> ?_,?_,.inr ?_,?_⟩ k4
               ·refine⟨_,w',hf,_,_,_,hk,?_,⟨Nat.lt_succ_self _,Nat.lt_succ_self _,?_⟩,M,aS _ _ _,Nat.le_succ _,Mem.le_refl _⟩
                ·simp [SV.den,cJ.den,bb]
                ·simp only [cJ.den,bb];omega
               ·rw [←Array.getElem?_toList,k3]
                simp only [Nat.add_zero,List.length_map];have hcl:c.toList.length=c.size:=Array.length_toList
                by_cases hi1:i<l*se.size
                ·rw [List.getElem?_append_left (by rw [hdl];exact hi1),List.getElem?_drop]at hi
                 rw [List.append_assoc,List.getElem?_append_left (by simp;omega),List.getElem?_take_of_lt (by omega),Array.getElem?_toList,Nat.add_assoc];exact h4 (o+i) y hi
                ·rw [List.getElem?_append_right (by rw [hdl];omega),hdl]at hi
                 have hi2:=(List.getElem?_eq_some_iff.1 hi).1;rw [List.append_assoc,List.getElem?_append_right (by simp;omega),List.getElem?_append_left (by simp;omega),List.getElem?_map];have:(ρ b).off+o+i-(List.take ((ρ b).off+(o+l*se.size)) c.toList).length=i-l*se.size:=by simp;omega
                 rw [this,hi];rfl
               ·show(ρ b).off+o+((ρ b).cap-d)*se.size≤c'.size
                rw [hsz',ho];have:d*se.size+((ρ b).cap-d)*se.size=(ρ b).cap*se.size:=by rw [←Nat.add_mul];congr 1;omega
                omega
               ·show(cs.drop o++nc).length≤((ρ b).cap-d)*se.size
                rw [f2];exact Nat.mul_le_mul_right _ hfit
               ·rw [hsz'];exact⟨h6.1,Cs h6.2⟩
              ·obtain⟨newCap,g1,g2⟩:=jG (u:=u) (base:=some ⟨(ρ b).blk,(ρ b).off+o,none⟩) (sLen:=l) (sCap:=(ρ b).cap-d) (n:=n) hst hse hsx hni hlx (dq hnc H) (by omega)
                 (dq hold H) f3 (hbig l n rfl hn)
               obtain⟨p,_⟩:=nP (h0:=h) (e:=e) (Cr _ _ _ _) hk (H.drop b) hmem rfl rfl g1 (c:=((cs.drop o).map (SV.den ρ)).toArray++(nc.map (SV.den ρ)).toArray) (by simp) (w.drawn+1);exact⟨_,_,g2,p⟩
          ·exact absurd hk Bool.false_ne_true
       ·exact absurd hk Bool.false_ne_true
    ·exact absurd hk Bool.false_ne_true
   ·exact absurd hk Bool.false_ne_true
  ·exact absurd hk Bool.false_ne_true
 ·exact absurd hk Bool.false_ne_true
def slcA(s:SV):Option (Option (Nat×Nat)×Nat×Nat):=match s with
 | .v (.slice none l c)=>some (none,l,c)
 | .v (.slice (some ⟨g,o,none⟩) l c)=>some (some (g,o),l,c)
 |_=>none
def cq:Option (Nat×Nat)→Option Addr
 |none=>none
 |some (g,o)=>some ⟨g,o,none⟩
theorem CC{s:SV}{base:Option (Nat×Nat)}{l c:Nat}(h:slcA s=some (base,l,c))(ρ:Nat→Loc):s.den ρ= .slice (cq base) l c:=by
 unfold slcA at h
 split at h
 ·injection h with h;injection h with h1 h;injection h with h2 h3;subst h1;subst h2;subst h3;rfl
 ·injection h with h;injection h with h1 h;injection h with h2 h3;subst h1;subst h2;subst h3;rfl
 ·cases h
def jF(A:aa):Option (Nat×Nat)→Nat→Option (List Value)
 |none,n=>if n=0 then some []else none
 |some (g,o),n=>if n=0 then some []else A.rd g o n
def xi(h:HS)(size n:Nat)(x:SV):Option (List Value):=match x with
 | .v (.slice (some ⟨g,o,none⟩) _ _)=>if n=0 then some []else h.M.A.rd g o (n*size)
 | .v (.slice none _ _)=>if n=0 then some []else none
 | .v (.slice (some _) _ _)=>if n=0 then some []else none
 | .slc b o l c=>match dR h size n (.slc b o l c)with
   |some cs=>iC cs
   |none=>none
 |x=>match x.str? with
  |some l=>if size=1∧n=l.length then some (l.map fun b=> .int .u8 b.toNat)else none
  |none=>none
theorem xy{P:Program}{ρ:Nat→Loc}{h:HS}{w:World}(H:aL ρ h w){g o n:Nat}{vs:List Value}(hr:h.M.A.rd g o n=some vs):(loadCellsFrom ⟨g,o,none⟩ 0 n #[]).run P w= .ok vs.toArray w:=by
 have hlen:=tw hr;obtain⟨c,t,fz,hb,hle,hvs⟩:=rd_some hr
 have:=dF (P:=P) (o:=o) (H.are g _ hb) vs 0 #[] (fun j v hj=>by
  rw [hvs]at hj
  have hj':j<n:=by
   have:=(List.getElem?_eq_some_iff.1 hj).1;simp at this;omega
  rw [List.getElem?_take_of_lt hj',List.getElem?_drop,Array.getElem?_toList]at hj
  rw [Nat.zero_add];exact hj)
 rw [hlen]at this;rw [this];simp
theorem pS{P:Program}{h:HS}{size n:Nat}{x:SV}{ys:List Value}(hx:xi h size n x=some ys){ρ:Nat→Loc}{w:World}(H:aL ρ h w)(d:Nat):
  (Builtin.firstCells size n (x.den ρ)).run P { w with drawn:=d } = .ok ys.toArray { w with drawn:=d } :=by
 unfold xi at hx
 split at hx
 ·simp only [Builtin.firstCells,SV.den,loadCells]
  split at hx
  ·rename_i h0
   injection hx with hx;subst hx;subst h0
   simp [loadCellsFrom]
  ·exact xy (H.drawn d) hx
 ·split at hx
  ·rename_i h0
   injection hx with hx;subst hx;subst h0;rfl
  ·cases hx
 ·split at hx
  ·rename_i h0
   injection hx with hx;subst hx;subst h0
   simp [Builtin.firstCells,SV.den,loadCells,loadCellsFrom]
  ·cases hx
 ·split at hx
  ·rename_i cs hcs
   rw [dq hcs H d,dW ρ cs ys hx]
  ·cases hx
 ·split at hx
  ·rename_i l hl
   split at hx
   ·rename_i hc
    injection hx with hx
    subst hx;rw [SV.bF hl];simp only [Builtin.firstCells,jB,List.drop_zero,Nat.sub_zero,Sem.run_pure];congr 1;apply Array.toList_inj.1;rw [hc.2];simp
   ·cases hx
  ·cases hx
def jk(A:aa)(base:Option (Nat×Nat))(l c es:Nat)(e:TypeId)(xs ys:List Value)(n:Nat)(v:Value)(A':aa):Prop:=
 (l+n≤c∧v= .slice (cq base) (l+n) c∧((ys= []∧A'=A)∨∃g o,base=some (g,o)∧A.Put A' g (o+l*es) ys))∨
 (c<l+n∧∃(g nc:Nat) (cs:Array Value) (zs:List Value),v= .slice (some ⟨g,0,none⟩) (l+n) nc∧l+n≤nc∧cs.toList=xs++ys++zs∧zs.length=(nc-(l+n))*es∧A.New A' g cs e)
def uz(P:Program)(h:HS)(ts:List TypeId)(s x:SV)(K:SV→HS→Bool):Bool:=match ts with
 | [st,xt]=>match ty P st,ty P xt with
   |some ss,some sx=>match ss.und with
    | .slice e=>bif nE sx.und then(match ty P e with
      |some se=>match slcA s,rF x with
       |some (base,l,c),some n=>h.M.D (∃xs ys:List Value,jF h.M.A base (l*se.size)=some xs∧xi h se.size n x=some ys∧ys.length=n*se.size∧(∀v∈ys,v.oneCell'=true)∧l+n≤9223372036854775807∧
         (c<l+n→Builtin.nextslicecap (l+n) c*se.bytes≤281474976710656)∧se.zero.cells.size=se.size∧(base=none→l=0∧c=0)∧(∀g o,base=some (g,o)→l+n≤c→ys≠ []→h.M.A.Room g (o+l*se.size) ys.length)∧
         ∀v A',jk h.M.A base l c se.size e xs ys n v A'→K (.v v) (h.put A')=true)
       |_,_=>false
      |none=>false)else false
    |_=>false
   |_,_=>false
 |_=>false
theorem ng(z:Array Value)(n:Nat):(Builtin.zeroCells z n).toList.length=n*z.size:=by
 simp [Builtin.zeroCells]
theorem wN{P:Program}{h:HS}{ts:List TypeId}{s x:SV}{K:SV→HS→Bool}(hk:uz P h ts s x K){ρ:Nat→Loc}{w:World}(H:aL ρ h w)(u:TypeId):
  ∃v w',(Builtin.append_ ts.toArray u #[s.den ρ,x.den ρ]).run P w= .ok v w'∧cT ρ h K v w':=by
 unfold uz at hk
 split at hk
 ·rename_i st xt
  split at hk
  ·rename_i ss sx hss hsx
   split at hk
   ·rename_i e hd
    cases hni:nE sx.und with
    |false=>rw [hni]at hk;exact absurd hk Bool.false_ne_true
    |true=>
     rw [hni]at hk;simp only [cond_true]at hk
     split at hk
     ·rename_i se hse
      split at hk
      ·rename_i base l c n hs hn
       obtain⟨xs,ys,hxs,hys,hyl,hone,hbig,hneed,hz,hnil,hroom,hk⟩:=(h.M.X.hD _).1 hk;have hst:P.underlying st=some (.slice e):=by rw [(bK hss).und,hd]
       have hlx:=qC (P:=P) hn ρ w;rw [CC hs ρ];have hfc:(Builtin.firstCells se.size n (x.den ρ)).run P w= .ok ys.toArray w:=pS (P:=P) hys H w.drawn
       by_cases hfit:l+n≤c
       ·by_cases hnone:ys= []
        ·subst hnone
         have hf:=ea (u:=u) (base:=cq base) (sLen:=l) (sCap:=c) (w':=w) hst hse hsx hni hlx hfc hfit (by cases cq base<;>rfl);exact⟨_,w,hf,_,_,ρ,hk _ h.M.A (.inl ⟨hfit,rfl,.inl ⟨rfl,rfl⟩⟩),rfl,trivial,H.sS rfl rfl rfl (fun _ _ _=>rfl) H.are (fun k o hk=> .inl ⟨o,hk⟩),Ext.refl _ _,Nat.le_refl _,Mem.cH _ _⟩
        ·cases base with
         |none=>
          exfalso;obtain⟨h0,h1⟩:=hnil rfl;have hn0:n=0:=by omega
          subst hn0;have hl0:ys.length=0:=by rw [hyl];simp
          exact hnone (List.length_eq_zero_iff.1 hl0)
         |some go=>
          obtain⟨g,o⟩:=go;obtain⟨w',A',k1,k2,k3⟩:=oe (P:=P) H (hroom g o rfl hfit hnone) hone
          have hf:=ea (u:=u) (base:=some ⟨g,o,none⟩) (sLen:=l) (sCap:=c) (w':=w') hst hse hsx hni hlx hfc hfit (by
           simp only [cE];exact k1)
          exact⟨_,w',hf,_,_,ρ,hk _ A' (.inl ⟨hfit,rfl,.inr ⟨g,o,rfl,k2⟩⟩),rfl,trivial,k3,Ext.refl _ _,Nat.le_refl _,Mem.cH _ _⟩
       ·have hold:∀d,(Builtin.firstCells se.size l (.slice (cq base) l c)).run P { w with drawn:=d } = .ok xs.toArray { w with drawn:=d } :=fun d=>by
          cases base with
          |none=>
           obtain⟨h0,_⟩:=hnil rfl;subst h0;simp only [jF,Nat.zero_mul,if_true,Option.some.injEq]at hxs;subst hxs;rfl
          |some go=>
           obtain⟨g,o⟩:=go;simp only [Builtin.firstCells,cq,loadCells];simp only [jF]at hxs
           split at hxs
           ·rename_i h0
            injection hxs with hxs;subst hxs
            rw [h0];simp [loadCellsFrom]
           ·exact xy (H.drawn d) hxs
        obtain⟨nc,g1,g2⟩:=lI (u:=u) (base:=cq base) (sLen:=l) (sCap:=c) (n:=n) (nc:=ys.toArray) (old:=xs.toArray) hst hse hsx hni hlx (pS hys H) (by omega) hold (hneed (by omega)) hbig;obtain⟨A',k1,k2⟩:=jg H (xs.toArray++ys.toArray++Builtin.zeroCells se.zero.cells (nc-(l+n))) e (w.drawn+1);exact⟨_,_,g2,_,_,ρ,hk _ A' (.inr ⟨by omega,_,nc,_,(Builtin.zeroCells se.zero.cells (nc-(l+n))).toList,rfl,g1,by simp,by rw [ng,hz],k1⟩),rfl,trivial,k2,Ext.refl _ _,Nat.le_refl _,Mem.cH _ _⟩
      ·exact absurd hk Bool.false_ne_true
     ·exact absurd hk Bool.false_ne_true
   ·exact absurd hk Bool.false_ne_true
  ·exact absurd hk Bool.false_ne_true
 ·exact absurd hk Bool.false_ne_true
end
end Go.Sx
