/-
  Parts of the proof: SxMa SxMb SxJ
-/
import Derived.Test.YtmmlhdiejkknnaaGreatDoorG02
set_option maxRecDepth 100000
set_option maxHeartbeats 0
namespace Go.Sx
noncomputable section
def plainKey:TypeDesc→Bool
 | .int _| .string| .bool=>true
 |_=>false
theorem dD{P:Program}{t:TypeId}{s:STy}(hs:ty P t=some s)(hp:plainKey s.und=true)(b:Bool)(n:Nat)(v:Value)(w:World):(Instr.checkKey b (n+1) t v).run P w= .ok () w:=by
 have hu:=aq w hs
 cases hd:s.und<;>rw [hd]at hp<;>first
  |(cases hp;done)
  |(simp only [Instr.checkKey,Sem.run_bind,hu,hd,Result.andThen_ok];rfl)
theorem map_eraseIdx{α β:Type}(f:α→β):∀(l:List α) (i:Nat),(l.eraseIdx i).map f=(l.map f).eraseIdx i
 | [],_=>rfl
 |_::_,0=>rfl
 |x::l,i+1=>by simp [map_eraseIdx f l i]
def yh(d:TypeDesc)(k:SV):Option Value:=match d with
 | .int _=>(match k.int? with
   |some (kd,a)=>some (.int kd a)
   |none=>none)
 | .string=>(match k.str? with
   |some l=>some (.string ⟨l.toArray⟩)
   |none=>none)
 | .bool=>(match k with
   | .v (.bool b)=>some (.bool b)
   |_=>none)
 |_=>none
def dM:TypeDesc→Value→Bool
 | .int _,.int _ _=>true
 | .string,.string _=>true
 | .bool,.bool _=>true
 |_,_=>false
theorem qD{d:TypeDesc}{k:SV}{kv:Value}(h:yh d k=some kv)(ρ:Nat→Loc):k.den ρ=kv∧dM d kv=true:=by
 unfold yh at h
 split at h
 ·split at h
  ·rename_i kd a hk
   injection h with h;subst h
   exact⟨SV.bm hk,rfl⟩
  ·cases h
 ·split at h
  ·rename_i l hl
   injection h with h;subst h
   exact⟨SV.bF hl,rfl⟩
  ·cases h
 ·split at h
  ·injection h with h;subst h;exact⟨rfl,rfl⟩
  ·cases h
 ·cases h
theorem ei{d:TypeDesc}{kv:Value}(h:dM d kv=true):plainKey d=true:=by
 unfold dM at h
 split at h<;>first|rfl|cases h
theorem bytes_beq{a b:ByteArray}(h:(a==b)=true):a=b:=by
 rw [beq_toListBytes,ByteArray.toList_eq,ByteArray.toList_eq]at h;exact ByteArray.ext (Array.toList_inj.1 (eq_of_beq h))
theorem DW{k x:Value}{d:TypeDesc}(hf:dM d k=true)(ha:cI k x=true)(h:ft k x=true):x=k:=by
 unfold cI at ha
 split at ha
 ·simp only [ft]at h
  rw [bytes_beq h]
 ·simp only [ft]at h
  rw [eq_of_beq h,of_decide_eq_true ha]
 ·simp only [ft]at h
  rw [eq_of_beq h]
 ·cases d<;>cases hf
 ·cases ha
theorem ry{d:TypeDesc}{k x:Value}(hf:dM d k=true)(ha:cI k x=true):Instr.sameNow d k x=some (ft k x):=by
 unfold dM at hf
 split at hf
 ·rename_i kd kd' a
  unfold cI at ha
  cases x with
  |int k' b=>
   have:=of_decide_eq_true ha;subst this;simp [Instr.sameNow,ft]
  |_=>cases ha
 ·cases x with
  |string b=>rfl
  |_=>cases ha
 ·cases x with
  |bool b=>rfl
  |_=>cases ha
 ·cases hf
def dV(k v:Value):List (Value×Value)→List (Value×Value)
 | []=> [(k,v)]
 |e::es=>bif ft k e.1 then(k,v)::es else e::dV k v es
def gp(k:Value):List (Value×Value)→List (Value×Value)
 | []=> []
 |e::es=>bif ft k e.1 then es else e::gp k es
def aP(e:MapEntry):Value×Value:=(e.key,e.val)
theorem qT{d:TypeDesc}{k:Value}(hf:dM d k=true)(v:Value):∀(es:List MapEntry) (i:Nat),(∀e∈es,cI k e.key=true)→
  (Instr.findNow d k es i=some none∧ig k (es.map aP)=none∧dV k v (es.map aP)=es.map aP++ [(k,v)]∧gp k (es.map aP)=es.map aP)∨
  ∃j e,Instr.findNow d k es i=some (some (i+j,e.val))∧es[j]? =some e∧e.key=k∧ig k (es.map aP)=some e.val∧dV k v (es.map aP)=(es.modify j fun e=> { e with key:=k,val:=v }).map aP∧gp k (es.map aP)=(es.eraseIdx j).map aP
 | [],i,_=> .inl ⟨rfl,rfl,rfl,rfl⟩
 |e::es,i,ha=>by
  have h0:=ha e (by simp);have hs:=ry hf h0
  cases hk:ft k e.key with
  |true=>
   rw [hk]at hs;refine .inr ⟨0,e,?_,rfl,DW hf h0 hk,?_,?_,?_⟩
   ·simp only [Instr.findNow,hs,Nat.add_zero]
   ·simp only [List.map_cons,ig,aP,hk,cond_true]
   ·simp only [List.map_cons,dV,aP,hk,cond_true,List.modify_zero_cons]
   ·simp only [List.map_cons,gp,aP,hk,cond_true,List.eraseIdx_cons_zero]
  |false=>
   rw [hk]at hs;rcases qT hf v es (i+1) (fun x hx=>ha x (by simp [hx]))with⟨h1,h2,h3,h4⟩|⟨j,x,h1,h2,h3,h4,h5,h6⟩
   ·refine .inl ⟨?_,?_,?_,?_⟩
    ·simp only [Instr.findNow,hs,h1]
    ·simp only [List.map_cons,ig,aP,hk,cond_false];exact h2
    ·simp only [List.map_cons,dV,show(aP e).1=e.key from rfl,hk,cond_false,h3,List.cons_append]
    ·simp only [List.map_cons,gp,show(aP e).1=e.key from rfl,hk,cond_false,h4]
   ·refine .inr ⟨j+1,x,?_,by simpa using h2,h3,?_,?_,?_⟩
    ·simp only [Instr.findNow,hs,h1];congr 3;omega
    ·simp only [List.map_cons,ig,aP,hk,cond_false];exact h4
    ·simp only [List.map_cons,dV,show(aP e).1=e.key from rfl,hk,cond_false,h5,List.modify_succ_cons]
    ·simp only [List.map_cons,gp,show(aP e).1=e.key from rfl,hk,cond_false,h6,List.eraseIdx_cons_succ]
theorem iH{P:Program}{t:TypeId}{s:STy}(hs:ty P t=some s){k:Value}(hf:dM s.und k=true)(v:Value)(es:List MapEntry)(ha:∀e∈es,cI k e.key=true)(w:World):
  ((Instr.findKey t k es).run P w= .ok none w∧ig k (es.map aP)=none∧dV k v (es.map aP)=es.map aP++ [(k,v)]∧gp k (es.map aP)=es.map aP)∨
  ∃j e,(Instr.findKey t k es).run P w= .ok (some (j,e.val)) w∧es[j]? =some e∧e.key=k∧ig k (es.map aP)=some e.val∧dV k v (es.map aP)=(es.modify j fun e=> { e with key:=k,val:=v }).map aP∧gp k (es.map aP)=(es.eraseIdx j).map aP:=by
 rcases qT hf v es 0 ha with⟨h1,h2⟩|⟨j,e,h1,h2⟩
 ·exact .inl ⟨by simp only [Instr.findKey,Sem.run_bind,aq w hs,Result.andThen_ok,h1,Sem.run_pure],h2⟩
 ·exact .inr ⟨j,e,by simp only [Instr.findKey,Sem.run_bind,aq w hs,Result.andThen_ok,h1,Sem.run_pure,Nat.zero_add],h2⟩
def bH(A:aa)(g:Nat)(l:List (Value×Value)):Prop:=
 ∃es clock,A.blk g=some (.map es clock)∧gk es=l∧(∀e∈es.toList,e.born<clock)∧(es.toList.map (·.born)).Nodup
theorem bB(es:Array MapEntry):gk es=es.toList.map aP:=rfl
theorem zt{A:aa}{g:Nat}{l:List (Value×Value)}{k:Value}(h:bH A g l)(ha:∀e∈l,cI k e.1=true):A.look g k=some (ig k l):=by
 obtain⟨es,clock,hb,rfl,_⟩:=h;rw [A.lookeq];unfold tR;rw [hb];have:(gk es).all (fun e=>cI k e.1)=true:=List.all_eq_true.2 ha;simp only [this,cond_true]
theorem Ew{A:aa}{g n:Nat}(h:A.cnt g=some n):∃es clock,A.blk g=some (.map es clock)∧n=es.size:=by
 rw [A.cnteq]at h;unfold Ex at h
 split at h
 ·rename_i es clock hb
  injection h with h
  exact⟨es,clock,hb,h.symm⟩
 ·cases h
theorem Bd{A:aa}{g:Nat}{k:Value}{r:Option Value}(h:A.look g k=some r):∃es clock,A.blk g=some (.map es clock)∧(∀e∈es.toList,cI k e.key=true)∧r=ig k (gk es):=by
 rw [A.lookeq]at h;unfold tR at h
 split at h
 ·rename_i es clock hb
  cases ha:(gk es).all fun e=>cI k e.1 with
  |false=>rw [ha]at h;cases h
  |true=>
   rw [ha]at h;injection h with h
   refine⟨es,clock,hb,fun e he=>List.all_eq_true.1 ha (aP e) ?_,h.symm⟩;exact List.mem_map.2 ⟨e,he,rfl⟩
 ·cases h
theorem bH.sub{A A':aa}{g:Nat}{l:List (Value×Value)}(h:bH A g l)(hs:∀o,A.blk g=some o→A'.blk g=some o):bH A' g l:=by
 obtain⟨es,clock,hb,h⟩:=h;exact⟨es,clock,hs _ hb,h⟩
def sE(ok:Bool)(z:Value):Option Value→SV
 |some v=>bif ok then .tup [.v v,.v (.bool true)]else .v v
 |none=>bif ok then .tup [uH z,.v (.bool false)]else uH z
def zv(P:Program)(h:HS)(t:TypeId)(g:Nat)(k:SV)(ok:Bool):Option SV:=match ty P t with
 |none=>none
 |some s=>match s.und with
  | .map kt et=>match ty P kt,ty P et with
    |some sk,some se=>match yh sk.und k with
     |some kv=>match h.M.A.look g kv with
      |some r=>some (sE ok se.zero r)
      |none=>none
     |none=>none
    |_,_=>none
  |_=>none
theorem Bf{P:Program}{h:HS}{t:TypeId}{g:Nat}{k z:SV}{ok:Bool}(hz:zv P h t g k ok=some z){ρ:Nat→Loc}{w:World}(H:aL ρ h w):
  (Instr.lookup t (.map (some g)) (k.den ρ) ok).run P w= .ok (z.den ρ) w∧z.lt ρ h.nx:=by
 unfold zv at hz
 split at hz
 ·cases hz
 ·rename_i s hs
  split at hz
  ·rename_i kt et hd
   split at hz
   ·rename_i sk se hsk hse
    split at hz
    ·rename_i kv hkv
     split at hz
     ·rename_i r hr
      injection hz with hz;subst hz
      obtain⟨hk,hf⟩:=qD hkv ρ;obtain⟨es,clock,hb,ha,rfl⟩:=Bd hr;have h3:=H.are g _ hb;have hget:(getObj g).run P w= .ok (.map es clock) w:=by simp [getObj,Sem.run,h3]
      have hcheck:∀b v,(Instr.checkKey b 10000 kt v).run P w= .ok () w:=fun b v=>dD hsk (ei hf) b 9999 v w
      simp only [Instr.lookup,Sem.run_bind,aq w hs,hd,Result.andThen_ok,hget,Sem.run_pure,hcheck,hk];rcases iH (P:=P) hsk hf (.bool false) es.toList ha w with⟨h1,h2,_⟩|⟨j,e,h1,_,_,h2,_⟩
      ·rw [h1]
       rw [bB,h2];simp only [Result.andThen_ok,Sem.run_bind,cu w hse,Sem.run_pure]
       cases ok
       ·exact⟨by simp [sE,iP],kU _ _ _⟩
       ·exact⟨by simp [sE,SV.den,SV.gC,iP],kU _ _ _,trivial,trivial⟩
      ·rw [h1]
       rw [bB,h2];simp only [Result.andThen_ok,Sem.run_bind,Sem.run_pure]
       cases ok
       ·exact⟨by simp [sE,SV.den],trivial⟩
       ·exact⟨by simp [sE,SV.den,SV.gC],trivial,trivial,trivial⟩
     ·cases hz
    ·cases hz
   ·cases hz
  ·cases hz
def tC:SV→Option Value
 | .v x=>some x
 | .str l=>some (.string ⟨l.toArray⟩)
 | .agg cs=>match iC cs with
   |some vs=>some (.agg vs.toArray)
   |none=>none
 |_=>none
theorem qi{x:SV}{v:Value}(h:tC x=some v)(ρ:Nat→Loc):x.den ρ=v:=by
 unfold tC at h
 split at h
 ·injection h
 ·injection h
 ·rename_i cs
  split at h
  ·rename_i vs hvs
   injection h with h
   rw [←h,SV.den,cS,dW ρ cs vs hvs]
  ·cases h
 ·cases h
def putA(P:Program)(h:HS)(t:TypeId)(g:Nat)(k v:SV)(K:SV→HS→Bool):Bool:=match ty P t with
 |none=>false
 |some s=>match s.und with
  | .map kt _=>match ty P kt with
    |some sk=>match yh sk.und k,tC v with
     |some kv,some vv=>h.M.D (∃l,bH h.M.A g l∧(∀e∈l,cI kv e.1=true)∧∀A',bH A' g (dV kv vv l)→(∀b,b≠g→A'.blk b=h.M.A.blk b)→K (.v (.tuple #[])) (h.put A')=true)
     |_,_=>false
    |none=>false
  |_=>false
theorem mM{P:Program}{k:Value}{d:TypeDesc}(hf:dM d k=true)(w:World):(Instr.keyThatStays k k).run P w= .ok k w:=by
 have:Instr.sameBits 10000 k k=true:=by
  unfold dM at hf
  split at hf
  ·simp [Instr.sameBits]
  ·simp only [Instr.sameBits];rw [beq_toListBytes];simp
  ·simp [Instr.sameBits]
  ·cases hf
 simp [Instr.keyThatStays,this]
theorem fW(f:MapEntry→MapEntry)(hf:∀e,(f e).born=e.born):∀(l:List MapEntry) (j:Nat),(l.modify j f).map (·.born)=l.map (·.born)
 | [],j=>by simp
 |e::l,0=>by simp [hf]
 |e::l,j+1=>by simp [fW f hf l j]
theorem oL{l:List MapEntry}{c:Nat}(h:∀b∈l.map (·.born),b<c):∀e∈l,e.born<c:=fun e he=>h _ (List.mem_map.2 ⟨e,he,rfl⟩)
theorem Db{P:Program}{h:HS}{t:TypeId}{g:Nat}{k v:SV}{K:SV→HS→Bool}(hk:putA P h t g k v K){ρ:Nat→Loc}{w:World}(H:aL ρ h w):
  ∃w',(Instr.mapUpdate t (.map (some g)) (k.den ρ) (v.den ρ)).run P w= .ok () w'∧cT ρ h K (.tuple #[]) w':=by
 unfold putA at hk
 split at hk
 ·exact absurd hk Bool.false_ne_true
 ·rename_i s hs
  split at hk
  ·rename_i kt et hd
   split at hk
   ·rename_i sk hsk
    split at hk
    ·rename_i kv vv hkv hvv
     obtain⟨l,⟨es,clock,hb,rfl,hlt,hnd⟩,ha,hk⟩:=(h.M.X.hD _).1 hk;obtain⟨hke,hf⟩:=qD hkv ρ;have ha:∀e∈es.toList,cI kv e.key=true:=fun e he=>ha (aP e) (List.mem_map.2 ⟨e,he,rfl⟩)
     have h3:=H.are g _ hb;have hget:(getObj g).run P w= .ok (.map es clock) w:=by simp [getObj,Sem.run,h3]
     have hcheck:∀b v,(Instr.checkKey b 10000 kt v).run P w= .ok () w:=fun b v=>dD hsk (ei hf) b 9999 v w
     rw [qi hvv ρ,hke];rcases iH (P:=P) hsk hf vv es.toList ha w with⟨h1,_,h2,_⟩|⟨j,e,h1,he,hek,_,h2,_⟩
     ·obtain⟨A',k1,k2,k3⟩:=eo H hb (.map (es.push { key:=kv,val:=vv,born:=clock }) (clock+1))
      refine⟨_,?_,_,_,ρ,hk A' ⟨_,_,k1,?_,?_,?_⟩ k2,rfl,trivial,k3,Ext.refl _ _,Nat.le_refl _,Mem.cH _ _⟩
      ·simp only [Instr.mapUpdate,Sem.run_bind,aq w hs,hd,Result.andThen_ok,hget,hcheck,h1]
       simp [setObj,Sem.run,h3]
      ·rw [bB es,h2,bB];simp [aP]
      ·intro x hx
       simp only [Array.toList_push,List.mem_append,List.mem_singleton]at hx;rcases hx with hx|rfl
       ·have:=hlt x hx;omega
       ·show clock<clock+1;omega
      ·simp only [Array.toList_push,List.map_append,List.map_cons,List.map_nil]
       refine List.nodup_append.2 ⟨hnd,by simp,fun a ha' b hb'=> ?_⟩;obtain⟨x,hx,rfl⟩:=List.mem_map.1 ha';have:=hlt x hx;simp only [List.mem_singleton]at hb';omega
     ·obtain⟨A',k1,k2,k3⟩:=eo H hb (.map (es.modify j fun e=> { e with key:=kv,val:=vv }) clock)
      have hmod:(es.modify j fun e=> { e with key:=kv,val:=vv }).toList=es.toList.modify j fun e=> { e with key:=kv,val:=vv } :=by simp
      refine⟨_,?_,_,_,ρ,hk A' ⟨_,_,k1,?_,?_,?_⟩ k2,rfl,trivial,k3,Ext.refl _ _,Nat.le_refl _,Mem.cH _ _⟩
      ·have hej:es[j]? =some e:=by simpa using he
       simp only [Instr.mapUpdate,Sem.run_bind,aq w hs,hd,Result.andThen_ok,hget,hcheck,h1,hej,Option.map_some,Option.getD_some,hek,mM hf w];simp [setObj,Sem.run,h3]
      ·rw [bB es,h2,bB,hmod]
      ·rw [hmod]
       refine oL ?_;rw [fW (fun e=> { e with key:=kv,val:=vv }) (fun _=>rfl)];intro b hb';obtain⟨x,hx,rfl⟩:=List.mem_map.1 hb';exact hlt x hx
      ·rw [hmod,fW (fun e=> { e with key:=kv,val:=vv }) (fun _=>rfl)]
       exact hnd
    ·exact absurd hk Bool.false_ne_true
   ·exact absurd hk Bool.false_ne_true
  ·exact absurd hk Bool.false_ne_true
def delA(P:Program)(h:HS)(kt:TypeId)(g:Nat)(k:SV)(K:SV→HS→Bool):Bool:=match ty P kt with
 |some sk=>match yh sk.und k with
  |some kv=>h.M.D (∃l,bH h.M.A g l∧(∀e∈l,cI kv e.1=true)∧∀A',bH A' g (gp kv l)→(∀b,b≠g→A'.blk b=h.M.A.blk b)→K (.v (.tuple #[])) (h.put A')=true)
  |none=>false
 |none=>false
theorem Ep{P:Program}{h:HS}{t kt et:TypeId}{s:STy}(hs:ty P t=some s)(hd:s.und= .map kt et){ts:List TypeId}{g:Nat}{k:SV}{K:SV→HS→Bool}(hk:delA P h kt g k K){ρ:Nat→Loc}{w:World}(H:aL ρ h w)(u:TypeId):
  ∃v w',(Builtin.delete_ (t::ts).toArray u #[.map (some g),k.den ρ]).run P w= .ok v w'∧cT ρ h K v w':=by
 have h0:(t::ts).toArray[0]? =some t:=by simp
 unfold delA at hk
 split at hk
 ·rename_i sk hsk
  split at hk
  ·rename_i kv hkv
   obtain⟨l,⟨es,clock,hb,rfl,hlt,hnd⟩,ha,hk⟩:=(h.M.X.hD _).1 hk;obtain⟨hke,hf⟩:=qD hkv ρ;have ha:∀e∈es.toList,cI kv e.key=true:=fun e he=>ha (aP e) (List.mem_map.2 ⟨e,he,rfl⟩)
   have h3:=H.are g _ hb;have hget:(getObj g).run P w= .ok (.map es clock) w:=by simp [getObj,Sem.run,h3]
   have hcheck:∀b v,(Instr.checkKey b 10000 kt v).run P w= .ok () w:=fun b v=>dD hsk (ei hf) b 9999 v w
   rw [hke];rcases iH (P:=P) hsk hf (.bool false) es.toList ha w with⟨h1,_,_,h2⟩|⟨j,e,h1,he,hek,_,_,h2⟩
   ·obtain⟨A',k1,k2,k3⟩:=eo H hb (.map es clock)
    refine⟨.tuple #[],_,?_,_,_,ρ,hk A' ⟨_,_,k1,?_,hlt,hnd⟩ k2,rfl,trivial,k3,Ext.refl _ _,Nat.le_refl _,Mem.cH _ _⟩
    ·simp only [Builtin.delete_,h0,List.getElem?_toArray,List.getElem?_cons_zero,List.getElem?_cons_succ,Sem.run_bind,aq w hs,hd,Result.andThen_ok,hget,hcheck,h1]
     simp [setObj,Sem.run,h3]
    ·rw [bB,h2]
   ·obtain⟨A',k1,k2,k3⟩:=eo H hb (.map (es.eraseIdxIfInBounds j) clock)
    have hj:j<es.size:=by
     have:=(List.getElem?_eq_some_iff.1 he).1;simpa using this
    have her:(es.eraseIdxIfInBounds j).toList=es.toList.eraseIdx j:=by simp
    refine⟨.tuple #[],_,?_,_,_,ρ,hk A' ⟨_,_,k1,?_,fun x hx=>hlt x ?_,?_⟩ k2,rfl,trivial,k3,Ext.refl _ _,Nat.le_refl _,Mem.cH _ _⟩
    ·simp only [Builtin.delete_,h0,List.getElem?_toArray,List.getElem?_cons_zero,List.getElem?_cons_succ,Sem.run_bind,aq w hs,hd,Result.andThen_ok,hget,hcheck,h1]
     simp [setObj,Sem.run,h3]
    ·rw [bB es,h2,bB,her]
    ·rw [her]at hx
     exact List.mem_of_mem_eraseIdx hx
    ·rw [her,map_eraseIdx]
     exact hnd.sublist (List.eraseIdx_sublist _ _)
  ·exact absurd hk Bool.false_ne_true
 ·exact absurd hk Bool.false_ne_true
theorem sv{α β:Type}(f:α→β):∀ {l:List α} {x y:α},(l.map f).Nodup→x∈l→y∈l→f x=f y→x=y
 | [],_,_,_,hx,_,_=>by cases hx
 |a::l,x,y,hn,hx,hy,he=>by
  rw [List.map_cons,List.nodup_cons]at hn;rcases List.mem_cons.1 hx with h1|h1<;>rcases List.mem_cons.1 hy with h2|h2
  ·rw [h1,h2]
  ·exact(hn.1 (List.mem_map.2 ⟨y,h2,by rw [←he,h1]⟩)).elim
  ·exact(hn.1 (List.mem_map.2 ⟨x,h1,by rw [he,h2]⟩)).elim
  ·exact sv f hn.2 h1 h2 he
def hZ(A:aa)(i g:Nat)(l:List (Value×Value))(sk:List Value):Prop:=
 ∃es clock seen,A.blk g=some (.map es clock)∧gk es=l∧(∀e∈es.toList,e.born<clock)∧(es.toList.map (·.born)).Nodup∧(l.map (·.1)).Nodup∧
  A.blk i=some (.mapIter (some g) clock seen clock)∧∀e∈es.toList,(e.born∈seen.toList↔e.key∈sk)
theorem hZ.sub{A A':aa}{i g:Nat}{l:List (Value×Value)}{sk:List Value}(h:hZ A i g l sk)(hs:∀b o,b=i∨b=g→A.blk b=some o→A'.blk b=some o):hZ A' i g l sk:=by
 obtain⟨es,clock,seen,h1,h2,h3,h4,h5,h6,h7⟩:=h;exact⟨es,clock,seen,hs g _ (.inr rfl) h1,h2,h3,h4,h5,hs i _ (.inl rfl) h6,h7⟩
def CX(h:HS)(g:Nat)(K:SV→HS→Bool):Bool:=
 h.M.D (∃l,bH h.M.A g l∧(l.map (·.1)).Nodup∧∀i A',h.M.A.blk i=none→(∀b,b≠i→A'.blk b=h.M.A.blk b)→hZ A' i g l []→K (.v (.pointer (some ⟨i,0,none⟩))) (h.put A')=true)
theorem xE{P:Program}{h:HS}{t kt et:TypeId}{s:STy}(hs:ty P t=some s)(hd:s.und= .map kt et){g:Nat}{K:SV→HS→Bool}(hk:CX h g K){ρ:Nat→Loc}{w:World}(H:aL ρ h w):
  ∃v w',(Instr.range t (.map (some g))).run P w= .ok v w'∧cT ρ h K v w':=by
 obtain⟨l,⟨es,clock,hb,rfl,hlt,hnd⟩,hkn,hk⟩:=(h.M.X.hD _).1 hk;have h3:=H.are g _ hb;have hget:(getObj g).run P w= .ok (.map es clock) w:=by simp [getObj,Sem.run,h3]
 obtain⟨A',k1,k2,k3,k4⟩:=jf H (.mapIter (some g) clock #[] clock) w.drawn;refine⟨.pointer (some ⟨w.heap.size,0,none⟩),_,?_,_,_,ρ,hk w.heap.size A' k1 k3 ⟨es,clock, #[],?_,rfl,hlt,hnd,hkn,k2,fun e _=>by simp⟩,rfl,trivial,k4,Ext.refl _ _,Nat.le_refl _,Mem.cH _ _⟩
 ·simp [Instr.range,aq w hs,hd,hget]
 ·rw [k3 g (fun e=>by subst e;rw [hb]at k1;cases k1)];exact hb
def CW(h:HS)(K:SV→HS→Bool):Bool:=
 h.M.D (∀i A',h.M.A.blk i=none→(∀b,b≠i→A'.blk b=h.M.A.blk b)→A'.blk i=some (.mapIter none 0 #[] 0)→K (.v (.pointer (some ⟨i,0,none⟩))) (h.put A')=true)
theorem xD{P:Program}{h:HS}{t kt et:TypeId}{s:STy}(hs:ty P t=some s)(hd:s.und= .map kt et){K:SV→HS→Bool}(hk:CW h K){ρ:Nat→Loc}{w:World}(H:aL ρ h w):
  ∃v w',(Instr.range t (.map none)).run P w= .ok v w'∧cT ρ h K v w':=by
 have hk:=(h.M.X.hD _).1 hk;obtain⟨A',k1,k2,k3,k4⟩:=jf H (.mapIter none 0 #[] 0) w.drawn;refine⟨.pointer (some ⟨w.heap.size,0,none⟩),_,?_,_,_,ρ,hk w.heap.size A' k1 k3 k2,rfl,trivial,k4,Ext.refl _ _,Nat.le_refl _,Mem.cH _ _⟩;simp [Instr.range,aq w hs,hd]
def nextA(h:HS)(i:Nat)(K:SV→HS→Bool):Bool:=
 h.M.D ((∃g l sk,hZ h.M.A i g l sk∧(∀e∈l,e.1∉sk→∀A',(∀b,b≠i→A'.blk b=h.M.A.blk b)→hZ A' i g l (sk++ [e.1])→A'.ent i=some (.tuple #[e.1,e.2])→K (.v (.tuple #[.bool true,e.1,e.2])) (h.put A')=true)∧
  ((∀e∈l,e.1∈sk)→K (.v (.tuple #[.bool false])) h=true))∨∃a b c,h.M.A.blk i=some (.mapIter none a b c)∧K (.v (.tuple #[.bool false])) h=true)
theorem AW{P:Program}{h:HS}{i:Nat}{K:SV→HS→Bool}(hk:nextA h i K){ρ:Nat→Loc}{w:World}(H:aL ρ h w)(u:TypeId):
  ∃v w',(Instr.next (.pointer (some ⟨i,0,none⟩)) false u).run P w= .ok v w'∧cT ρ h K v w':=by
 rcases(h.M.X.hD _).1 hk with hk|⟨a,b,c,hi,hk⟩
 rotate_left
 ·have h4:=H.are i _ hi
  have hget:(getObj i).run P w= .ok (.mapIter none a b c) w:=by simp [getObj,Sem.run,h4]
  refine⟨.tuple #[.bool false],w,?_,_,_,ρ,hk,rfl,trivial,H,Ext.refl _ _,Nat.le_refl _,Mem.le_refl _⟩;simp only [Instr.next,Sem.run_bind,hget,Result.andThen_ok];rfl
 obtain⟨g,l,sk,⟨es,clock,seen,hb,rfl,hlt,hnd,hkn,hi,hseen⟩,hk1,hk2⟩:=hk;have h3:=H.are g _ hb;have h4:=H.are i _ hi;have hget:(getObj i).run P w= .ok (.mapIter (some g) clock seen clock) w:=by simp [getObj,Sem.run,h4]
 have hgetg:(getObj g).run P w= .ok (.map es clock) w:=by simp [getObj,Sem.run,h3]
 have hgone:(!seen.isEmpty&& !es.isEmpty&&es.all fun e=>decide (e.born≥clock))=false:=by
  cases he:es.toList with
  |nil=>
   have:es= #[]:=Array.toList_inj.1 he;subst this;simp
  |cons e r=>
   have h5:=hlt e (by rw [he];simp)
   have:(es.all fun e=>decide (e.born≥clock))=false:=by
    rw [Bool.eq_false_iff];intro ha;rw [←Array.all_toList,he]at ha;simp only [List.all_cons,Bool.and_eq_true,decide_eq_true_eq]at ha;omega
   rw [this,Bool.and_false]
 generalize hleft:(es.filter fun e=> !seen.contains e.born)=left
 have hlm:∀e,e∈left.toList↔e∈es.toList∧e.key∉sk:=fun e=>by
  rw [←hleft];simp only [Array.toList_filter,List.mem_filter,Bool.not_eq_true',and_congr_right_iff];intro he;rw [←hseen e he];rw [←Bool.not_eq_true];simp
 have hold:left.filter (fun e=>decide (e.born<clock))=left:=by
  rw [Array.filter_eq_self];intro e he;exact decide_eq_true (hlt e ((hlm e).1 (by simpa using he)).1)
 have hnew:left.filter (fun e=>decide (e.born≥clock))= #[]:=by
  rw [Array.filter_eq_empty_iff];intro e he;have:=hlt e ((hlm e).1 (by simpa using he)).1;simp;omega
 generalize hcand:((if left.isEmpty then #[none]else #[])++(left++ #[]).map some:Array (Option MapEntry))=cand
 have hpos:0<cand.size:=by
  rw [←hcand]
  by_cases hz:left.isEmpty
  ·rw [if_pos hz];simp;omega
  ·rw [if_neg hz]
   simp only [Array.isEmpty_iff]at hz;have:0<left.size:=Nat.pos_of_ne_zero fun h0=>hz (Array.eq_empty_of_size_eq_zero h0)
   simp;omega
 obtain⟨c,w1,hdraw,hw1,hci⟩:∃c w1,(choose (.mapNext cand.size)).run P w= .ok c w1∧(w1=w∨w1= { w with drawn:=w.drawn+1 })∧c<cand.size:=by
  simp only [choose,Sem.run]
  by_cases hf:(Question.mapNext cand.size).forced=true
  ·rw [if_pos hf]
   exact⟨0,w,rfl,.inl rfl,hpos⟩
  ·rw [if_neg hf]
   refine⟨_,_,rfl,.inr rfl,?_⟩;simp only [Question.cut];exact Nat.mod_lt _ hpos
 have H1:aL ρ h w1:=by
  rcases hw1 with rfl|rfl
  ·exact H
  ·exact H.drawn _
 have hheap:w1.heap=w.heap:=by rcases hw1 with rfl|rfl<;>rfl
 have hrun:(Instr.next (.pointer (some ⟨i,0,none⟩)) false u).run P w=
   ((match cand[c]? with
     |some (some e)=>do
      setObj i (.mapIter (some g) clock (seen.push e.born) clock)
      pure (.tuple #[.bool true,e.key,e.val])
     |some none=>pure (.tuple #[.bool false])
     |none=>stuck "Next: no such candidate" :Sem Value)).run P w1:=by
  simp only [Instr.next,Sem.run_bind,hget,hgetg,Result.andThen_ok,hgone,Bool.false_eq_true,if_false,hleft,hold,hnew,hcand,hdraw];generalize cand[c]? =x
  cases x with
  |none=>rfl
  |some x=>cases x<;>rfl
 rw [hrun];obtain⟨x,hat,hmem⟩:∃x,cand[c]? =some x∧x∈cand.toList:=⟨cand[c],Array.getElem?_eq_getElem hci,by simp⟩;rw [hat];rw [←hcand]at hmem
 cases x with
 |none=>
  have hz:left.isEmpty=true:=by
   by_cases hz:left.isEmpty
   ·exact hz
   ·rw [if_neg hz]at hmem;simp at hmem
  refine⟨_,w1,rfl,_,_,ρ,hk2 (fun e he=> ?_),rfl,trivial,H1,Ext.refl _ _,Nat.le_refl _,Mem.le_refl _⟩;obtain⟨x,hx,rfl⟩:=List.mem_map.1 he;refine Classical.byContradiction fun hn=> ?_
  have:=(hlm x).2 ⟨hx,hn⟩;rw [Array.isEmpty_iff.1 hz]at this;simp at this
 |some e=>
  have hel:e∈left.toList:=by
   by_cases hz:left.isEmpty
   ·rw [if_pos hz]at hmem;simpa using hmem
   ·rw [if_neg hz]at hmem;simpa using hmem
  obtain⟨hee,hes⟩:=(hlm e).1 hel;obtain⟨A',k1,k2,k3⟩:=eo H1 hi (.mapIter (some g) clock (seen.push e.born) clock);have hne:g≠i:=fun e=>by subst e;rw [hb]at hi;cases hi
  refine⟨.tuple #[.bool true,e.key,e.val],_,?_,_,_,ρ,hk1 (e.key,e.val) (List.mem_map.2 ⟨e,hee,rfl⟩) hes A' k2 ⟨es,clock,seen.push e.born,by rw [k2 g hne];exact hb,rfl,hlt,hnd,hkn,k1,fun x hx=> ?_⟩ ?_,rfl,trivial,k3,Ext.refl _ _,Nat.le_refl _,Mem.cH _ _⟩
  ·have h4':w1.heap[i]? =some (.mapIter (some g) clock seen clock):=by rw [hheap];exact h4
   simp [setObj,Sem.run,h4']
  ·simp only [Array.toList_push,List.mem_append,List.mem_singleton]
   rw [hseen x hx];refine or_congr Iff.rfl ?_;have inj:∀ {β:Type} (f:MapEntry→β),(es.toList.map f).Nodup→f x=f e→x=e:=fun f hn he=>sv f hn hx hee he
   have hkn':(es.toList.map (·.key)).Nodup:=by
    have:(gk es).map (·.1)=es.toList.map (·.key):=by simp [gk,Function.comp_def]
    rw [←this];exact hkn
   exact⟨fun hh=>by rw [inj _ hnd hh],fun hh=>by rw [inj _ hkn' hh]⟩
  ·rw [A'.enteq]
   unfold zO;rw [k1];simp only [Array.back?_push];rw [k2 g hne,hb];simp only [BEq.rfl,cond_true,Option.map_eq_some_iff];refine⟨e,?_,rfl⟩;rw [←Array.find?_toList];refine List.find?_eq_some_iff_append.2 ⟨by simp,?_⟩;obtain⟨as,bs,hab⟩:=List.append_of_mem hee;refine⟨as,bs,hab,fun x hx=> ?_⟩;simp only [Bool.not_eq_true',beq_eq_false_iff_ne,ne_eq];intro hxe;rw [hab,List.map_append,List.map_cons]at hnd;exact(List.nodup_append.1 hnd).2.2 x.born (List.mem_map.2 ⟨x,hx,rfl⟩) e.born (by simp) hxe
def mapA(h:HS)(K:SV→HS→Bool):Bool:=h.M.D (∀g A',h.M.A.blk g=none→(∀b,b≠g→A'.blk b=h.M.A.blk b)→bH A' g []→K (.v (.map (some g))) (h.put A')=true)
theorem DH{P:Program}{h:HS}{t:TypeId}{K:SV→HS→Bool}(hk:mapA h K){ρ:Nat→Loc}{w:World}(H:aL ρ h w):
  ∃v w',(Instr.makeMap t none).run P w= .ok v w'∧cT ρ h K v w':=by
 have hk:=(h.M.X.hD _).1 hk;obtain⟨A',k1,k2,k3,k4⟩:=jf H (.map #[] 0) w.drawn;refine⟨.map (some w.heap.size),_,?_,_,_,ρ,hk w.heap.size A' k1 k3 ⟨#[],0,k2,rfl,by simp,by simp⟩,rfl,trivial,k4,Ext.refl _ _,Nat.le_refl _,Mem.cH _ _⟩;simp [Instr.makeMap]
theorem Ei{A:aa}{i:Nat}{v:Value}(h:A.ent i=some v):∃m since seen stepped st es clock e,A.blk i=some (.mapIter (some m) since seen stepped)∧seen.back? =some st∧A.blk m=some (.map es clock)∧clock=stepped∧es.find? (fun e=>e.born==st)=some e∧v= .tuple #[e.key,e.val]:=by
 rw [A.enteq]at h;unfold zO at h
 split at h
 ·rename_i m since seen stepped hi
  split at h
  ·rename_i st es clock hst hm
   cases hc:clock==stepped with
   |false=>rw [hc]at h;cases h
   |true=>
    rw [hc]at h;simp only [cond_true,Option.map_eq_some_iff]at h;obtain⟨e,he,rfl⟩:=h;exact⟨m,since,seen,stepped,st,es,clock,e,hi,hst,hm,by simpa using hc,he,rfl⟩
  ·cases h
 ·cases h
theorem Ej{P:Program}{h:HS}{i:Nat}{v:Value}(hv:h.M.A.ent i=some v){ρ:Nat→Loc}{w:World}(H:aL ρ h w):(Instr.entry (.pointer (some ⟨i,0,none⟩))).run P w= .ok v w:=by
 obtain⟨m,since,seen,stepped,st,es,clock,e,h1,h2,h3,h4,h5,rfl⟩:=Ei hv;have k1:=H.are i _ h1;have k2:=H.are m _ h3;have hget:(getObj i).run P w= .ok (.mapIter (some m) since seen stepped) w:=by simp [getObj,Sem.run,k1]
 have hgetm:(getObj m).run P w= .ok (.map es clock) w:=by simp [getObj,Sem.run,k2]
 simp [Instr.entry,hget,h2,hgetm,h4,h5]
theorem key1_eq{k x:Value}(ha:yR k x=true)(h:vI k x=true):x=k:=by
 unfold yR at ha
 split at ha
 ·simp only [vI]at h
  rw [bytes_beq h]
 ·simp only [vI]at h
  rw [eq_of_beq h,of_decide_eq_true ha]
 ·simp only [vI]at h
  rw [eq_of_beq h]
 ·cases ha
theorem zy:∀ {ks xs:List Value},kM ks xs=true→tT ks xs=true→xs=ks
 | [], [],_,_=>rfl
 | [],_::_,h,_=>by cases h
 |_::_, [],h,_=>by cases h
 |k::ks,x::xs,h,h'=>by
  simp only [kM,Bool.and_eq_true]at h;simp only [tT,Bool.and_eq_true]at h';rw [key1_eq h.1 h'.1,zy h.2 h'.2]
def dh(P:Program):List Field→List Value→Nat→Bool
 | [], [],_=>true
 |f::fs,v::vs,i=>bif Nat.beq f.offset i&& !(f.name== "_")then(match ty P f.type with
  |some s=>dM s.und v&&dh P fs vs (i+1)
  |none=>false)else false
 |_,_,_=>false
theorem lT{P:Program}{f:Field}{fs:List Field}{v:Value}{vs:List Value}{i:Nat}(h:dh P (f::fs) (v::vs) i=true):
  f.offset=i∧f.name≠ "_" ∧(∃s,ty P f.type=some s∧dM s.und v=true)∧dh P fs vs (i+1)=true:=by
 simp only [dh]at h
 cases hb:Nat.beq f.offset i&& !(f.name== "_")with
 |false=>rw [hb]at h;cases h
 |true=>
  rw [hb]at h;simp only [cond_true]at h;simp only [Bool.and_eq_true,Bool.not_eq_true',beq_eq_false_iff_ne,ne_eq]at hb
  split at h
  ·rename_i s hs
   simp only [Bool.and_eq_true]at h;exact⟨Nat.eq_of_beq_eq_true hb.1,hb.2,⟨s,hs,h.1⟩,h.2⟩
  ·cases h
theorem mS{P:Program} :∀(fs:List Field) (ks xs:List Value) (i:Nat),dh P fs ks i=true→kM ks xs=true→cA fs (ks.map .v) (xs.map .v) i (ty P)=some (tT ks xs)
 | [], [], [],_,_,_=>rfl
 | [], [],_::_,_,_,h=>by cases h
 | [],_::_,_,_,h,_=>by cases h
 |_::_, [],_,_,h,_=>by cases h
 |_::_,_::_, [],_,_,h=>by cases h
 |f::fs,k::ks,x::xs,i,h,ha=>by
  obtain⟨ho,hn,⟨s,hs,hf⟩,hr⟩:=lT h;simp only [kM,Bool.and_eq_true]at ha;have ih:=mS fs ks xs (i+1) hr ha.2
  have hb:(!(Nat.beq f.offset i)||(f.name== "_"))=false:=by
   rw [ho,Nat.beq_refl];simpa using hn
  simp only [List.map_cons,cA,hb,cond_false,hs,ih,tT];have ha1:=ha.1
  cases hu:s.und with
  |int kd=>
   rw [hu]at hf
   cases k with
   |int q a=>
    cases x with
    |int q' b=>
     have:=of_decide_eq_true ha1;subst this;simp only [ix.2 rfl,cond_true,Option.map_some,vI];rfl
    |_=>cases ha1
   |_=>cases hf
  |string=>
   rw [hu]at hf
   cases k with
   |string a=>
    cases x with
    |string b=>
     simp only [SV.str?,Option.map_some,vI];rw [iB,beq_toListBytes,ByteArray.toList_eq,ByteArray.toList_eq]
    |_=>cases ha1
   |_=>cases hf
  |bool=>
   rw [hu]at hf
   cases k with
   |bool a=>
    cases x with
    |bool b=>simp only [Option.map_some,vI]
    |_=>cases ha1
   |_=>cases hf
  |_=>
   rw [hu]at hf
   cases hf
theorem vA(ρ:Nat→Loc)(l:List Value):(l.map SV.v).map (SV.den ρ)=l:=by
 rw [List.map_map];exact List.map_id _
theorem yt{P:Program}{t:TypeId}{s:STy}{fs:Array Field}(hs:ty P t=some s)(hd:s.und= .struct fs)(hh:P.stoodInHeld t=false){ks xs:List Value}(hf:dh P fs.toList ks 0=true)(ha:kM ks xs=true)(w:World):
  (Op.equal t (.agg ks.toArray) (.agg xs.toArray)).run P w= .ok (tT ks xs) w:=by
 have hu:=(bK hs).und;rw [hd]at hu;have hff:P.fieldsOf t=fs:=by simp [Program.fieldsOf,hu]
 have h1:=run_equalIn_struct (P:=P) w (9998+1) t ks.toArray xs.toArray (by rw [hff];exact hu) hh;rw [hff]at h1;show(Op.equalIn (9998+2) t _ _).run P w=_
 rw [h1];have h2:=kF (ρ:=fun _=>⟨0,0,0⟩) 9998 w fs.toList (ks.map .v) (xs.map .v) [] [] _ (mS fs.toList ks xs 0 hf ha) rfl;rw [List.nil_append,List.nil_append,vA,vA]at h2;exact h2
theorem oP{P:Program}{t:TypeId}{s:STy}{fs:Array Field}(hs:ty P t=some s)(hd:s.und= .struct fs)(hh:P.stoodInHeld t=false){ks:List Value}(hf:dh P fs.toList ks 0=true)(v:Value)(w:World):∀(es:List MapEntry) (i:Nat),(∀e∈es,cI (.agg ks.toArray) e.key=true)→
  ((Instr.findAsking t (.agg ks.toArray) es i).run P w= .ok none w∧ig (.agg ks.toArray) (es.map aP)=none∧dV (.agg ks.toArray) v (es.map aP)=es.map aP++ [(.agg ks.toArray,v)]∧gp (.agg ks.toArray) (es.map aP)=es.map aP)∨
  ∃j e,(Instr.findAsking t (.agg ks.toArray) es i).run P w= .ok (some (i+j,e.val)) w∧es[j]? =some e∧e.key= .agg ks.toArray∧ig (.agg ks.toArray) (es.map aP)=some e.val∧dV (.agg ks.toArray) v (es.map aP)=(es.modify j fun e=> { e with key:= .agg ks.toArray,val:=v }).map aP∧gp (.agg ks.toArray) (es.map aP)=(es.eraseIdx j).map aP
 | [],i,_=> .inl ⟨rfl,rfl,rfl,rfl⟩
 |e::es,i,ha=>by
  have h0:=ha e (by simp)
  obtain⟨xs,hx⟩:∃xs:List Value,e.key= .agg xs.toArray:=by
   cases hk:e.key with
   |agg cs=>exact⟨cs.toList,by simp⟩
   |_=>rw [hk]at h0;cases h0
  have h0':kM ks xs=true:=by rw [hx]at h0;simpa [cI]using h0
  have heq:=yt hs hd hh hf h0' w;have hki:ft (.agg ks.toArray) e.key=tT ks xs:=by rw [hx];simp [ft]
  cases hk:tT ks xs with
  |true=>
   rw [hk]at heq hki;have he:e.key= .agg ks.toArray:=by rw [hx,zy h0' hk]
   refine .inr ⟨0,e,?_,rfl,he,?_,?_,?_⟩
   ·simp only [Instr.findAsking,Sem.run_bind,hx,heq,Result.andThen_ok,if_true,Sem.run_pure,Nat.add_zero]
   ·simp only [List.map_cons,ig,aP,hki,cond_true]
   ·simp only [List.map_cons,dV,aP,hki,cond_true,List.modify_zero_cons]
   ·simp only [List.map_cons,gp,aP,hki,cond_true,List.eraseIdx_cons_zero]
  |false=>
   rw [hk]at heq hki;rcases oP hs hd hh hf v w es (i+1) (fun x hx=>ha x (by simp [hx]))with⟨h1,h2,h3,h4⟩|⟨j,x,h1,h2,h3,h4,h5,h6⟩
   ·refine .inl ⟨?_,?_,?_,?_⟩
    ·simp only [Instr.findAsking,Sem.run_bind,hx,heq,Result.andThen_ok,Bool.false_eq_true,if_false,h1]
    ·simp only [List.map_cons,ig,aP,hki,cond_false];exact h2
    ·simp only [List.map_cons,dV,show(aP e).1=e.key from rfl,hki,cond_false,h3,List.cons_append]
    ·simp only [List.map_cons,gp,show(aP e).1=e.key from rfl,hki,cond_false,h4]
   ·refine .inr ⟨j+1,x,?_,by simpa using h2,h3,?_,?_,?_⟩
    ·simp only [Instr.findAsking,Sem.run_bind,hx,heq,Result.andThen_ok,Bool.false_eq_true,if_false,h1];congr 3;omega
    ·simp only [List.map_cons,ig,aP,hki,cond_false];exact h4
    ·simp only [List.map_cons,dV,show(aP e).1=e.key from rfl,hki,cond_false,h5,List.modify_succ_cons]
    ·simp only [List.map_cons,gp,show(aP e).1=e.key from rfl,hki,cond_false,h6,List.eraseIdx_cons_succ]
theorem mR{P:Program}{t:TypeId}{s:STy}{fs:Array Field}(hs:ty P t=some s)(hd:s.und= .struct fs)(hh:P.stoodInHeld t=false){ks:List Value}(hf:dh P fs.toList ks 0=true)(v:Value)(es:List MapEntry)(ha:∀e∈es,cI (.agg ks.toArray) e.key=true)(w:World):
  ((Instr.findKey t (.agg ks.toArray) es).run P w= .ok none w∧ig (.agg ks.toArray) (es.map aP)=none∧dV (.agg ks.toArray) v (es.map aP)=es.map aP++ [(.agg ks.toArray,v)]∧gp (.agg ks.toArray) (es.map aP)=es.map aP)∨
  ∃j e,(Instr.findKey t (.agg ks.toArray) es).run P w= .ok (some (j,e.val)) w∧es[j]? =some e∧e.key= .agg ks.toArray∧ig (.agg ks.toArray) (es.map aP)=some e.val∧dV (.agg ks.toArray) v (es.map aP)=(es.modify j fun e=> { e with key:= .agg ks.toArray,val:=v }).map aP∧gp (.agg ks.toArray) (es.map aP)=(es.eraseIdx j).map aP:=by
 have hrun:(Instr.findKey t (.agg ks.toArray) es).run P w=(Instr.findAsking t (.agg ks.toArray) es 0).run P w:=by
  simp only [Instr.findKey,Sem.run_bind,aq w hs,Result.andThen_ok,hd]
  cases es with
  |nil=>rfl
  |cons e es=>rfl
 rw [hrun];rcases oP hs hd hh hf v w es 0 ha with h|⟨j,e,h1,h2⟩
 ·exact .inl h
 ·exact .inr ⟨j,e,by rw [h1,Nat.zero_add],h2⟩
theorem lH{P:Program}{t:TypeId}{s:STy}{fs:Array Field}(hs:ty P t=some s)(hd:s.und= .struct fs){ks:List Value}(hf:dh P fs.toList ks 0=true)(b:Bool)(w:World):
  (Instr.checkKey b 10000 t (.agg ks.toArray)).run P w= .ok () w:=by
 show(Instr.checkKey b (9999+1) t (.agg ks.toArray)).run P w= .ok () w
 rw [Instr.checkKey];simp only [Sem.run_bind,aq w hs,hd,Result.andThen_ok];rw [←Array.forIn_toList]
 have key:∀(L:List Field) (pre vs:List Value),dh P L vs pre.length=true→ks=pre++vs→∀f∈L,f.name≠ "_" ∧∃sf c,ty P f.type=some sf∧dM sf.und c=true∧ks.toArray[f.offset]? =some c:=by
  intro L
  induction L with
  |nil=>intro _ _ _ _ f hf;cases hf
  |cons f L ih=>
   intro pre vs h hk g hg
   cases vs with
   |nil=>cases h
   |cons c vs=>
    obtain⟨ho,hn,⟨sf,hsf,hfit⟩,hr⟩:=lT h;rcases List.mem_cons.1 hg with rfl|hg
    ·refine⟨hn,sf,c,hsf,hfit,?_⟩
     rw [ho,List.getElem?_toArray,hk];simp
    ·exact ih (pre++ [c]) vs (by simpa using hr) (by rw [hk];simp) g hg
 have each:=key fs.toList [] ks hf rfl;generalize fs.toList=L at each;clear key hf
 induction L with
 |nil=>simp
 |cons f L ih=>
  obtain⟨hn,sf,c,h1,h2,h3⟩:=each f (by simp);have hp:=ei h2
  have hna:TypeDesc.isAgg sf.und=false:=by
   cases hu:sf.und<;>rw [hu]at hp<;>first|rfl|cases hp
  have p1:=iX (P:=P) h1 hna h3 w;have p2:=dD (P:=P) h1 hp b 9998 c w;simp only [List.forIn_cons,Sem.run_bind,hn,ne_eq,not_false_eq_true,if_true,Result.andThen_ok,p1,p2,Sem.run_pure];exact ih fun y hy=>each y (by simp [hy])
theorem lA{P:Program} :∀(fs:List Field) (ks:List Value) (i n:Nat),dh P fs ks i=true→((ks.zip ks).all fun(x,y)=>Instr.sameBits n x y)=true
 | [], [],_,_,_=>rfl
 | [],_::_,_,_,h=>by cases h
 |_::_, [],_,_,h=>by cases h
 |f::fs,k::ks,i,n,h=>by
  obtain⟨_,_,⟨s,_,hf⟩,hr⟩:=lT h;have ih:=lA fs ks (i+1) n hr;rw [List.zip_cons_cons,List.all_cons,ih,Bool.and_true];unfold dM at hf
  split at hf
  ·cases n<;>simp [Instr.sameBits]
  ·cases n<;>(simp only [Instr.sameBits];rw [beq_toListBytes];simp)
  ·cases n<;>simp [Instr.sameBits]
  ·cases hf
theorem mN{P:Program}{fs:List Field}{ks:List Value}(hf:dh P fs ks 0=true)(w:World):(Instr.keyThatStays (.agg ks.toArray) (.agg ks.toArray)).run P w= .ok (.agg ks.toArray) w:=by
 have h:=lA fs ks 0 9999 hf
 have:Instr.sameBits 10000 (.agg ks.toArray) (.agg ks.toArray)=true:=by
  show Instr.sameBits (9999+1) _ _=true
  simp only [Instr.sameBits,BEq.rfl,Bool.true_and];exact h
 simp [Instr.keyThatStays,this]
def keyS(P:Program)(fs:Array Field)(k:SV):Option (List Value):=match k.aggs? with
 |some xs=>match iC xs with
  |some vs=>bif dh P fs.toList vs 0 then some vs else none
  |none=>none
 |none=>none
theorem vH{P:Program}{fs:Array Field}{k:SV}{vs:List Value}(h:keyS P fs k=some vs)(ρ:Nat→Loc):k.den ρ= .agg vs.toArray∧dh P fs.toList vs 0=true:=by
 unfold keyS at h
 split at h
 ·rename_i xs hx
  split at h
  ·rename_i ws hw
   cases hf:dh P fs.toList ws 0 with
   |false=>rw [hf]at h;cases h
   |true=>
    rw [hf]at h;injection h with h
    subst h;exact⟨by rw [SV.ep hx,dW ρ xs ws hw],hf⟩
  ·cases h
 ·cases h
def xG(P:Program)(h:HS)(kt:TypeId)(fs:Array Field)(g:Nat)(k v:SV)(K:SV→HS→Bool):Bool:=match keyS P fs k,tC v with
 |some ks,some vv=>h.M.D (P.stoodInHeld kt=false∧∃l,bH h.M.A g l∧(∀e∈l,cI (.agg ks.toArray) e.1=true)∧∀A',bH A' g (dV (.agg ks.toArray) vv l)→(∀b,b≠g→A'.blk b=h.M.A.blk b)→K (.v (.tuple #[])) (h.put A')=true)
 |_,_=>false
def putB(P:Program)(h:HS)(t:TypeId)(g:Nat)(k v:SV)(K:SV→HS→Bool):Bool:=match ty P t with
 |none=>false
 |some s=>match s.und with
  | .map kt _=>match ty P kt with
    |some sk=>match sk.und with
     | .struct fs=>xG P h kt fs g k v K
     |_=>putA P h t g k v K
    |none=>false
  |_=>false
theorem Da{P:Program}{h:HS}{t:TypeId}{g:Nat}{k v:SV}{K:SV→HS→Bool}(hk:putB P h t g k v K){ρ:Nat→Loc}{w:World}(H:aL ρ h w):
  ∃w',(Instr.mapUpdate t (.map (some g)) (k.den ρ) (v.den ρ)).run P w= .ok () w'∧cT ρ h K (.tuple #[]) w':=by
 unfold putB at hk
 split at hk
 ·exact absurd hk Bool.false_ne_true
 ·rename_i s hs
  split at hk
  ·rename_i kt et hd
   split at hk
   ·rename_i sk hsk
    split at hk
    ·rename_i fs hfs
     unfold xG at hk
     split at hk
     ·rename_i ks vv hks hvv
      obtain⟨hheld,l,⟨es,clock,hb,rfl,hlt,hnd⟩,ha,hk⟩:=(h.M.X.hD _).1 hk;obtain⟨hke,hf⟩:=vH hks ρ;have ha:∀e∈es.toList,cI (.agg ks.toArray) e.key=true:=fun e he=>ha (aP e) (List.mem_map.2 ⟨e,he,rfl⟩)
      have h3:=H.are g _ hb;have hget:(getObj g).run P w= .ok (.map es clock) w:=by simp [getObj,Sem.run,h3]
      have hcheck:∀b,(Instr.checkKey b 10000 kt (.agg ks.toArray)).run P w= .ok () w:=fun b=>lH hsk hfs hf b w
      rw [qi hvv ρ,hke];rcases mR (P:=P) hsk hfs hheld hf vv es.toList ha w with⟨h1,_,h2,_⟩|⟨j,e,h1,he,hek,_,h2,_⟩
      ·obtain⟨A',k1,k2,k3⟩:=eo H hb (.map (es.push { key:= .agg ks.toArray,val:=vv,born:=clock }) (clock+1))
       refine⟨_,?_,_,_,ρ,hk A' ⟨_,_,k1,?_,?_,?_⟩ k2,rfl,trivial,k3,Ext.refl _ _,Nat.le_refl _,Mem.cH _ _⟩
       ·simp only [Instr.mapUpdate,Sem.run_bind,aq w hs,hd,Result.andThen_ok,hget,hcheck,h1]
        simp [setObj,Sem.run,h3]
       ·rw [bB es,h2,bB];simp [aP]
       ·intro x hx
        simp only [Array.toList_push,List.mem_append,List.mem_singleton]at hx;rcases hx with hx|rfl
        ·have:=hlt x hx;omega
        ·show clock<clock+1;omega
       ·simp only [Array.toList_push,List.map_append,List.map_cons,List.map_nil]
        refine List.nodup_append.2 ⟨hnd,by simp,fun a ha' b hb'=> ?_⟩;obtain⟨x,hx,rfl⟩:=List.mem_map.1 ha';have:=hlt x hx;simp only [List.mem_singleton]at hb';omega
      ·obtain⟨A',k1,k2,k3⟩:=eo H hb (.map (es.modify j fun e=> { e with key:= .agg ks.toArray,val:=vv }) clock)
       have hmod:(es.modify j fun e=> { e with key:= .agg ks.toArray,val:=vv }).toList=es.toList.modify j fun e=> { e with key:= .agg ks.toArray,val:=vv } :=by simp
       refine⟨_,?_,_,_,ρ,hk A' ⟨_,_,k1,?_,?_,?_⟩ k2,rfl,trivial,k3,Ext.refl _ _,Nat.le_refl _,Mem.cH _ _⟩
       ·have hej:es[j]? =some e:=by simpa using he
        simp only [Instr.mapUpdate,Sem.run_bind,aq w hs,hd,Result.andThen_ok,hget,hcheck,h1,hej,Option.map_some,Option.getD_some,hek,mN hf w];simp [setObj,Sem.run,h3]
       ·rw [bB es,h2,bB,hmod]
       ·rw [hmod]
        refine oL ?_;rw [fW (fun e=> { e with key:= .agg ks.toArray,val:=vv }) (fun _=>rfl)];intro b hb';obtain⟨x,hx,rfl⟩:=List.mem_map.1 hb';exact hlt x hx
       ·rw [hmod,fW (fun e=> { e with key:= .agg ks.toArray,val:=vv }) (fun _=>rfl)]
        exact hnd
     ·exact absurd hk Bool.false_ne_true
    ·exact Db hk H
   ·exact absurd hk Bool.false_ne_true
  ·exact absurd hk Bool.false_ne_true
def delS(P:Program)(h:HS)(kt:TypeId)(fs:Array Field)(g:Nat)(k:SV)(K:SV→HS→Bool):Bool:=match keyS P fs k with
 |some ks=>h.M.D (P.stoodInHeld kt=false∧∃l,bH h.M.A g l∧(∀e∈l,cI (.agg ks.toArray) e.1=true)∧∀A',bH A' g (gp (.agg ks.toArray) l)→(∀b,b≠g→A'.blk b=h.M.A.blk b)→(∀i sk,hZ h.M.A i g l sk→hZ A' i g (gp (.agg ks.toArray) l) sk)→K (.v (.tuple #[])) (h.put A')=true)
 |none=>false
def delB(P:Program)(h:HS)(kt:TypeId)(g:Nat)(k:SV)(K:SV→HS→Bool):Bool:=match ty P kt with
 |some sk=>match sk.und with
  | .struct fs=>delS P h kt fs g k K
  |_=>delA P h kt g k K
 |none=>false
theorem wk{P:Program}{h:HS}{t kt et:TypeId}{s:STy}(hs:ty P t=some s)(hd:s.und= .map kt et){ts:List TypeId}{g:Nat}{k:SV}{K:SV→HS→Bool}(hk:delB P h kt g k K){ρ:Nat→Loc}{w:World}(H:aL ρ h w)(u:TypeId):
  ∃v w',(Builtin.delete_ (t::ts).toArray u #[.map (some g),k.den ρ]).run P w= .ok v w'∧cT ρ h K v w':=by
 have h0:(t::ts).toArray[0]? =some t:=by simp
 unfold delB at hk
 split at hk
 ·rename_i sk hsk
  split at hk
  ·rename_i fs hfs
   unfold delS at hk
   split at hk
   ·rename_i ks hks
    obtain⟨hheld,l,⟨es,clock,hb,rfl,hlt,hnd⟩,ha,hk⟩:=(h.M.X.hD _).1 hk;obtain⟨hke,hf⟩:=vH hks ρ;have ha:∀e∈es.toList,cI (.agg ks.toArray) e.key=true:=fun e he=>ha (aP e) (List.mem_map.2 ⟨e,he,rfl⟩)
    have h3:=H.are g _ hb;have hget:(getObj g).run P w= .ok (.map es clock) w:=by simp [getObj,Sem.run,h3]
    have hcheck:∀b,(Instr.checkKey b 10000 kt (.agg ks.toArray)).run P w= .ok () w:=fun b=>lH hsk hfs hf b w
    rw [hke];rcases mR (P:=P) hsk hfs hheld hf (.bool false) es.toList ha w with⟨h1,_,_,h2⟩|⟨j,e,h1,he,hek,_,_,h2⟩
    ·obtain⟨A',k1,k2,k3⟩:=eo H hb (.map es clock)
     refine⟨.tuple #[],_,?_,_,_,ρ,hk A' ⟨_,_,k1,?_,hlt,hnd⟩ k2 (fun i sk hI=> ?_),rfl,trivial,k3,Ext.refl _ _,Nat.le_refl _,Mem.cH _ _⟩
     ·simp only [Builtin.delete_,h0,List.getElem?_toArray,List.getElem?_cons_zero,List.getElem?_cons_succ,Sem.run_bind,aq w hs,hd,Result.andThen_ok,hget,hcheck,h1]
      simp [setObj,Sem.run,h3]
     ·rw [bB,h2]
     ·rw [bB,h2]
      rw [bB]at hI
      exact hI.sub fun b o hbb ho=>by
       by_cases e:b=g
       ·subst e
        rw [hb]at ho;rw [k1];exact ho
       ·rw [k2 b e];exact ho
    ·obtain⟨A',k1,k2,k3⟩:=eo H hb (.map (es.eraseIdxIfInBounds j) clock)
     have hj:j<es.size:=by
      have:=(List.getElem?_eq_some_iff.1 he).1;simpa using this
     have her:(es.eraseIdxIfInBounds j).toList=es.toList.eraseIdx j:=by simp
     have hents:gk (es.eraseIdxIfInBounds j)=gp (.agg ks.toArray) (gk es):=by rw [bB es,h2,bB,her]
     refine⟨.tuple #[],_,?_,_,_,ρ,hk A' ⟨_,_,k1,hents,fun x hx=>hlt x ?_,?_⟩ k2 (fun i sk hI=> ?_),rfl,trivial,k3,Ext.refl _ _,Nat.le_refl _,Mem.cH _ _⟩
     ·simp only [Builtin.delete_,h0,List.getElem?_toArray,List.getElem?_cons_zero,List.getElem?_cons_succ,Sem.run_bind,aq w hs,hd,Result.andThen_ok,hget,hcheck,h1]
      simp [setObj,Sem.run,h3]
     ·rw [her]at hx
      exact List.mem_of_mem_eraseIdx hx
     ·rw [her,map_eraseIdx]
      exact hnd.sublist (List.eraseIdx_sublist _ _)
     ·obtain⟨es',clock',seen,i1,i2,i3,i4,i5,i6,i7⟩:=hI
      rw [hb]at i1;injection i1 with i1
      injection i1 with i1 i1'
      subst i1;subst i1'
      have hig:i≠g:=fun e=>by rw [e,hb]at i6;cases i6
      refine⟨_,clock,seen,k1,hents,fun x hx=>hlt x ?_,?_,?_,by rw [k2 i hig];exact i6,fun x hx=>i7 x ?_⟩
      ·rw [her]at hx
       exact List.mem_of_mem_eraseIdx hx
      ·rw [her,map_eraseIdx]
       exact hnd.sublist (List.eraseIdx_sublist _ _)
      ·rw [←hents,bB,her,map_eraseIdx,map_eraseIdx]
       rw [bB]at i5;exact i5.sublist (List.eraseIdx_sublist _ _)
      ·rw [her]at hx
       exact List.mem_of_mem_eraseIdx hx
   ·exact absurd hk Bool.false_ne_true
  ·exact Ep hs hd hk H u
 ·exact absurd hk Bool.false_ne_true
def copyV(P:Program)(h:HS)(ts:List TypeId)(d x:SV)(K:SV→HS→Bool):Bool:=
 match ts with
 |dt::_=>match ty P dt with
  |some sd=>match sd.und with
   | .slice e=>match ty P e,rF x with
     |some se,some m=>match d with
      | .slc b o l _=>match dR h se.size (Nat.min m l) x,h.H.get b with
        |some nc,some (.cells cs es τ)=>bif nc.all SV.one then(match fT cs o nc with
         |some cs'=>K (.v (.int .i64 (Nat.min m l))) { h with H:=h.H.set b (.cells cs' es τ) }
         |none=>false)else false
        |_,_=>false
      | .v (.slice none 0 0)=>K (.v (.int .i64 0)) h
      | .v (.slice (some ⟨g,o,none⟩) l _)=>h.M.D (∃ys:List Value,xi h se.size (Nat.min m l) x=some ys∧(∀v∈ys,v.oneCell'=true)∧h.M.A.Room g o ys.length∧∀A',h.M.A.Put A' g o ys→K (.v (.int .i64 (Nat.min m l))) (h.put A')=true)
      |_=>false
     |_,_=>false
   |_=>false
  |none=>false
 | []=>false
theorem BP{P:Program}{h:HS}{ts:List TypeId}{d x:SV}{K:SV→HS→Bool}(hk:copyV P h ts d x K){ρ:Nat→Loc}{w:World}(H:aL ρ h w)(u:TypeId):
  ∃v w',(Builtin.copy_ ts.toArray u #[d.den ρ,x.den ρ]).run P w= .ok v w'∧cT ρ h K v w':=by
 unfold copyV at hk
 split at hk
 ·rename_i dt ts'
  split at hk
  ·rename_i sd hsd
   split at hk
   ·rename_i e hd
    split at hk
    ·rename_i se m hse hm
     have hlx:=qC (P:=P) hm ρ w;have h0:(dt::ts').toArray[0]? =some dt:=by simp
     split at hk
     ·rename_i b o l c
      split at hk
      ·rename_i nc cs es τ hnc hb
       cases hone:nc.all SV.one with
       |false=>rw [hone]at hk;exact absurd hk Bool.false_ne_true
       |true=>
        rw [hone]at hk;simp only [cond_true]at hk
        split at hk
        ·rename_i cs' hov
         unfold fT at hov
         cases hble:Nat.ble (o+nc.length) cs.length with
         |false=>rw [hble]at hov;cases hov
         |true=>
          rw [hble]at hov;injection hov with hov;subst hov
          obtain⟨w',k1,k2⟩:=ik (P:=P) H hb (Nat.le_of_ble_eq_true hble) (List.all_eq_true.1 hone) (jX hnc H)
          have hfc:(Builtin.firstCells se.size (Nat.min m l) (x.den ρ)).run P w= .ok (nc.map (SV.den ρ)).toArray w:=by
           rcases jn (P:=P) hnc H with⟨h,_⟩|⟨_,_,_,_,h⟩<;>exact h
          refine⟨goInt (Nat.min m l),w',?_,_,_,ρ,hk,rfl,trivial,k2,Ext.refl _ _,Nat.le_refl _,Mem.le_refl _⟩;simp only [Builtin.copy_,h0,List.getElem?_toArray,List.getElem?_cons_zero,List.getElem?_cons_succ,Sem.run_bind,aq w hsd,hd,Result.andThen_ok,hlx,bp w hse,SV.den,hfc,k1,Sem.run_pure]
        ·exact absurd hk Bool.false_ne_true
      ·exact absurd hk Bool.false_ne_true
     ·refine⟨goInt 0,w,?_,_,_,ρ,hk,rfl,trivial,H,Ext.refl _ _,Nat.le_refl _,Mem.le_refl _⟩
      have hz:∃c,(Builtin.firstCells se.size 0 (x.den ρ)).run P w= .ok c w:=by
       unfold rF at hm
       split at hm
       ·exact⟨_,by simp only [Builtin.firstCells,SV.den,Nat.zero_mul,loadCells,loadCellsFrom];rfl⟩
       ·rename_i a l' c'
        cases a with
        |none=>exact⟨_,rfl⟩
        |some a=>exact⟨_,by simp only [Builtin.firstCells,SV.den,Nat.zero_mul,loadCells,loadCellsFrom];rfl⟩
       ·simp only [Option.map_eq_some_iff]at hm
        obtain⟨l',hl',_⟩:=hm;rw [SV.bF hl'];exact⟨_,rfl⟩
      obtain⟨c,hc⟩:=hz;simp only [Builtin.copy_,h0,List.getElem?_toArray,List.getElem?_cons_zero,List.getElem?_cons_succ,Sem.run_bind,aq w hsd,hd,Result.andThen_ok,hlx,bp w hse,SV.den,Nat.min_zero,hc,Sem.run_pure];rfl
     ·rename_i g o l c
      obtain⟨ys,hys,hone,hroom,hk⟩:=(h.M.X.hD _).1 hk;have hfc:(Builtin.firstCells se.size (Nat.min m l) (x.den ρ)).run P w= .ok ys.toArray w:=pS (P:=P) hys H w.drawn;obtain⟨w',A',k1,k2,k3⟩:=oe (P:=P) H hroom hone;refine⟨goInt (Nat.min m l),w',?_,_,_,ρ,hk A' k2,rfl,trivial,k3,Ext.refl _ _,Nat.le_refl _,Mem.cH _ _⟩;simp only [Builtin.copy_,h0,List.getElem?_toArray,List.getElem?_cons_zero,List.getElem?_cons_succ,Sem.run_bind,aq w hsd,hd,Result.andThen_ok,hlx,bp w hse,SV.den,hfc,k1,Sem.run_pure]
     ·exact absurd hk Bool.false_ne_true
    ·exact absurd hk Bool.false_ne_true
   ·exact absurd hk Bool.false_ne_true
  ·exact absurd hk Bool.false_ne_true
 ·exact absurd hk Bool.false_ne_true
def qE(d:TypeDesc)(x y:SV):Option Bool:=
 match d with
 | .int _=>match x.int?,y.int? with
   |some (k,a),some (k',b)=>bif kEq k k' then some (decide (a=b))else none
   |_,_=>none
 | .string=>match x.str?,y.str? with
   |some l,some m=>some (jU l m)
   |_,_=>none
 | .bool=>match x,y with
   | .v (.bool a),.v (.bool b)=>some (a==b)
   |_,_=>none
 |_=>none
theorem sG{d:TypeDesc}{x y:SV}{r:Bool}(h:qE d x y=some r)(ρ:Nat→Loc):Instr.sameNow d (x.den ρ) (y.den ρ)=some r:=by
 unfold qE at h
 split at h
 ·split at h
  ·rename_i k a k' b hx hy
   cases hk:kEq k k' with
   |false=>rw [hk]at h;cases h
   |true=>
    rw [hk]at h;injection h with h;subst h
    have:=ix.1 hk;subst this;rw [SV.bm hx,SV.bm hy];simp only [Instr.sameNow,if_true];rfl
  ·cases h
 ·split at h
  ·rename_i l m hl hm
   injection h with h;subst h
   rw [SV.bF hl,SV.bF hm];simp only [Instr.sameNow,iB];rw [beq_toListBytes,ByteArray.toList_eq,ByteArray.toList_eq]
  ·cases h
 ·split at h
  ·injection h with h;subst h;rfl
  ·cases h
 ·cases h
def oQ(d:TypeDesc)(k:SV):List (SV×SV×Nat)→Nat→Option (Option (Nat×SV))
 | [],_=>some none
 |e::es,i=>match qE d k e.1 with
  |some true=>some (some (i,e.2.1))
  |some false=>oQ d k es (i+1)
  |none=>none
theorem nU{d:TypeDesc}{k:SV}{ρ:Nat→Loc} :∀(es:List (SV×SV×Nat)) (i:Nat) (r:Option (Nat×SV)),oQ d k es i=some r→
  Instr.findNow d (k.den ρ) (es.map (aQ ρ)) i=some (r.map fun(j,x)=>(j,x.den ρ))∧(∀j x,r=some (j,x)→i≤j∧∃e,es[j-i]? =some e∧e.2.1=x∧qE d k e.1=some true):=by
 intro es
 induction es with
 |nil=>intro i r h;simp only [oQ,Option.some.injEq]at h;subst h;exact⟨rfl,fun _ _ h=>by cases h⟩
 |cons e es ih=>
  intro i r h;simp only [oQ]at h
  split at h
  ·rename_i he
   injection h with h;subst h
   refine⟨by simp [Instr.findNow,aQ,sG he ρ],fun j x hj=> ?_⟩;injection hj with hj;injection hj with h1 h2;subst h1;subst h2
   exact⟨Nat.le_refl _,e,by simp,rfl,he⟩
  ·rename_i he
   obtain⟨k1,k2⟩:=ih _ _ h;refine⟨by simp only [List.map_cons,Instr.findNow];rw [show(aQ ρ e).key=e.1.den ρ from rfl,sG he ρ];exact k1,fun j x hj=> ?_⟩;obtain⟨h1,e',h2,h3,h4⟩:=k2 j x hj;refine⟨by omega,e',?_,h3,h4⟩;rw [show j-i=(j-(i+1))+1 by omega];simpa using h2
  ·cases h
theorem dZ{P:Program}{t:TypeId}{s:STy}(hs:ty P t=some s){k:SV}{es:List (SV×SV×Nat)}{r:Option (Nat×SV)}(h:oQ s.und k es 0=some r)(ρ:Nat→Loc)(w:World):
  (Instr.findKey t (k.den ρ) (es.map (aQ ρ))).run P w= .ok (r.map fun(j,x)=>(j,x.den ρ)) w:=by
 simp only [Instr.findKey,Sem.run_bind,aq w hs,Result.andThen_ok,(nU (ρ:=ρ) es 0 r h).1,Sem.run_pure]
def ya(P:Program)(h:HS)(t:TypeId)(x k:SV)(ok:Bool):Option SV:=
 match ty P t with
 |none=>none
 |some s=>match s.und with
  | .map kt et=>match ty P kt,ty P et with
    |some sk,some se=>bif !(plainKey sk.und)then none else
     let out (r:SV×Bool):SV:=bif ok then .tup [r.1,.v (.bool r.2)]else r.1
     match x with
     | .v (.map none)=>some (out (uH se.zero,false))
     | .mp b=>match h.H.get b with
       |some (.map es _)=>match oQ sk.und k es 0 with
        |some (some (_,v))=>some (out (v,true))
        |some none=>some (out (uH se.zero,false))
        |none=>none
       |_=>none
     |_=>none
    |_,_=>none
  |_=>none
theorem x9{P:Program}{h:HS}{t:TypeId}{x k z:SV}{ok:Bool}(hz:ya P h t x k ok=some z){ρ:Nat→Loc}{w:World}(H:aL ρ h w):
  (Instr.lookup t (x.den ρ) (k.den ρ) ok).run P w= .ok (z.den ρ) w∧z.lt ρ h.nx:=by
 unfold ya at hz
 split at hz
 ·cases hz
 ·rename_i s hs
  split at hz
  ·rename_i kt et hd
   split at hz
   ·rename_i sk se hsk hse
    cases hp:plainKey sk.und with
    |false=>rw [hp]at hz;simp at hz
    |true=>
     rw [hp]at hz;simp only [Bool.not_true,cond_false]at hz;have hcheck:∀b v,(Instr.checkKey b 10000 kt v).run P w= .ok () w:=fun b v=>dD hsk hp b 9999 v w
     split at hz
     ·injection hz with hz;subst hz
      simp only [Instr.lookup,Sem.run_bind,aq w hs,hd,Result.andThen_ok,SV.den,Sem.run_pure,hcheck];have:=dZ (P:=P) hsk (k:=k) (es:= []) (r:=none) rfl ρ w;simp only [List.map_nil,Option.map_none]at this;rw [this];simp only [Result.andThen_ok,Sem.run_bind,cu w hse,Sem.run_pure]
      cases ok
      ·exact⟨by simp [iP],kU _ _ _⟩
      ·exact⟨by simp [SV.den,SV.gC,iP],kU _ _ _,trivial,trivial⟩
     ·rename_i b
      split at hz
      ·rename_i es clock hb
       obtain⟨_,h2,h3⟩:=H.blk b _ hb;have h3:w.heap[(ρ b).blk]? =some (.map (es.map (aQ ρ)).toArray clock):=h3;have hget:(getObj (ρ b).blk).run P w= .ok (.map (es.map (aQ ρ)).toArray clock) w:=by simp [getObj,Sem.run,h3]
       split at hz
       ·rename_i j v hf
        injection hz with hz;subst hz
        simp only [Instr.lookup,Sem.run_bind,aq w hs,hd,Result.andThen_ok,SV.den,hget,Sem.run_pure,hcheck];rw [dZ (P:=P) hsk hf ρ w]
        have hv:v.lt ρ h.nx:=by
         obtain⟨_,e,he,hev,_⟩:=(nU (ρ:=ρ) es 0 _ hf).2 j v rfl;rw [←hev];exact(h2 e (List.mem_of_getElem? he)).2
        cases ok
        ·exact⟨by simp,hv⟩
        ·exact⟨by simp [SV.den,SV.gC],hv,trivial,trivial⟩
       ·rename_i hf
        injection hz with hz;subst hz
        simp only [Instr.lookup,Sem.run_bind,aq w hs,hd,Result.andThen_ok,SV.den,hget,Sem.run_pure,hcheck];rw [dZ (P:=P) hsk hf ρ w];simp only [Option.map_none,Result.andThen_ok,Sem.run_bind,cu w hse,Sem.run_pure]
        cases ok
        ·exact⟨by simp [iP],kU _ _ _⟩
        ·exact⟨by simp [SV.den,SV.gC,iP],kU _ _ _,trivial,trivial⟩
       ·cases hz
      ·cases hz
     ·cases hz
   ·cases hz
  ·cases hz
def mK(P:Program)(h:HS)(t:TypeId)(x k:SV)(ok:Bool):Option SV:=match x with
 | .v (.map (some g))=>bif h.M.X.op then zv P h t g k ok else none
 |x=>ya P h t x k ok
theorem Be{P:Program}{h:HS}{t:TypeId}{x k z:SV}{ok:Bool}(hz:mK P h t x k ok=some z){ρ:Nat→Loc}{w:World}(H:aL ρ h w):
  (Instr.lookup t (x.den ρ) (k.den ρ) ok).run P w= .ok (z.den ρ) w∧z.lt ρ h.nx:=by
 unfold mK at hz
 split at hz
 ·cases hop:h.M.X.op with
  |true=>
   rw [hop]at hz;exact Bf hz H
  |false=>rw [hop]at hz;cases hz
 ·exact x9 hz H
theorem kP{P:Program}{ρ:Nat→Loc}{h:HS}{w:World}(H:aL ρ h w){b clock clock':Nat}{es es':List (SV×SV×Nat)}(hb:h.H.get b=some (.map es clock))(hlt:∀e∈es',e.1.lt ρ h.nx∧e.2.1.lt ρ h.nx):
  ∃w',(setObj (ρ b).blk (.map (es'.map (aQ ρ)).toArray clock')).run P w= .ok () w'∧aL ρ { h with H:=h.H.set b (.map es' clock') } w':=by
 obtain⟨_,h2,h3⟩:=H.blk b _ hb;have h3:w.heap[(ρ b).blk]? =some (.map (es.map (aQ ρ)).toArray clock):=h3;refine⟨{ w with heap:=w.heap.setIfInBounds (ρ b).blk (.map (es'.map (aQ ρ)).toArray clock') },by simp [setObj,Sem.run,h3],H.write hb hlt ?_ (fun k hk=> ?_) rfl rfl rfl⟩
 ·show(w.heap.setIfInBounds (ρ b).blk _)[(ρ b).blk]? =_
  rw [Array.getElem?_setIfInBounds_self,if_pos (Array.getElem?_eq_some_iff.1 h3).1]
 ·show(w.heap.setIfInBounds (ρ b).blk _)[k]? =_
  rw [Array.getElem?_setIfInBounds_ne (Ne.symm hk)]
theorem yi{d:TypeDesc}{x y:SV}(h:qE d x y=some true)(ρ:Nat→Loc):x.den ρ=y.den ρ:=by
 unfold qE at h
 split at h
 ·split at h
  ·rename_i k a k' b hx hy
   cases hk:kEq k k' with
   |false=>rw [hk]at h;cases h
   |true=>
    rw [hk]at h;injection h with h
    rw [SV.bm hx,SV.bm hy,ix.1 hk,of_decide_eq_true h]
  ·cases h
 ·split at h
  ·rename_i l m hl hm
   injection h with h
   rw [iB]at h;rw [SV.bF hl,SV.bF hm,eq_of_beq h]
  ·cases h
 ·split at h
  ·injection h with h
   rw [eq_of_beq h]
  ·cases h
 ·cases h
def jq(es:List (SV×SV×Nat))(i:Nat)(k v:SV):List (SV×SV×Nat):=
 match es,i with
 | [],_=> []
 |e::es,0=>(k,v,e.2.2)::es
 |e::es,i+1=>e::jq es i k v
theorem p7(ρ:Nat→Loc)(k v:SV):∀(es:List (SV×SV×Nat)) (i:Nat),(jq es i k v).map (aQ ρ)=(es.map (aQ ρ)).modify i fun e=> { e with key:=k.den ρ,val:=v.den ρ }
 | [],i=>by cases i<;>rfl
 |e::es,0=>rfl
 |e::es,i+1=>by simp only [jq,List.map_cons,List.modify_succ_cons,p7 ρ k v es i]
theorem rX{ρ:Nat→Loc}{n:Nat}{k v:SV}(hk:k.lt ρ n)(hv:v.lt ρ n):∀(es:List (SV×SV×Nat)) (i:Nat),(∀e∈es,e.1.lt ρ n∧e.2.1.lt ρ n)→∀e∈jq es i k v,e.1.lt ρ n∧e.2.1.lt ρ n
 | [],_,_,e,he=>by simp [jq]at he
 |e0::es,0,h,e,he=>by
  simp only [jq,List.mem_cons]at he;rcases he with rfl|he
  ·exact⟨hk,hv⟩
  ·exact h e (List.mem_cons_of_mem _ he)
 |e0::es,i+1,h,e,he=>by
  simp only [jq,List.mem_cons]at he;rcases he with rfl|he
  ·exact h _ List.mem_cons_self
  ·exact rX hk hv es i (fun e he=>h e (List.mem_cons_of_mem _ he)) e he
def CZ(P:Program)(h:HS)(t:TypeId)(m k v:SV)(K:SV→HS→Bool):Bool:=
 match ty P t with
 |none=>false
 |some s=>match s.und,m with
  | .map kt _,.mp b=>match ty P kt,h.H.get b with
    |some sk,some (.map es clock)=>bif !(plainKey sk.und)then false else
     match oQ sk.und k es 0 with
     |some (some (i,_))=>K (.v (.tuple #[])) { h with H:=h.H.set b (.map (jq es i k v) clock) }
     |some none=>K (.v (.tuple #[])) { h with H:=h.H.set b (.map (es++ [(k,v,clock)]) (clock+1)) }
     |none=>false
    |_,_=>false
  |_,_=>false
theorem AE{P:Program}{h:HS}{t:TypeId}{m k v:SV}{K:SV→HS→Bool}(hk:CZ P h t m k v K){ρ:Nat→Loc}{w:World}(H:aL ρ h w)(hkl:k.lt ρ h.nx)(hvl:v.lt ρ h.nx):
  ∃w',(Instr.mapUpdate t (m.den ρ) (k.den ρ) (v.den ρ)).run P w= .ok () w'∧cT ρ h K (.tuple #[]) w':=by
 unfold CZ at hk
 split at hk
 ·exact absurd hk Bool.false_ne_true
 ·rename_i s hs
  split at hk
  ·rename_i kt et b hd
   split at hk
   ·rename_i sk es clock hsk hb
    cases hp:plainKey sk.und with
    |false=>rw [hp]at hk;exact absurd hk Bool.false_ne_true
    |true=>
     rw [hp]at hk;simp only [Bool.not_true,cond_false]at hk;have hcheck:∀b v,(Instr.checkKey b 10000 kt v).run P w= .ok () w:=fun b v=>dD hsk hp b 9999 v w
     obtain⟨_,h2,h3⟩:=H.blk b _ hb;have h3:w.heap[(ρ b).blk]? =some (.map (es.map (aQ ρ)).toArray clock):=h3;have hget:(getObj (ρ b).blk).run P w= .ok (.map (es.map (aQ ρ)).toArray clock) w:=by simp [getObj,Sem.run,h3]
     split at hk
     ·rename_i i x hf
      obtain⟨_,e,he,hev,hke⟩:=(nU (ρ:=ρ) es 0 _ hf).2 i x rfl;obtain⟨w',k1,k2⟩:=kP (P:=P) H hb (rX hkl hvl es i h2) (clock':=clock);refine⟨w',?_,_,_,ρ,hk,rfl,trivial,k2,Ext.refl _ _,Nat.le_refl _,Mem.le_refl _⟩;have hfk:=dZ (P:=P) hsk hf ρ w
      have hi:((es.map (aQ ρ)).toArray)[i]? =some (aQ ρ e):=by
       have:es[i]? =some e:=by simpa using he
       simp [this]
      have hstay:∀x:Value,(∃k n,x= .int k n)∨(∃s,x= .string s)∨(∃b,x= .bool b)→(Instr.keyThatStays x x).run P w= .ok x w:=by
       intro x hx
       have:Instr.sameBits 10000 x x=true:=by
        rcases hx with⟨k,n,rfl⟩|⟨s,rfl⟩|⟨b,rfl⟩
        ·simp [Instr.sameBits]
        ·simp only [Instr.sameBits];rw [beq_toListBytes];simp
        ·simp [Instr.sameBits]
       simp [Instr.keyThatStays,this]
      have hshape:(∃k' n,k.den ρ= .int k' n)∨(∃s,k.den ρ= .string s)∨(∃b,k.den ρ= .bool b):=by
       unfold qE at hke
       split at hke
       ·split at hke
        ·rename_i k' a _ _ hx _;exact .inl ⟨_,_,SV.bm hx⟩
        ·cases hke
       ·split at hke
        ·rename_i l _ hl _;exact .inr (.inl ⟨_,SV.bF hl⟩)
        ·cases hke
       ·split at hke
        ·exact .inr (.inr ⟨_,rfl⟩)
        ·cases hke
       ·cases hke
      have hmod:(es.map (aQ ρ)).toArray.modify i (fun e=> { e with key:=k.den ρ,val:=v.den ρ })=((jq es i k v).map (aQ ρ)).toArray:=by
       rw [p7];simp
      simp only [Instr.mapUpdate,Sem.run_bind,aq w hs,hd,Result.andThen_ok,SV.den,hget,hcheck,hfk,Option.map_some,hi,Option.getD_some];rw [show(aQ ρ e).key=k.den ρ from(yi hke ρ).symm,hstay _ hshape];simp only [Result.andThen_ok,hmod];exact k1
     ·rename_i hf
      obtain⟨w',k1,k2⟩:=kP (P:=P) H hb (es':=es++ [(k,v,clock)]) (clock':=clock+1) (fun e he=>by
       rcases List.mem_append.1 he with he|he
       ·exact h2 e he
       ·rw [List.mem_singleton]at he;subst he;exact⟨hkl,hvl⟩)
      refine⟨w',?_,_,_,ρ,hk,rfl,trivial,k2,Ext.refl _ _,Nat.le_refl _,Mem.le_refl _⟩;have hfk:=dZ (P:=P) hsk hf ρ w;simp only [Instr.mapUpdate,Sem.run_bind,aq w hs,hd,Result.andThen_ok,SV.den,hget,hcheck,hfk,Option.map_none];have:(es.map (aQ ρ)).toArray.push { key:=k.den ρ,val:=v.den ρ,born:=clock } =((es++ [(k,v,clock)]).map (aQ ρ)).toArray:=by simp [aQ]
      rw [this];exact k1
     ·exact absurd hk Bool.false_ne_true
   ·exact absurd hk Bool.false_ne_true
  ·exact absurd hk Bool.false_ne_true
def C9(P:Program)(h:HS)(t:TypeId)(m k v:SV)(K:SV→HS→Bool):Bool:=match m with
 | .v (.map (some g))=>bif h.M.X.op then putB P h t g k v K else false
 |m=>CZ P h t m k v K
theorem uW{P:Program}{h:HS}{t:TypeId}{m k v:SV}{K:SV→HS→Bool}(hk:C9 P h t m k v K){ρ:Nat→Loc}{w:World}(H:aL ρ h w)(hkl:k.lt ρ h.nx)(hvl:v.lt ρ h.nx):
  ∃w',(Instr.mapUpdate t (m.den ρ) (k.den ρ) (v.den ρ)).run P w= .ok () w'∧cT ρ h K (.tuple #[]) w':=by
 unfold C9 at hk
 split at hk
 ·cases hop:h.M.X.op with
  |true=>
   rw [hop]at hk;exact Da hk H
  |false=>rw [hop]at hk;exact absurd hk Bool.false_ne_true
 ·exact AE hk H hkl hvl
def delN(P:Program)(h:HS)(kt:TypeId)(m k:SV)(K:SV→HS→Bool):Bool:=match m with
 | .v (.map (some g))=>bif h.M.X.op then delB P h kt g k K else false
 |_=>false
def delV(P:Program)(h:HS)(ts:List TypeId)(m k:SV)(K:SV→HS→Bool):Bool:=
 match ts with
 |t::_=>match ty P t with
  |none=>false
  |some s=>match s.und with
   | .map kt _=>match ty P kt with
     |some sk=>bif !(plainKey sk.und)then delN P h kt m k K else
      match m with
      | .v (.map none)=>K (.v (.tuple #[])) h
      | .v (.map (some g))=>bif h.M.X.op then delB P h kt g k K else false
      | .mp b=>match h.H.get b with
        |some (.map es clock)=>match oQ sk.und k es 0 with
         |some (some (i,_))=>K (.v (.tuple #[])) { h with H:=h.H.set b (.map (es.eraseIdx i) clock) }
         |some none=>K (.v (.tuple #[])) { h with H:=h.H.set b (.map es clock) }
         |none=>false
        |_=>false
      |_=>false
     |none=>false
   |_=>false
 | []=>false
theorem Eo{P:Program}{h:HS}{ts:List TypeId}{m k:SV}{K:SV→HS→Bool}(hk:delV P h ts m k K){ρ:Nat→Loc}{w:World}(H:aL ρ h w)(u:TypeId):
  ∃v w',(Builtin.delete_ ts.toArray u #[m.den ρ,k.den ρ]).run P w= .ok v w'∧cT ρ h K v w':=by
 unfold delV at hk
 split at hk
 ·rename_i t ts'
  have h0:(t::ts').toArray[0]? =some t:=by simp
  split at hk
  ·exact absurd hk Bool.false_ne_true
  ·rename_i s hs
   split at hk
   ·rename_i kt et hd
    split at hk
    ·rename_i sk hsk
     cases hp:plainKey sk.und with
     |false=>
      rw [hp]at hk;have hk:delN P h kt m k K:=hk;unfold delN at hk
      split at hk
      ·rename_i g
       cases hop:h.M.X.op with
       |true=>
        rw [hop]at hk;exact wk hs hd hk H u
       |false=>rw [hop]at hk;exact absurd hk Bool.false_ne_true
      ·exact absurd hk Bool.false_ne_true
     |true=>
      rw [hp]at hk;simp only [Bool.not_true,cond_false]at hk;have hcheck:∀b v,(Instr.checkKey b 10000 kt v).run P w= .ok () w:=fun b v=>dD hsk hp b 9999 v w
      split at hk
      ·refine⟨.tuple #[],w,?_,_,_,ρ,hk,rfl,trivial,H,Ext.refl _ _,Nat.le_refl _,Mem.le_refl _⟩
       simp only [Builtin.delete_,h0,List.getElem?_toArray,List.getElem?_cons_zero,List.getElem?_cons_succ,Sem.run_bind,aq w hs,hd,Result.andThen_ok,SV.den,hcheck,Sem.run_pure]
      ·rename_i g
       cases hop:h.M.X.op with
       |true=>
        rw [hop]at hk;exact wk hs hd hk H u
       |false=>rw [hop]at hk;exact absurd hk Bool.false_ne_true
      ·rename_i b
       split at hk
       ·rename_i es clock hb
        obtain⟨_,h2,h3⟩:=H.blk b _ hb;have h3:w.heap[(ρ b).blk]? =some (.map (es.map (aQ ρ)).toArray clock):=h3;have hget:(getObj (ρ b).blk).run P w= .ok (.map (es.map (aQ ρ)).toArray clock) w:=by simp [getObj,Sem.run,h3]
        split at hk
        ·rename_i i x hf
         obtain⟨w',k1,k2⟩:=kP (P:=P) H hb (es':=es.eraseIdx i) (clock':=clock) (fun e he=>h2 e (List.mem_of_mem_eraseIdx he));refine⟨.tuple #[],w',?_,_,_,ρ,hk,rfl,trivial,k2,Ext.refl _ _,Nat.le_refl _,Mem.le_refl _⟩;have hfk:=dZ (P:=P) hsk hf ρ w;simp only [Builtin.delete_,h0,List.getElem?_toArray,List.getElem?_cons_zero,List.getElem?_cons_succ,Sem.run_bind,aq w hs,hd,Result.andThen_ok,SV.den,hget,hcheck,hfk,Option.map_some]
         have:(es.map (aQ ρ)).toArray.eraseIdxIfInBounds i=((es.eraseIdx i).map (aQ ρ)).toArray:=by
          apply Array.toList_inj.1;rw [map_eraseIdx];simp
         rw [this,k1];rfl
        ·rename_i hf
         obtain⟨w',k1,k2⟩:=kP (P:=P) H hb (es':=es) (clock':=clock) h2;refine⟨.tuple #[],w',?_,_,_,ρ,hk,rfl,trivial,k2,Ext.refl _ _,Nat.le_refl _,Mem.le_refl _⟩;have hfk:=dZ (P:=P) hsk hf ρ w;simp only [Builtin.delete_,h0,List.getElem?_toArray,List.getElem?_cons_zero,List.getElem?_cons_succ,Sem.run_bind,aq w hs,hd,Result.andThen_ok,SV.den,hget,hcheck,hfk,Option.map_none];rw [k1];rfl
        ·exact absurd hk Bool.false_ne_true
       ·exact absurd hk Bool.false_ne_true
      ·exact absurd hk Bool.false_ne_true
    ·exact absurd hk Bool.false_ne_true
   ·exact absurd hk Bool.false_ne_true
 ·exact absurd hk Bool.false_ne_true
def tx(P:Program)(h:HS)(t:TypeId)(x:SV)(K:SV→HS→Bool):Bool:=
 match ty P t with
 |none=>false
 |some s=>match s.und with
  | .string=>match x.str? with
    |some l=>K (.ptr h.nx 0) (h.new (.siter l 0))
    |none=>false
  | .map _ _=>match x with
    | .mp b=>match h.H.get b with
      |some (.map _ clock)=>K (.ptr h.nx 0) (h.new (.miter b clock [] clock))
      |_=>false
    | .v (.map (some g))=>bif h.M.X.op then CX h g K else false
    | .v (.map none)=>bif h.M.X.op then CW h K else false
    |_=>false
  |_=>false
theorem xC{P:Program}{h:HS}{t:TypeId}{x:SV}{K:SV→HS→Bool}(hk:tx P h t x K){ρ:Nat→Loc}{w:World}(H:aL ρ h w):
  ∃v w',(Instr.range t (x.den ρ)).run P w= .ok v w'∧cT ρ h K v w':=by
 unfold tx at hk
 split at hk
 ·exact absurd hk Bool.false_ne_true
 ·rename_i s hs
  split at hk
  ·rename_i hd
   split at hk
   ·rename_i l hl
    refine⟨.pointer (some ⟨w.heap.size,0,none⟩), { w with heap:=w.heap.push (.stringIter ⟨l.toArray⟩ 0) },?_,_,_,extend ρ h.nx ⟨w.heap.size,0,0⟩,hk,?_,Nat.lt_succ_self _,?_,aS _ _ _,Nat.le_succ _,Mem.le_refl _⟩
    ·rw [SV.bF hl]
     simp [Instr.range,aq w hs,hd]
    ·simp [SV.den,bb]
    ·exact H.alloc (o:= .stringIter ⟨l.toArray⟩ 0) (B:= .siter l 0) (L:=⟨w.heap.size,0,0⟩) rfl trivial fun w' hw'=>⟨rfl,hw'⟩
   ·exact absurd hk Bool.false_ne_true
  ·rename_i kt et hd
   split at hk
   ·rename_i b
    split at hk
    ·rename_i es clock hb
     obtain⟨hbn,h2,h3⟩:=H.blk b _ hb;have h3:w.heap[(ρ b).blk]? =some (.map (es.map (aQ ρ)).toArray clock):=h3;have hget:(getObj (ρ b).blk).run P w= .ok (.map (es.map (aQ ρ)).toArray clock) w:=by simp [getObj,Sem.run,h3]
     refine⟨.pointer (some ⟨w.heap.size,0,none⟩), { w with heap:=w.heap.push (.mapIter (some (ρ b).blk) clock #[] clock) },?_,_,_,extend ρ h.nx ⟨w.heap.size,0,0⟩,hk,?_,Nat.lt_succ_self _,?_,aS _ _ _,Nat.le_succ _,Mem.le_refl _⟩
     ·simp [Instr.range,aq w hs,hd,SV.den,hget]
     ·simp [SV.den,bb]
     ·exact H.alloc (o:= .mapIter (some (ρ b).blk) clock #[] clock) (B:= .miter b clock [] clock) (L:=⟨w.heap.size,0,0⟩) rfl hbn fun w' hw'=>⟨rfl,hw'⟩
    ·exact absurd hk Bool.false_ne_true
   ·rename_i g
    cases hop:h.M.X.op with
    |true=>
     rw [hop]at hk;exact xE hs hd hk H
    |false=>rw [hop]at hk;exact absurd hk Bool.false_ne_true
   ·cases hop:h.M.X.op with
    |true=>
     rw [hop]at hk;exact xD hs hd hk H
    |false=>rw [hop]at hk;exact absurd hk Bool.false_ne_true
   ·exact absurd hk Bool.false_ne_true
  ·exact absurd hk Bool.false_ne_true
def DE(k:Nat):List Nat→Bool
 | []=>false
 |x::xs=>bif Nat.beq x k then true else DE k xs
theorem memN_eq(k:Nat)(l:List Nat):DE k l=l.contains k:=by
 induction l with
 |nil=>rfl
 |cons x xs ih=>
  simp only [DE,ih,List.contains_cons]
  have:Nat.beq x k=(k==x):=by
   cases hb:Nat.beq x k with
   |true=>have:=Nat.eq_of_beq_eq_true hb;subst this;simp
   |false=>
    have:k≠x:=fun e=>by subst e;rw [Nat.beq_refl]at hb;cases hb
    simp [this]
  rw [this]
  cases (k==x)<;>rfl
def fq(seen:List Nat)(es:List (SV×SV×Nat)):List (SV×SV×Nat):=es.filter fun e=> !DE e.2.2 seen
def oldV(since:Nat)(es:List (SV×SV×Nat)):List (SV×SV×Nat):=es.filter fun e=>Nat.blt e.2.2 since
def newV(since:Nat)(es:List (SV×SV×Nat)):List (SV×SV×Nat):=es.filter fun e=>Nat.ble since e.2.2
def fV(since:Nat)(left:List (SV×SV×Nat)):List (Option (SV×SV×Nat)):=
 match oldV since left with
 | []=>none::(newV since left).map some
 |e::es=>(e::es++newV since left).map some
def allP{α:Type}(F:α→Bool):List α→Bool
 | []=>true
 |x::xs=>match xs with
  | []=>F x
  |_::_=>bif F x then allP F xs else false
theorem EW{α:Type}{F:α→Bool} :∀ {l:List α},allP F l→∀x∈l,F x:=by
 intro l
 induction l with
 |nil=>intro _ x hx;cases hx
 |cons y l ih=>
  intro h x hx
  cases l with
  |nil=>
   have:x=y:=by simpa using hx
   subst this;exact h
  |cons z l=>
   have h:(bif F y then allP F (z::l)else false)=true:=h
   cases hy:F y with
   |false=>rw [hy]at h;cases h
   |true=>
    rw [hy]at h;rcases List.mem_cons.1 hx with rfl|hx
    ·exact hy
    ·exact ih h x hx
def D4(seen:List Nat)(last:Nat)(es:List (SV×SV×Nat)):Bool:= !seen.isEmpty&& !es.isEmpty&&es.all fun e=>Nat.ble last e.2.2
def stepM(h:HS)(b m since clock:Nat)(seen:List Nat)(K:SV→HS→Bool):Option (SV×SV×Nat)→Bool
 |some e=>K (.tup [.v (.bool true),e.1,e.2.1]) { h with H:=h.H.set b (.miter m since (seen++ [e.2.2]) clock) }
 |none=>K (.v (.tuple #[.bool false])) h
def Dv(h:HS)(b m since last:Nat)(seen:List Nat)(K:SV→HS→Bool):Bool:=
 match h.H.get m with
 |some (.map es clock)=>bif D4 seen last es then false else allP (stepM h b m since clock seen K) (fV since (fq seen es))
 |_=>false
theorem BY{ρ:Nat→Loc}{es:List (SV×SV×Nat)}{seen:List Nat}{since:Nat} :
  (((if (((es.map (aQ ρ)).toArray.filter fun e=> !seen.toArray.contains e.born).filter (·.born<since)).isEmpty then #[none]else #[])++
    ((((es.map (aQ ρ)).toArray.filter fun e=> !seen.toArray.contains e.born).filter (·.born<since))++
     (((es.map (aQ ρ)).toArray.filter fun e=> !seen.toArray.contains e.born).filter (·.born≥since))).map some):Array (Option MapEntry))=
    ((fV since (fq seen es)).map (Option.map (aQ ρ))).toArray:=by
 have h1:(es.map (aQ ρ)).toArray.filter (fun e=> !seen.toArray.contains e.born)=((fq seen es).map (aQ ρ)).toArray:=by
  rw [List.filter_toArray,fq,List.filter_map];congr 2;apply List.filter_congr;intro e _;rw [Bool.eq_iff_iff];simp [aQ,memN_eq];exact decide_eq_false_iff_not
 have h2:∀l:List (SV×SV×Nat),(l.map (aQ ρ)).toArray.filter (fun e=>decide (e.born<since))=((oldV since l).map (aQ ρ)).toArray:=by
  intro l;rw [List.filter_toArray,oldV,List.filter_map];congr 2;apply List.filter_congr;intro e _;show decide (e.2.2<since)=Nat.blt e.2.2 since
  cases hb:Nat.blt e.2.2 since with
  |true=>exact decide_eq_true (Nat.le_of_ble_eq_true hb)
  |false=>exact decide_eq_false fun h=>by rw [show Nat.blt e.2.2 since=true from Nat.ble_eq.mpr h]at hb;cases hb
 have h3:∀l:List (SV×SV×Nat),(l.map (aQ ρ)).toArray.filter (fun e=>decide (e.born≥since))=((newV since l).map (aQ ρ)).toArray:=by
  intro l;rw [List.filter_toArray,newV,List.filter_map];congr 2;apply List.filter_congr;intro e _;show decide (since≤e.2.2)=Nat.ble since e.2.2
  cases hb:Nat.ble since e.2.2 with
  |true=>exact decide_eq_true (Nat.le_of_ble_eq_true hb)
  |false=>exact decide_eq_false fun h=>by rw [show Nat.ble since e.2.2=true from Nat.ble_eq.mpr h]at hb;cases hb
 rw [h1,h2,h3];unfold fV
 cases oldV since (fq seen es)with
 |nil=>simp [Function.comp_def]
 |cons e l=>simp [Function.comp_def]
theorem AV{P:Program}{h:HS}{b m since last:Nat}{seen:List Nat}{K:SV→HS→Bool}(hb:h.H.get b=some (.miter m since seen last))(hk:Dv h b m since last seen K){ρ:Nat→Loc}{w:World}(H:aL ρ h w)(u:TypeId):
  ∃v w',(Instr.next ((SV.ptr b 0).den ρ) false u).run P w= .ok v w'∧cT ρ h K v w':=by
 unfold Dv at hk
 split at hk
 ·rename_i es clock hm
  obtain⟨_,hmn,h0,h3⟩:=H.blk b _ hb;obtain⟨_,hes,hm3⟩:=H.blk m _ hm;have hm3:w.heap[(ρ m).blk]? =some (.map (es.map (aQ ρ)).toArray clock):=hm3;have hget:(getObj (ρ b).blk).run P w= .ok (.mapIter (some (ρ m).blk) since seen.toArray last) w:=by simp [getObj,Sem.run,h3]
  have hgetm:∀w':World,w'.heap=w.heap→(getObj (ρ m).blk).run P w'= .ok (.map (es.map (aQ ρ)).toArray clock) w':=fun w' hw'=>by simp [getObj,Sem.run,hw',hm3]
  have hden:(SV.ptr b 0).den ρ= .pointer (some ⟨(ρ b).blk,0,none⟩):=by simp [SV.den,h0]
  rw [hden]
  cases hg:D4 seen last es with
  |true=>rw [hg]at hk;exact absurd hk Bool.false_ne_true
  |false=>
   rw [hg]at hk;simp only [cond_false]at hk
   have hgone:(!seen.toArray.isEmpty&& !(es.map (aQ ρ)).toArray.isEmpty&&(es.map (aQ ρ)).toArray.all fun e=>decide (e.born≥last))=false:=by
    rw [←hg];unfold D4;congr 1
    ·simp
    ·rw [List.all_toArray,List.all_map]
     refine List.all_congr rfl fun e=> ?_
     show decide (last≤e.2.2)=Nat.ble last e.2.2
     cases hb:Nat.ble last e.2.2 with
     |true=>exact decide_eq_true (Nat.le_of_ble_eq_true hb)
     |false=>exact decide_eq_false fun h=>by rw [show Nat.ble last e.2.2=true from Nat.ble_eq.mpr h]at hb;cases hb
   generalize hq:Question.mapNext ((fV since (fq seen es)).map (Option.map (aQ ρ))).toArray.size=q
   obtain⟨i,w1,hdraw,hw1,hi⟩:∃i w1,(choose q).run P w= .ok i w1∧(w1=w∨w1= { w with drawn:=w.drawn+1 })∧i<(fV since (fq seen es)).length:=by
    have hpos:0<(fV since (fq seen es)).length:=by
     unfold fV
     split<;>simp
    simp only [choose,Sem.run];subst hq
    by_cases hf:(Question.mapNext ((fV since (fq seen es)).map (Option.map (aQ ρ))).toArray.size).forced=true
    ·rw [if_pos hf]
     exact⟨0,w,rfl,.inl rfl,hpos⟩
    ·rw [if_neg hf]
     refine⟨_,_,rfl,.inr rfl,?_⟩;simp only [Question.cut,List.size_toArray,List.length_map];exact Nat.mod_lt _ hpos
   have H1:aL ρ h w1:=by
    rcases hw1 with rfl|rfl
    ·exact H
    ·exact H.drawn _
   have hheap:w1.heap=w.heap:=by rcases hw1 with rfl|rfl<;>rfl
   have hc:=EW hk ((fV since (fq seen es))[i]) (List.getElem_mem hi)
   have hrun:∀X:Sem Value,(Instr.next (.pointer (some ⟨(ρ b).blk,0,none⟩)) false u).run P w=
     ((match ((fV since (fq seen es)).map (Option.map (aQ ρ))).toArray[i]? with
       |some (some e)=>do
        setObj (ρ b).blk (.mapIter (some (ρ m).blk) since (seen.toArray.push e.born) clock)
        pure (.tuple #[.bool true,e.key,e.val])
       |some none=>pure (.tuple #[.bool false])
       |none=>stuck "Next: no such candidate" :Sem Value)).run P w1:=by
    intro _;simp only [Instr.next,Sem.run_bind,hget,hgetm w rfl,Result.andThen_ok,hgone,Bool.false_eq_true,if_false,BY,hq,hdraw];generalize ((fV since (fq seen es)).map (Option.map (aQ ρ))).toArray[i]? =c
    cases c with
    |none=>rfl
    |some c=>cases c<;>rfl
   rw [hrun (pure undef)]
   have hat:((fV since (fq seen es)).map (Option.map (aQ ρ))).toArray[i]? =some (((fV since (fq seen es))[i]).map (aQ ρ)):=by
    rw [List.getElem?_toArray,List.getElem?_map,List.getElem?_eq_getElem hi];rfl
   rw [hat]
   have hmem:∀e,(fV since (fq seen es))[i]=some e→e∈es:=by
    intro e he;have h1:some e∈fV since (fq seen es):=he▸List.getElem_mem hi
    have h2:e∈fq seen es:=by
     unfold fV at h1
     split at h1
     ·simp only [List.mem_cons,reduceCtorEq,List.mem_map,Option.some.injEq,exists_eq_right,false_or]at h1
      exact(List.mem_filter.1 h1).1
     ·rename_i e' l hl
      rw [←hl]at h1;simp only [List.mem_map,List.mem_append,Option.some.injEq,exists_eq_right]at h1;rcases h1 with h1|h1<;>exact(List.mem_filter.1 h1).1
    exact(List.mem_filter.1 h2).1
   cases hce:(fV since (fq seen es))[i]with
   |none=>
    rw [hce]at hc;exact⟨_,w1,rfl,_,_,ρ,hc,rfl,trivial,H1,Ext.refl _ _,Nat.le_refl _,Mem.le_refl _⟩
   |some e=>
    rw [hce]at hc;obtain⟨k1,k2⟩:=hes e (hmem e hce);have h3':w1.heap[(ρ b).blk]? =some (.mapIter (some (ρ m).blk) since seen.toArray last):=by rw [hheap];exact h3
    refine⟨.tuple #[.bool true,e.1.den ρ,e.2.1.den ρ], { w1 with heap:=w1.heap.setIfInBounds (ρ b).blk (.mapIter (some (ρ m).blk) since (seen++ [e.2.2]).toArray clock) },?_,_,_,ρ,hc,?_,⟨trivial,k1,k2,trivial⟩,?_,Ext.refl _ _,Nat.le_refl _,Mem.le_refl _⟩
    ·simp [aQ,setObj,Sem.run,h3']
    ·simp [SV.den,SV.gC]
    ·refine H1.write hb hmn ⟨h0,?_⟩ (fun k hk=> ?_) rfl rfl rfl
     ·show(w1.heap.setIfInBounds (ρ b).blk _)[(ρ b).blk]? =_
      rw [Array.getElem?_setIfInBounds_self,if_pos (Array.getElem?_eq_some_iff.1 h3').1]
     ·show(w1.heap.setIfInBounds (ρ b).blk _)[k]? =_
      rw [Array.getElem?_setIfInBounds_ne (Ne.symm hk)]
 ·exact absurd hk Bool.false_ne_true
def nextS(h:HS)(b pos:Nat)(s:List UInt8)(K:SV→HS→Bool):Bool:=
 bif Nat.blt pos s.length then
  (match Utf8.decode ⟨s.toArray⟩ pos with
  |(c,width)=>K (.tup [.v (.bool true),.v (.int .i64 pos),.v (.int .i32 c)]) { h with H:=h.H.set b (.siter s (pos+width)) })
 else K (.v (.tuple #[.bool false])) h
def zn(h:HS)(x:SV)(isString:Bool)(K:SV→HS→Bool):Bool:=
 match x with
 | .ptr b o=>bif Nat.beq o 0 then(match h.H.get b with
   |some (.siter s pos)=>bif isString then nextS h b pos s K else false
   |some (.miter m since seen last)=>bif isString then false else Dv h b m since last seen K
   |_=>false)else false
 | .v (.pointer (some ⟨i,0,none⟩))=>bif h.M.X.op then(bif isString then false else nextA h i K)else false
 |_=>false
theorem AU{P:Program}{h:HS}{x:SV}{i:Bool}{K:SV→HS→Bool}(hk:zn h x i K){ρ:Nat→Loc}{w:World}(H:aL ρ h w)(u:TypeId):
  ∃v w',(Instr.next (x.den ρ) i u).run P w= .ok v w'∧cT ρ h K v w':=by
 unfold zn at hk
 split at hk
 ·rename_i b o
  cases ho:Nat.beq o 0 with
  |false=>rw [ho]at hk;exact absurd hk Bool.false_ne_true
  |true=>
  rw [ho]at hk;have ho:=Nat.eq_of_beq_eq_true ho;subst ho;simp only [cond_true]at hk
  split at hk
  ·rename_i s pos hb
   cases i with
   |false=>exact absurd hk Bool.false_ne_true
   |true=>
    simp only [cond_true,nextS]at hk;obtain⟨_,h2,h0,h3⟩:=H.blk b _ hb;have hget:(getObj (ρ b).blk).run P w= .ok (.stringIter ⟨s.toArray⟩ pos) w:=by simp [getObj,Sem.run,h3]
    have hsz:(⟨s.toArray⟩:ByteArray).size=s.length:=by show s.toArray.size=_;simp
    have hden:(SV.ptr b 0).den ρ= .pointer (some ⟨(ρ b).blk,0,none⟩):=by simp [SV.den,h0]
    rw [hden]
    cases hlt:Nat.blt pos s.length with
    |true=>
     rw [hlt]at hk;simp only [cond_true]at hk;have hlt:pos<s.length:=Nat.le_of_ble_eq_true hlt;refine⟨.tuple #[.bool true,goInt pos,.int .i32 (Utf8.decode ⟨s.toArray⟩ pos).1], { w with heap:=w.heap.setIfInBounds (ρ b).blk (.stringIter ⟨s.toArray⟩ (pos+(Utf8.decode ⟨s.toArray⟩ pos).2)) },?_,_,_,ρ,hk,rfl,⟨trivial,trivial,trivial,trivial⟩,?_,Ext.refl _ _,Nat.le_refl _,Mem.le_refl _⟩
     ·simp only [Instr.next,Sem.run_bind,hget,Result.andThen_ok,hsz,hlt,if_true]
      simp [setObj,Sem.run,h3]
     ·refine H.write hb trivial ⟨h0,?_⟩ (fun k hk=> ?_) rfl rfl rfl
      ·show(w.heap.setIfInBounds (ρ b).blk _)[(ρ b).blk]? =_
       rw [Array.getElem?_setIfInBounds_self,if_pos (Array.getElem?_eq_some_iff.1 h3).1]
      ·show(w.heap.setIfInBounds (ρ b).blk _)[k]? =_
       rw [Array.getElem?_setIfInBounds_ne (Ne.symm hk)]
    |false=>
     rw [hlt]at hk;simp only [cond_false]at hk;have hge:¬pos<s.length:=fun h=>by rw [show Nat.blt pos s.length=true from Nat.ble_eq.mpr h]at hlt;cases hlt
     refine⟨.tuple #[.bool false],w,?_,_,_,ρ,hk,rfl,trivial,H,Ext.refl _ _,Nat.le_refl _,Mem.le_refl _⟩;simp only [Instr.next,Sem.run_bind,hget,Result.andThen_ok,hsz,hge,if_false,Sem.run_pure]
  ·rename_i m since seen last hb
   cases i with
   |true=>exact absurd hk Bool.false_ne_true
   |false=>exact AV hb hk H u
  ·exact absurd hk Bool.false_ne_true
 ·cases hop:h.M.X.op with
  |true=>
   rw [hop]at hk
   cases i with
   |true=>exact absurd hk Bool.false_ne_true
   |false=>exact AW hk H u
  |false=>rw [hop]at hk;exact absurd hk Bool.false_ne_true
 ·exact absurd hk Bool.false_ne_true
end
end Go.Sx
