/-
  Parts of the proof: SxMa
-/
import Derived.Test.YtphigpccfbfnoaaGreatDoorG05
set_option maxRecDepth 100000
set_option maxHeartbeats 0
namespace Go.Sx
noncomputable section
def plainKey:TypeDesc→Bool
 | .int _| .string| .bool=>true
 |_=>false
theorem ej{P:Program}{t:TypeId}{s:STy}(hs:ty P t=some s)(hp:plainKey s.und=true)(b:Bool)(n:Nat)(v:Value)(w:World):(Instr.checkKey b (n+1) t v).run P w= .ok () w:=by
 have hu:=aA w hs
 cases hd:s.und<;>rw [hd]at hp<;>first
  |(cases hp;done)
  |(simp only [Instr.checkKey,Sem.run_bind,hu,hd,Result.andThen_ok];rfl)
theorem map_eraseIdx{α β:Type}(f:α→β):∀(l:List α) (i:Nat),(l.eraseIdx i).map f=(l.map f).eraseIdx i
 | [],_=>rfl
 |_::_,0=>rfl
 |x::l,i+1=>by simp [map_eraseIdx f l i]
def Ae(d:TypeDesc)(k:SV):Option Value:=match d with
 | .int _=>(match k.int? with
   |some (kd,a)=>some (.int kd a)
   |none=>none)
 | .string=>(match k.str? with
   |some l=>some (.string ⟨l.toArray⟩)
   |none=>none)
 | .bool=>(match k with
   | .v (.bool b)=>some (.bool b)
   |_=>none)
 |_=>none
def eD:TypeDesc→Value→Bool
 | .int _,.int _ _=>true
 | .string,.string _=>true
 | .bool,.bool _=>true
 |_,_=>false
theorem so{d:TypeDesc}{k:SV}{kv:Value}(h:Ae d k=some kv)(ρ:Nat→Loc):k.den ρ=kv∧eD d kv=true:=by
 unfold Ae at h
 split at h
 ·split at h
  ·rename_i kd a hk
   injection h with h;subst h
   exact⟨SV.bI hk,rfl⟩
  ·cases h
 ·split at h
  ·rename_i l hl
   injection h with h;subst h
   exact⟨SV.bW hl,rfl⟩
  ·cases h
 ·split at h
  ·injection h with h;subst h;exact⟨rfl,rfl⟩
  ·cases h
 ·cases h
theorem eR{d:TypeDesc}{kv:Value}(h:eD d kv=true):plainKey d=true:=by
 unfold eD at h
 split at h<;>first|rfl|cases h
theorem bytes_beq{a b:ByteArray}(h:(a==b)=true):a=b:=by
 rw [beq_toListBytes,ByteArray.toList_eq,ByteArray.toList_eq]at h;exact ByteArray.ext (Array.toList_inj.1 (eq_of_beq h))
theorem FQ{k x:Value}{d:TypeDesc}(hf:eD d k=true)(ha:de k x=true)(h:gv k x=true):x=k:=by
 unfold de at ha
 split at ha
 ·simp only [gv]at h
  rw [bytes_beq h]
 ·simp only [gv]at h
  rw [eq_of_beq h,of_decide_eq_true ha]
 ·simp only [gv]at h
  rw [eq_of_beq h]
 ·cases d<;>cases hf
 ·cases ha
theorem tF{d:TypeDesc}{k x:Value}(hf:eD d k=true)(ha:de k x=true):Instr.sameNow d k x=some (gv k x):=by
 unfold eD at hf
 split at hf
 ·rename_i kd kd' a
  unfold de at ha
  cases x with
  |int k' b=>
   have:=of_decide_eq_true ha;subst this;simp [Instr.sameNow,gv]
  |_=>cases ha
 ·cases x with
  |string b=>rfl
  |_=>cases ha
 ·cases x with
  |bool b=>rfl
  |_=>cases ha
 ·cases hf
def cA(k v:Value):List (Value×Value)→List (Value×Value)
 | []=> [(k,v)]
 |e::es=>bif gv k e.1 then(k,v)::es else e::cA k v es
def ib(k:Value):List (Value×Value)→List (Value×Value)
 | []=> []
 |e::es=>bif gv k e.1 then es else e::ib k es
def aX(e:MapEntry):Value×Value:=(e.key,e.val)
theorem sW{d:TypeDesc}{k:Value}(hf:eD d k=true)(v:Value):∀(es:List MapEntry) (i:Nat),(∀e∈es,de k e.key=true)→
  (Instr.findNow d k es i=some none∧iN k (es.map aX)=none∧cA k v (es.map aX)=es.map aX++ [(k,v)]∧ib k (es.map aX)=es.map aX)∨
  ∃j e,Instr.findNow d k es i=some (some (i+j,e.val))∧es[j]? =some e∧e.key=k∧iN k (es.map aX)=some e.val∧cA k v (es.map aX)=(es.modify j fun e=> { e with key:=k,val:=v }).map aX∧ib k (es.map aX)=(es.eraseIdx j).map aX
 | [],i,_=> .inl ⟨rfl,rfl,rfl,rfl⟩
 |e::es,i,ha=>by
  have h0:=ha e (by simp);have hs:=tF hf h0
  cases hk:gv k e.key with
  |true=>
   rw [hk]at hs;refine .inr ⟨0,e,?_,rfl,FQ hf h0 hk,?_,?_,?_⟩
   ·simp only [Instr.findNow,hs,Nat.add_zero]
   ·simp only [List.map_cons,iN,aX,hk,cond_true]
   ·simp only [List.map_cons,cA,aX,hk,cond_true,List.modify_zero_cons]
   ·simp only [List.map_cons,ib,aX,hk,cond_true,List.eraseIdx_cons_zero]
  |false=>
   rw [hk]at hs;rcases sW hf v es (i+1) (fun x hx=>ha x (by simp [hx]))with⟨h1,h2,h3,h4⟩|⟨j,x,h1,h2,h3,h4,h5,h6⟩
   ·refine .inl ⟨?_,?_,?_,?_⟩
    ·simp only [Instr.findNow,hs,h1]
    ·simp only [List.map_cons,iN,aX,hk,cond_false];exact h2
    ·simp only [List.map_cons,cA,show(aX e).1=e.key from rfl,hk,cond_false,h3,List.cons_append]
    ·simp only [List.map_cons,ib,show(aX e).1=e.key from rfl,hk,cond_false,h4]
   ·refine .inr ⟨j+1,x,?_,by simpa using h2,h3,?_,?_,?_⟩
    ·simp only [Instr.findNow,hs,h1];congr 3;omega
    ·simp only [List.map_cons,iN,aX,hk,cond_false];exact h4
    ·simp only [List.map_cons,cA,show(aX e).1=e.key from rfl,hk,cond_false,h5,List.modify_succ_cons]
    ·simp only [List.map_cons,ib,show(aX e).1=e.key from rfl,hk,cond_false,h6,List.eraseIdx_cons_succ]
theorem ji{P:Program}{t:TypeId}{s:STy}(hs:ty P t=some s){k:Value}(hf:eD s.und k=true)(v:Value)(es:List MapEntry)(ha:∀e∈es,de k e.key=true)(w:World):
  ((Instr.findKey t k es).run P w= .ok none w∧iN k (es.map aX)=none∧cA k v (es.map aX)=es.map aX++ [(k,v)]∧ib k (es.map aX)=es.map aX)∨
  ∃j e,(Instr.findKey t k es).run P w= .ok (some (j,e.val)) w∧es[j]? =some e∧e.key=k∧iN k (es.map aX)=some e.val∧cA k v (es.map aX)=(es.modify j fun e=> { e with key:=k,val:=v }).map aX∧ib k (es.map aX)=(es.eraseIdx j).map aX:=by
 rcases sW hf v es 0 ha with⟨h1,h2⟩|⟨j,e,h1,h2⟩
 ·exact .inl ⟨by simp only [Instr.findKey,Sem.run_bind,aA w hs,Result.andThen_ok,h1,Sem.run_pure],h2⟩
 ·exact .inr ⟨j,e,by simp only [Instr.findKey,Sem.run_bind,aA w hs,Result.andThen_ok,h1,Sem.run_pure,Nat.zero_add],h2⟩
def bX(A:aa)(g:Nat)(l:List (Value×Value)):Prop:=
 ∃es clock,A.blk g=some (.map es clock)∧hZ es=l∧(∀e∈es.toList,e.born<clock)∧(es.toList.map (·.born)).Nodup
theorem bR(es:Array MapEntry):hZ es=es.toList.map aX:=rfl
theorem BD{A:aa}{g:Nat}{l:List (Value×Value)}{k:Value}(h:bX A g l)(ha:∀e∈l,de k e.1=true):A.look g k=some (iN k l):=by
 obtain⟨es,clock,hb,rfl,_⟩:=h;rw [A.lookeq];unfold we;rw [hb];have:(hZ es).all (fun e=>de k e.1)=true:=List.all_eq_true.2 ha;simp only [this,cond_true]
theorem Gs{A:aa}{g n:Nat}(h:A.cnt g=some n):∃es clock,A.blk g=some (.map es clock)∧n=es.size:=by
 rw [A.cnteq]at h;unfold Gt at h
 split at h
 ·rename_i es clock hb
  injection h with h
  exact⟨es,clock,hb,h.symm⟩
 ·cases h
theorem Du{A:aa}{g:Nat}{k:Value}{r:Option Value}(h:A.look g k=some r):∃es clock,A.blk g=some (.map es clock)∧(∀e∈es.toList,de k e.key=true)∧r=iN k (hZ es):=by
 rw [A.lookeq]at h;unfold we at h
 split at h
 ·rename_i es clock hb
  cases ha:(hZ es).all fun e=>de k e.1 with
  |false=>rw [ha]at h;cases h
  |true=>
   rw [ha]at h;injection h with h
   refine⟨es,clock,hb,fun e he=>List.all_eq_true.1 ha (aX e) ?_,h.symm⟩;exact List.mem_map.2 ⟨e,he,rfl⟩
 ·cases h
theorem bX.sub{A A':aa}{g:Nat}{l:List (Value×Value)}(h:bX A g l)(hs:∀o,A.blk g=some o→A'.blk g=some o):bX A' g l:=by
 obtain⟨es,clock,hb,h⟩:=h;exact⟨es,clock,hs _ hb,h⟩
def uH(ok:Bool)(z:Value):Option Value→SV
 |some v=>bif ok then .tup [.v v,.v (.bool true)]else .v v
 |none=>bif ok then .tup [w9 z,.v (.bool false)]else w9 z
def BF(P:Program)(h:HS)(t:TypeId)(g:Nat)(k:SV)(ok:Bool):Option SV:=match ty P t with
 |none=>none
 |some s=>match s.und with
  | .map kt et=>match ty P kt,ty P et with
    |some sk,some se=>match Ae sk.und k with
     |some kv=>match h.M.A.look g kv with
      |some r=>some (uH ok se.zero r)
      |none=>none
     |none=>none
    |_,_=>none
  |_=>none
theorem Dx{P:Program}{h:HS}{t:TypeId}{g:Nat}{k z:SV}{ok:Bool}(hz:BF P h t g k ok=some z){ρ:Nat→Loc}{w:World}(H:ba ρ h w):
  (Instr.lookup t (.map (some g)) (k.den ρ) ok).run P w= .ok (z.den ρ) w∧z.lt ρ h.nx:=by
 unfold BF at hz
 split at hz
 ·cases hz
 ·rename_i s hs
  split at hz
  ·rename_i kt et hd
   split at hz
   ·rename_i sk se hsk hse
    split at hz
    ·rename_i kv hkv
     split at hz
     ·rename_i r hr
      injection hz with hz;subst hz
      obtain⟨hk,hf⟩:=so hkv ρ;obtain⟨es,clock,hb,ha,rfl⟩:=Du hr;have h3:=H.are g _ hb;have hget:(getObj g).run P w= .ok (.map es clock) w:=by simp [getObj,Sem.run,h3]
      have hcheck:∀b v,(Instr.checkKey b 10000 kt v).run P w= .ok () w:=fun b v=>ej hsk (eR hf) b 9999 v w
      simp only [Instr.lookup,Sem.run_bind,aA w hs,hd,Result.andThen_ok,hget,Sem.run_pure,hcheck,hk];rcases ji (P:=P) hsk hf (.bool false) es.toList ha w with⟨h1,h2,_⟩|⟨j,e,h1,_,_,h2,_⟩
      ·rw [h1]
       rw [bR,h2];simp only [Result.andThen_ok,Sem.run_bind,cQ w hse,Sem.run_pure]
       cases ok
       ·exact⟨by simp [uH,jr],lR _ _ _⟩
       ·exact⟨by simp [uH,SV.den,SV.iO,jr],lR _ _ _,trivial,trivial⟩
      ·rw [h1]
       rw [bR,h2];simp only [Result.andThen_ok,Sem.run_bind,Sem.run_pure]
       cases ok
       ·exact⟨by simp [uH,SV.den],trivial⟩
       ·exact⟨by simp [uH,SV.den,SV.iO],trivial,trivial,trivial⟩
     ·cases hz
    ·cases hz
   ·cases hz
  ·cases hz
def vG:SV→Option Value
 | .v x=>some x
 | .str l=>some (.string ⟨l.toArray⟩)
 | .agg cs=>match je cs with
   |some vs=>some (.agg vs.toArray)
   |none=>none
 |_=>none
theorem rK{x:SV}{v:Value}(h:vG x=some v)(ρ:Nat→Loc):x.den ρ=v:=by
 unfold vG at h
 split at h
 ·injection h
 ·injection h
 ·rename_i cs
  split at h
  ·rename_i vs hvs
   injection h with h
   rw [←h,SV.den,dP,eI ρ cs vs hvs]
  ·cases h
 ·cases h
def putA(P:Program)(h:HS)(t:TypeId)(g:Nat)(k v:SV)(K:SV→HS→Bool):Bool:=match ty P t with
 |none=>false
 |some s=>match s.und with
  | .map kt _=>match ty P kt with
    |some sk=>match Ae sk.und k,vG v with
     |some kv,some vv=>h.M.D (∃l,bX h.M.A g l∧(∀e∈l,de kv e.1=true)∧∀A',bX A' g (cA kv vv l)→(∀b,b≠g→A'.blk b=h.M.A.blk b)→K (.v (.tuple #[])) (h.put A')=true)
     |_,_=>false
    |none=>false
  |_=>false
theorem od{P:Program}{k:Value}{d:TypeDesc}(hf:eD d k=true)(w:World):(Instr.keyThatStays k k).run P w= .ok k w:=by
 have:Instr.sameBits 10000 k k=true:=by
  unfold eD at hf
  split at hf
  ·simp [Instr.sameBits]
  ·simp only [Instr.sameBits];rw [beq_toListBytes];simp
  ·simp [Instr.sameBits]
  ·cases hf
 simp [Instr.keyThatStays,this]
theorem gS(f:MapEntry→MapEntry)(hf:∀e,(f e).born=e.born):∀(l:List MapEntry) (j:Nat),(l.modify j f).map (·.born)=l.map (·.born)
 | [],j=>by simp
 |e::l,0=>by simp [hf]
 |e::l,j+1=>by simp [gS f hf l j]
theorem qk{l:List MapEntry}{c:Nat}(h:∀b∈l.map (·.born),b<c):∀e∈l,e.born<c:=fun e he=>h _ (List.mem_map.2 ⟨e,he,rfl⟩)
theorem Fb{P:Program}{h:HS}{t:TypeId}{g:Nat}{k v:SV}{K:SV→HS→Bool}(hk:putA P h t g k v K){ρ:Nat→Loc}{w:World}(H:ba ρ h w):
  ∃w',(Instr.mapUpdate t (.map (some g)) (k.den ρ) (v.den ρ)).run P w= .ok () w'∧dT ρ h K (.tuple #[]) w':=by
 unfold putA at hk
 split at hk
 ·exact absurd hk Bool.false_ne_true
 ·rename_i s hs
  split at hk
  ·rename_i kt et hd
   split at hk
   ·rename_i sk hsk
    split at hk
    ·rename_i kv vv hkv hvv
     obtain⟨l,⟨es,clock,hb,rfl,hlt,hnd⟩,ha,hk⟩:=(h.M.X.hD _).1 hk;obtain⟨hke,hf⟩:=so hkv ρ;have ha:∀e∈es.toList,de kv e.key=true:=fun e he=>ha (aX e) (List.mem_map.2 ⟨e,he,rfl⟩)
     have h3:=H.are g _ hb;have hget:(getObj g).run P w= .ok (.map es clock) w:=by simp [getObj,Sem.run,h3]
     have hcheck:∀b v,(Instr.checkKey b 10000 kt v).run P w= .ok () w:=fun b v=>ej hsk (eR hf) b 9999 v w
     rw [rK hvv ρ,hke];rcases ji (P:=P) hsk hf vv es.toList ha w with⟨h1,_,h2,_⟩|⟨j,e,h1,he,hek,_,h2,_⟩
     ·obtain⟨A',k1,k2,k3⟩:=eZ H hb (.map (es.push { key:=kv,val:=vv,born:=clock }) (clock+1))
      refine⟨_,?_,_,_,ρ,hk A' ⟨_,_,k1,?_,?_,?_⟩ k2,rfl,trivial,k3,Ext.refl _ _,Nat.le_refl _,Mem.dH _ _⟩
      ·simp only [Instr.mapUpdate,Sem.run_bind,aA w hs,hd,Result.andThen_ok,hget,hcheck,h1]
       simp [setObj,Sem.run,h3]
      ·rw [bR es,h2,bR];simp [aX]
      ·intro x hx
       simp only [Array.toList_push,List.mem_append,List.mem_singleton]at hx;rcases hx with hx|rfl
       ·have:=hlt x hx;omega
       ·show clock<clock+1;omega
      ·simp only [Array.toList_push,List.map_append,List.map_cons,List.map_nil]
       refine List.nodup_append.2 ⟨hnd,by simp,fun a ha' b hb'=> ?_⟩;obtain⟨x,hx,rfl⟩:=List.mem_map.1 ha';have:=hlt x hx;simp only [List.mem_singleton]at hb';omega
     ·obtain⟨A',k1,k2,k3⟩:=eZ H hb (.map (es.modify j fun e=> { e with key:=kv,val:=vv }) clock)
      have hmod:(es.modify j fun e=> { e with key:=kv,val:=vv }).toList=es.toList.modify j fun e=> { e with key:=kv,val:=vv } :=by simp
      refine⟨_,?_,_,_,ρ,hk A' ⟨_,_,k1,?_,?_,?_⟩ k2,rfl,trivial,k3,Ext.refl _ _,Nat.le_refl _,Mem.dH _ _⟩
      ·have hej:es[j]? =some e:=by simpa using he
       simp only [Instr.mapUpdate,Sem.run_bind,aA w hs,hd,Result.andThen_ok,hget,hcheck,h1,hej,Option.map_some,Option.getD_some,hek,od hf w];simp [setObj,Sem.run,h3]
      ·rw [bR es,h2,bR,hmod]
      ·rw [hmod]
       refine qk ?_;rw [gS (fun e=> { e with key:=kv,val:=vv }) (fun _=>rfl)];intro b hb';obtain⟨x,hx,rfl⟩:=List.mem_map.1 hb';exact hlt x hx
      ·rw [hmod,gS (fun e=> { e with key:=kv,val:=vv }) (fun _=>rfl)]
       exact hnd
    ·exact absurd hk Bool.false_ne_true
   ·exact absurd hk Bool.false_ne_true
  ·exact absurd hk Bool.false_ne_true
def delA(P:Program)(h:HS)(kt:TypeId)(g:Nat)(k:SV)(K:SV→HS→Bool):Bool:=match ty P kt with
 |some sk=>match Ae sk.und k with
  |some kv=>h.M.D (∃l,bX h.M.A g l∧(∀e∈l,de kv e.1=true)∧∀A',bX A' g (ib kv l)→(∀b,b≠g→A'.blk b=h.M.A.blk b)→K (.v (.tuple #[])) (h.put A')=true)
  |none=>false
 |none=>false
theorem Gk{P:Program}{h:HS}{t kt et:TypeId}{s:STy}(hs:ty P t=some s)(hd:s.und= .map kt et){ts:List TypeId}{g:Nat}{k:SV}{K:SV→HS→Bool}(hk:delA P h kt g k K){ρ:Nat→Loc}{w:World}(H:ba ρ h w)(u:TypeId):
  ∃v w',(Builtin.delete_ (t::ts).toArray u #[.map (some g),k.den ρ]).run P w= .ok v w'∧dT ρ h K v w':=by
 have h0:(t::ts).toArray[0]? =some t:=by simp
 unfold delA at hk
 split at hk
 ·rename_i sk hsk
  split at hk
  ·rename_i kv hkv
   obtain⟨l,⟨es,clock,hb,rfl,hlt,hnd⟩,ha,hk⟩:=(h.M.X.hD _).1 hk;obtain⟨hke,hf⟩:=so hkv ρ;have ha:∀e∈es.toList,de kv e.key=true:=fun e he=>ha (aX e) (List.mem_map.2 ⟨e,he,rfl⟩)
   have h3:=H.are g _ hb;have hget:(getObj g).run P w= .ok (.map es clock) w:=by simp [getObj,Sem.run,h3]
   have hcheck:∀b v,(Instr.checkKey b 10000 kt v).run P w= .ok () w:=fun b v=>ej hsk (eR hf) b 9999 v w
   rw [hke];rcases ji (P:=P) hsk hf (.bool false) es.toList ha w with⟨h1,_,_,h2⟩|⟨j,e,h1,he,hek,_,_,h2⟩
   ·obtain⟨A',k1,k2,k3⟩:=eZ H hb (.map es clock)
    refine⟨.tuple #[],_,?_,_,_,ρ,hk A' ⟨_,_,k1,?_,hlt,hnd⟩ k2,rfl,trivial,k3,Ext.refl _ _,Nat.le_refl _,Mem.dH _ _⟩
    ·simp only [Builtin.delete_,h0,List.getElem?_toArray,List.getElem?_cons_zero,List.getElem?_cons_succ,Sem.run_bind,aA w hs,hd,Result.andThen_ok,hget,hcheck,h1]
     simp [setObj,Sem.run,h3]
    ·rw [bR,h2]
   ·obtain⟨A',k1,k2,k3⟩:=eZ H hb (.map (es.eraseIdxIfInBounds j) clock)
    have hj:j<es.size:=by
     have:=(List.getElem?_eq_some_iff.1 he).1;simpa using this
    have her:(es.eraseIdxIfInBounds j).toList=es.toList.eraseIdx j:=by simp
    refine⟨.tuple #[],_,?_,_,_,ρ,hk A' ⟨_,_,k1,?_,fun x hx=>hlt x ?_,?_⟩ k2,rfl,trivial,k3,Ext.refl _ _,Nat.le_refl _,Mem.dH _ _⟩
    ·simp only [Builtin.delete_,h0,List.getElem?_toArray,List.getElem?_cons_zero,List.getElem?_cons_succ,Sem.run_bind,aA w hs,hd,Result.andThen_ok,hget,hcheck,h1]
     simp [setObj,Sem.run,h3]
    ·rw [bR es,h2,bR,her]
    ·rw [her]at hx
     exact List.mem_of_mem_eraseIdx hx
    ·rw [her,map_eraseIdx]
     exact hnd.sublist (List.eraseIdx_sublist _ _)
  ·exact absurd hk Bool.false_ne_true
 ·exact absurd hk Bool.false_ne_true
theorem uv{α β:Type}(f:α→β):∀ {l:List α} {x y:α},(l.map f).Nodup→x∈l→y∈l→f x=f y→x=y
 | [],_,_,_,hx,_,_=>by cases hx
 |a::l,x,y,hn,hx,hy,he=>by
  rw [List.map_cons,List.nodup_cons]at hn;rcases List.mem_cons.1 hx with h1|h1<;>rcases List.mem_cons.1 hy with h2|h2
  ·rw [h1,h2]
  ·exact(hn.1 (List.mem_map.2 ⟨y,h2,by rw [←he,h1]⟩)).elim
  ·exact(hn.1 (List.mem_map.2 ⟨x,h1,by rw [he,h2]⟩)).elim
  ·exact uv f hn.2 h1 h2 he
def ey(A:aa)(i g:Nat)(l:List (Value×Value))(sk:List Value):Prop:=
 ∃es clock seen,A.blk g=some (.map es clock)∧hZ es=l∧(∀e∈es.toList,e.born<clock)∧(es.toList.map (·.born)).Nodup∧(l.map (·.1)).Nodup∧
  A.blk i=some (.mapIter (some g) clock seen clock)∧∀e∈es.toList,(e.born∈seen.toList↔e.key∈sk)
theorem ey.sub{A A':aa}{i g:Nat}{l:List (Value×Value)}{sk:List Value}(h:ey A i g l sk)(hs:∀b o,b=i∨b=g→A.blk b=some o→A'.blk b=some o):ey A' i g l sk:=by
 obtain⟨es,clock,seen,h1,h2,h3,h4,h5,h6,h7⟩:=h;exact⟨es,clock,seen,hs g _ (.inr rfl) h1,h2,h3,h4,h5,hs i _ (.inl rfl) h6,h7⟩
def E2(h:HS)(g:Nat)(K:SV→HS→Bool):Bool:=
 h.M.D (∃l,bX h.M.A g l∧(l.map (·.1)).Nodup∧∀i A',h.M.A.blk i=none→(∀b,b≠i→A'.blk b=h.M.A.blk b)→ey A' i g l []→K (.v (.pointer (some ⟨i,0,none⟩))) (h.put A')=true)
theorem zK{P:Program}{h:HS}{t kt et:TypeId}{s:STy}(hs:ty P t=some s)(hd:s.und= .map kt et){g:Nat}{K:SV→HS→Bool}(hk:E2 h g K){ρ:Nat→Loc}{w:World}(H:ba ρ h w):
  ∃v w',(Instr.range t (.map (some g))).run P w= .ok v w'∧dT ρ h K v w':=by
 obtain⟨l,⟨es,clock,hb,rfl,hlt,hnd⟩,hkn,hk⟩:=(h.M.X.hD _).1 hk;have h3:=H.are g _ hb;have hget:(getObj g).run P w= .ok (.map es clock) w:=by simp [getObj,Sem.run,h3]
 obtain⟨A',k1,k2,k3,k4⟩:=mr H (.mapIter (some g) clock #[] clock) w.drawn;refine⟨.pointer (some ⟨w.heap.size,0,none⟩),_,?_,_,_,ρ,hk w.heap.size A' k1 k3 ⟨es,clock, #[],?_,rfl,hlt,hnd,hkn,k2,fun e _=>by simp⟩,rfl,trivial,k4,Ext.refl _ _,Nat.le_refl _,Mem.dH _ _⟩
 ·simp [Instr.range,aA w hs,hd,hget]
 ·rw [k3 g (fun e=>by subst e;rw [hb]at k1;cases k1)];exact hb
def E0(h:HS)(K:SV→HS→Bool):Bool:=
 h.M.D (∀i A',h.M.A.blk i=none→(∀b,b≠i→A'.blk b=h.M.A.blk b)→A'.blk i=some (.mapIter none 0 #[] 0)→K (.v (.pointer (some ⟨i,0,none⟩))) (h.put A')=true)
theorem zJ{P:Program}{h:HS}{t kt et:TypeId}{s:STy}(hs:ty P t=some s)(hd:s.und= .map kt et){K:SV→HS→Bool}(hk:E0 h K){ρ:Nat→Loc}{w:World}(H:ba ρ h w):
  ∃v w',(Instr.range t (.map none)).run P w= .ok v w'∧dT ρ h K v w':=by
 have hk:=(h.M.X.hD _).1 hk;obtain⟨A',k1,k2,k3,k4⟩:=mr H (.mapIter none 0 #[] 0) w.drawn;refine⟨.pointer (some ⟨w.heap.size,0,none⟩),_,?_,_,_,ρ,hk w.heap.size A' k1 k3 k2,rfl,trivial,k4,Ext.refl _ _,Nat.le_refl _,Mem.dH _ _⟩;simp [Instr.range,aA w hs,hd]
def nextA(h:HS)(i:Nat)(K:SV→HS→Bool):Bool:=
 h.M.D ((∃g l sk,ey h.M.A i g l sk∧(∀e∈l,e.1∉sk→∀A',(∀b,b≠i→A'.blk b=h.M.A.blk b)→ey A' i g l (sk++ [e.1])→A'.ent i=some (.tuple #[e.1,e.2])→K (.v (.tuple #[.bool true,e.1,e.2])) (h.put A')=true)∧
  ((∀e∈l,e.1∈sk)→K (.v (.tuple #[.bool false])) h=true))∨∃a b c,h.M.A.blk i=some (.mapIter none a b c)∧K (.v (.tuple #[.bool false])) h=true)
theorem Df{P:Program}{h:HS}{i:Nat}{K:SV→HS→Bool}(hk:nextA h i K){ρ:Nat→Loc}{w:World}(H:ba ρ h w)(u:TypeId):
  ∃v w',(Instr.next (.pointer (some ⟨i,0,none⟩)) false u).run P w= .ok v w'∧dT ρ h K v w':=by
 rcases(h.M.X.hD _).1 hk with hk|⟨a,b,c,hi,hk⟩
 rotate_left
 ·have h4:=H.are i _ hi
  have hget:(getObj i).run P w= .ok (.mapIter none a b c) w:=by simp [getObj,Sem.run,h4]
  refine⟨.tuple #[.bool false],w,?_,_,_,ρ,hk,rfl,trivial,H,Ext.refl _ _,Nat.le_refl _,Mem.le_refl _⟩;simp only [Instr.next,Sem.run_bind,hget,Result.andThen_ok];rfl
 obtain⟨g,l,sk,⟨es,clock,seen,hb,rfl,hlt,hnd,hkn,hi,hseen⟩,hk1,hk2⟩:=hk;have h3:=H.are g _ hb;have h4:=H.are i _ hi;have hget:(getObj i).run P w= .ok (.mapIter (some g) clock seen clock) w:=by simp [getObj,Sem.run,h4]
 have hgetg:(getObj g).run P w= .ok (.map es clock) w:=by simp [getObj,Sem.run,h3]
 have hgone:(!seen.isEmpty&& !es.isEmpty&&es.all fun e=>decide (e.born≥clock))=false:=by
  cases he:es.toList with
  |nil=>
   have:es= #[]:=Array.toList_inj.1 he;subst this;simp
  |cons e r=>
   have h5:=hlt e (by rw [he];simp)
   have:(es.all fun e=>decide (e.born≥clock))=false:=by
    rw [Bool.eq_false_iff];intro ha;rw [←Array.all_toList,he]at ha;simp only [List.all_cons,Bool.and_eq_true,decide_eq_true_eq]at ha;omega
   rw [this,Bool.and_false]
 generalize hleft:(es.filter fun e=> !seen.contains e.born)=left
 have hlm:∀e,e∈left.toList↔e∈es.toList∧e.key∉sk:=fun e=>by
  rw [←hleft];simp only [Array.toList_filter,List.mem_filter,Bool.not_eq_true',and_congr_right_iff];intro he;rw [←hseen e he];rw [←Bool.not_eq_true];simp
 have hold:left.filter (fun e=>decide (e.born<clock))=left:=by
  rw [Array.filter_eq_self];intro e he;exact decide_eq_true (hlt e ((hlm e).1 (by simpa using he)).1)
 have hnew:left.filter (fun e=>decide (e.born≥clock))= #[]:=by
  rw [Array.filter_eq_empty_iff];intro e he;have:=hlt e ((hlm e).1 (by simpa using he)).1;simp;omega
 generalize hcand:((if left.isEmpty then #[none]else #[])++(left++ #[]).map some:Array (Option MapEntry))=cand
 have hpos:0<cand.size:=by
  rw [←hcand]
  by_cases hz:left.isEmpty
  ·rw [if_pos hz];simp;omega
  ·rw [if_neg hz]
   simp only [Array.isEmpty_iff]at hz;have:0<left.size:=Nat.pos_of_ne_zero fun h0=>hz (Array.eq_empty_of_size_eq_zero h0)
   simp;omega
 obtain⟨c,w1,hdraw,hw1,hci⟩:∃c w1,(choose (.mapNext cand.size)).run P w= .ok c w1∧(w1=w∨w1= { w with drawn:=w.drawn+1 })∧c<cand.size:=by
  simp only [choose,Sem.run]
  by_cases hf:(Question.mapNext cand.size).forced=true
  ·rw [if_pos hf]
   exact⟨0,w,rfl,.inl rfl,hpos⟩
  ·rw [if_neg hf]
   refine⟨_,_,rfl,.inr rfl,?_⟩;simp only [Question.cut];exact Nat.mod_lt _ hpos
 have H1:ba ρ h w1:=by
  rcases hw1 with rfl|rfl
  ·exact H
  ·exact H.drawn _
 have hheap:w1.heap=w.heap:=by rcases hw1 with rfl|rfl<;>rfl
 have hrun:(Instr.next (.pointer (some ⟨i,0,none⟩)) false u).run P w=
   ((match cand[c]? with
     |some (some e)=>do
      setObj i (.mapIter (some g) clock (seen.push e.born) clock)
      pure (.tuple #[.bool true,e.key,e.val])
     |some none=>pure (.tuple #[.bool false])
     |none=>stuck "Next: no such candidate" :Sem Value)).run P w1:=by
  simp only [Instr.next,Sem.run_bind,hget,hgetg,Result.andThen_ok,hgone,Bool.false_eq_true,if_false,hleft,hold,hnew,hcand,hdraw];generalize cand[c]? =x
  cases x with
  |none=>rfl
  |some x=>cases x<;>rfl
 rw [hrun];obtain⟨x,hat,hmem⟩:∃x,cand[c]? =some x∧x∈cand.toList:=⟨cand[c],Array.getElem?_eq_getElem hci,by simp⟩;rw [hat];rw [←hcand]at hmem
 cases x with
 |none=>
  have hz:left.isEmpty=true:=by
   by_cases hz:left.isEmpty
   ·exact hz
   ·rw [if_neg hz]at hmem;simp at hmem
  refine⟨_,w1,rfl,_,_,ρ,hk2 (fun e he=> ?_),rfl,trivial,H1,Ext.refl _ _,Nat.le_refl _,Mem.le_refl _⟩;obtain⟨x,hx,rfl⟩:=List.mem_map.1 he;refine Classical.byContradiction fun hn=> ?_
  have:=(hlm x).2 ⟨hx,hn⟩;rw [Array.isEmpty_iff.1 hz]at this;simp at this
 |some e=>
  have hel:e∈left.toList:=by
   by_cases hz:left.isEmpty
   ·rw [if_pos hz]at hmem;simpa using hmem
   ·rw [if_neg hz]at hmem;simpa using hmem
  obtain⟨hee,hes⟩:=(hlm e).1 hel;obtain⟨A',k1,k2,k3⟩:=eZ H1 hi (.mapIter (some g) clock (seen.push e.born) clock);have hne:g≠i:=fun e=>by subst e;rw [hb]at hi;cases hi
  refine⟨.tuple #[.bool true,e.key,e.val],_,?_,_,_,ρ,hk1 (e.key,e.val) (List.mem_map.2 ⟨e,hee,rfl⟩) hes A' k2 ⟨es,clock,seen.push e.born,by rw [k2 g hne];exact hb,rfl,hlt,hnd,hkn,k1,fun x hx=> ?_⟩ ?_,rfl,trivial,k3,Ext.refl _ _,Nat.le_refl _,Mem.dH _ _⟩
  ·have h4':w1.heap[i]? =some (.mapIter (some g) clock seen clock):=by rw [hheap];exact h4
   simp [setObj,Sem.run,h4']
  ·simp only [Array.toList_push,List.mem_append,List.mem_singleton]
   rw [hseen x hx];refine or_congr Iff.rfl ?_;have inj:∀ {β:Type} (f:MapEntry→β),(es.toList.map f).Nodup→f x=f e→x=e:=fun f hn he=>uv f hn hx hee he
   have hkn':(es.toList.map (·.key)).Nodup:=by
    have:(hZ es).map (·.1)=es.toList.map (·.key):=by simp [hZ,Function.comp_def]
    rw [←this];exact hkn
   exact⟨fun hh=>by rw [inj _ hnd hh],fun hh=>by rw [inj _ hkn' hh]⟩
  ·rw [A'.enteq]
   unfold BX;rw [k1];simp only [Array.back?_push];rw [k2 g hne,hb];simp only [BEq.rfl,cond_true,Option.map_eq_some_iff];refine⟨e,?_,rfl⟩;rw [←Array.find?_toList];refine List.find?_eq_some_iff_append.2 ⟨by simp,?_⟩;obtain⟨as,bs,hab⟩:=List.append_of_mem hee;refine⟨as,bs,hab,fun x hx=> ?_⟩;simp only [Bool.not_eq_true',beq_eq_false_iff_ne,ne_eq];intro hxe;rw [hab,List.map_append,List.map_cons]at hnd;exact(List.nodup_append.1 hnd).2.2 x.born (List.mem_map.2 ⟨x,hx,rfl⟩) e.born (by simp) hxe
def mapA(h:HS)(K:SV→HS→Bool):Bool:=h.M.D (∀g A',h.M.A.blk g=none→(∀b,b≠g→A'.blk b=h.M.A.blk b)→bX A' g []→K (.v (.map (some g))) (h.put A')=true)
theorem FE{P:Program}{h:HS}{t:TypeId}{K:SV→HS→Bool}(hk:mapA h K){ρ:Nat→Loc}{w:World}(H:ba ρ h w):
  ∃v w',(Instr.makeMap t none).run P w= .ok v w'∧dT ρ h K v w':=by
 have hk:=(h.M.X.hD _).1 hk;obtain⟨A',k1,k2,k3,k4⟩:=mr H (.map #[] 0) w.drawn;refine⟨.map (some w.heap.size),_,?_,_,_,ρ,hk w.heap.size A' k1 k3 ⟨#[],0,k2,rfl,by simp,by simp⟩,rfl,trivial,k4,Ext.refl _ _,Nat.le_refl _,Mem.dH _ _⟩;simp [Instr.makeMap]
theorem Gb{A:aa}{i:Nat}{v:Value}(h:A.ent i=some v):∃m since seen stepped st es clock e,A.blk i=some (.mapIter (some m) since seen stepped)∧seen.back? =some st∧A.blk m=some (.map es clock)∧clock=stepped∧es.find? (fun e=>e.born==st)=some e∧v= .tuple #[e.key,e.val]:=by
 rw [A.enteq]at h;unfold BX at h
 split at h
 ·rename_i m since seen stepped hi
  split at h
  ·rename_i st es clock hst hm
   cases hc:clock==stepped with
   |false=>rw [hc]at h;cases h
   |true=>
    rw [hc]at h;simp only [cond_true,Option.map_eq_some_iff]at h;obtain⟨e,he,rfl⟩:=h;exact⟨m,since,seen,stepped,st,es,clock,e,hi,hst,hm,by simpa using hc,he,rfl⟩
  ·cases h
 ·cases h
theorem Gc{P:Program}{h:HS}{i:Nat}{v:Value}(hv:h.M.A.ent i=some v){ρ:Nat→Loc}{w:World}(H:ba ρ h w):(Instr.entry (.pointer (some ⟨i,0,none⟩))).run P w= .ok v w:=by
 obtain⟨m,since,seen,stepped,st,es,clock,e,h1,h2,h3,h4,h5,rfl⟩:=Gb hv;have k1:=H.are i _ h1;have k2:=H.are m _ h3;have hget:(getObj i).run P w= .ok (.mapIter (some m) since seen stepped) w:=by simp [getObj,Sem.run,k1]
 have hgetm:(getObj m).run P w= .ok (.map es clock) w:=by simp [getObj,Sem.run,k2]
 simp [Instr.entry,hget,h2,hgetm,h4,h5]
end
end Go.Sx
