/-
  Parts of the proof: SxMb
-/
import Derived.Test.YtphigpccfbfnoaaGreatDoorG06
set_option maxRecDepth 100000
set_option maxHeartbeats 0
namespace Go.Sx
noncomputable section
theorem key1_eq{k x:Value}(ha:AU k x=true)(h:yn k x=true):x=k:=by
 unfold AU at ha
 split at ha
 ·simp only [yn]at h
  rw [bytes_beq h]
 ·simp only [yn]at h
  rw [eq_of_beq h,of_decide_eq_true ha]
 ·simp only [yn]at h
  rw [eq_of_beq h]
 ·cases ha
theorem BI:∀ {ks xs:List Value},lM ks xs=true→wq ks xs=true→xs=ks
 | [], [],_,_=>rfl
 | [],_::_,h,_=>by cases h
 |_::_, [],h,_=>by cases h
 |k::ks,x::xs,h,h'=>by
  simp only [lM,Bool.and_eq_true]at h;simp only [wq,Bool.and_eq_true]at h';rw [key1_eq h.1 h'.1,BI h.2 h'.2]
def dU(P:Program):List Field→List Value→Nat→Bool
 | [], [],_=>true
 |f::fs,v::vs,i=>bif Nat.beq f.offset i&& !(f.name== "_")then(match ty P f.type with
  |some s=>eD s.und v&&dU P fs vs (i+1)
  |none=>false)else false
 |_,_,_=>false
theorem nk{P:Program}{f:Field}{fs:List Field}{v:Value}{vs:List Value}{i:Nat}(h:dU P (f::fs) (v::vs) i=true):
  f.offset=i∧f.name≠ "_" ∧(∃s,ty P f.type=some s∧eD s.und v=true)∧dU P fs vs (i+1)=true:=by
 simp only [dU]at h
 cases hb:Nat.beq f.offset i&& !(f.name== "_")with
 |false=>rw [hb]at h;cases h
 |true=>
  rw [hb]at h;simp only [cond_true]at h;simp only [Bool.and_eq_true,Bool.not_eq_true',beq_eq_false_iff_ne,ne_eq]at hb
  split at h
  ·rename_i s hs
   simp only [Bool.and_eq_true]at h;exact⟨Nat.eq_of_beq_eq_true hb.1,hb.2,⟨s,hs,h.1⟩,h.2⟩
  ·cases h
theorem ov{P:Program} :∀(fs:List Field) (ks xs:List Value) (i:Nat),dU P fs ks i=true→lM ks xs=true→cV fs (ks.map .v) (xs.map .v) i (ty P)=some (wq ks xs)
 | [], [], [],_,_,_=>rfl
 | [], [],_::_,_,_,h=>by cases h
 | [],_::_,_,_,h,_=>by cases h
 |_::_, [],_,_,h,_=>by cases h
 |_::_,_::_, [],_,_,h=>by cases h
 |f::fs,k::ks,x::xs,i,h,ha=>by
  obtain⟨ho,hn,⟨s,hs,hf⟩,hr⟩:=nk h;simp only [lM,Bool.and_eq_true]at ha;have ih:=ov fs ks xs (i+1) hr ha.2
  have hb:(!(Nat.beq f.offset i)||(f.name== "_"))=false:=by
   rw [ho,Nat.beq_refl];simpa using hn
  simp only [List.map_cons,cV,hb,cond_false,hs,ih,wq];have ha1:=ha.1
  cases hu:s.und with
  |int kd=>
   rw [hu]at hf
   cases k with
   |int q a=>
    cases x with
    |int q' b=>
     have:=of_decide_eq_true ha1;subst this;simp only [iX.2 rfl,cond_true,Option.map_some,yn];rfl
    |_=>cases ha1
   |_=>cases hf
  |string=>
   rw [hu]at hf
   cases k with
   |string a=>
    cases x with
    |string b=>
     simp only [SV.str?,Option.map_some,yn];rw [cP,beq_toListBytes,ByteArray.toList_eq,ByteArray.toList_eq]
    |_=>cases ha1
   |_=>cases hf
  |bool=>
   rw [hu]at hf
   cases k with
   |bool a=>
    cases x with
    |bool b=>simp only [Option.map_some,yn]
    |_=>cases ha1
   |_=>cases hf
  |_=>
   rw [hu]at hf
   cases hf
theorem yb(ρ:Nat→Loc)(l:List Value):(l.map SV.v).map (SV.den ρ)=l:=by
 rw [List.map_map];exact List.map_id _
theorem Ar{P:Program}{t:TypeId}{s:STy}{fs:Array Field}(hs:ty P t=some s)(hd:s.und= .struct fs)(hh:P.stoodInHeld t=false){ks xs:List Value}(hf:dU P fs.toList ks 0=true)(ha:lM ks xs=true)(w:World):
  (Op.equal t (.agg ks.toArray) (.agg xs.toArray)).run P w= .ok (wq ks xs) w:=by
 have hu:=(bZ hs).und;rw [hd]at hu;have hff:P.fieldsOf t=fs:=by simp [Program.fieldsOf,hu]
 have h1:=run_equalIn_struct (P:=P) w (9998+1) t ks.toArray xs.toArray (by rw [hff];exact hu) hh;rw [hff]at h1;show(Op.equalIn (9998+2) t _ _).run P w=_
 rw [h1];have h2:=lE (ρ:=fun _=>⟨0,0,0⟩) 9998 w fs.toList (ks.map .v) (xs.map .v) [] [] _ (ov fs.toList ks xs 0 hf ha) rfl;rw [List.nil_append,List.nil_append,yb,yb]at h2;exact h2
theorem qo{P:Program}{t:TypeId}{s:STy}{fs:Array Field}(hs:ty P t=some s)(hd:s.und= .struct fs)(hh:P.stoodInHeld t=false){ks:List Value}(hf:dU P fs.toList ks 0=true)(v:Value)(w:World):∀(es:List MapEntry) (i:Nat),(∀e∈es,de (.agg ks.toArray) e.key=true)→
  ((Instr.findAsking t (.agg ks.toArray) es i).run P w= .ok none w∧iN (.agg ks.toArray) (es.map aX)=none∧cA (.agg ks.toArray) v (es.map aX)=es.map aX++ [(.agg ks.toArray,v)]∧ib (.agg ks.toArray) (es.map aX)=es.map aX)∨
  ∃j e,(Instr.findAsking t (.agg ks.toArray) es i).run P w= .ok (some (i+j,e.val)) w∧es[j]? =some e∧e.key= .agg ks.toArray∧iN (.agg ks.toArray) (es.map aX)=some e.val∧cA (.agg ks.toArray) v (es.map aX)=(es.modify j fun e=> { e with key:= .agg ks.toArray,val:=v }).map aX∧ib (.agg ks.toArray) (es.map aX)=(es.eraseIdx j).map aX
 | [],i,_=> .inl ⟨rfl,rfl,rfl,rfl⟩
 |e::es,i,ha=>by
  have h0:=ha e (by simp)
  obtain⟨xs,hx⟩:∃xs:List Value,e.key= .agg xs.toArray:=by
   cases hk:e.key with
   |agg cs=>exact⟨cs.toList,by simp⟩
   |_=>rw [hk]at h0;cases h0
  have h0':lM ks xs=true:=by rw [hx]at h0;simpa [de]using h0
  have heq:=Ar hs hd hh hf h0' w;have hki:gv (.agg ks.toArray) e.key=wq ks xs:=by rw [hx];simp [gv]
  cases hk:wq ks xs with
  |true=>
   rw [hk]at heq hki;have he:e.key= .agg ks.toArray:=by rw [hx,BI h0' hk]
   refine .inr ⟨0,e,?_,rfl,he,?_,?_,?_⟩
   ·simp only [Instr.findAsking,Sem.run_bind,hx,heq,Result.andThen_ok,if_true,Sem.run_pure,Nat.add_zero]
   ·simp only [List.map_cons,iN,aX,hki,cond_true]
   ·simp only [List.map_cons,cA,aX,hki,cond_true,List.modify_zero_cons]
   ·simp only [List.map_cons,ib,aX,hki,cond_true,List.eraseIdx_cons_zero]
  |false=>
   rw [hk]at heq hki;rcases qo hs hd hh hf v w es (i+1) (fun x hx=>ha x (by simp [hx]))with⟨h1,h2,h3,h4⟩|⟨j,x,h1,h2,h3,h4,h5,h6⟩
   ·refine .inl ⟨?_,?_,?_,?_⟩
    ·simp only [Instr.findAsking,Sem.run_bind,hx,heq,Result.andThen_ok,Bool.false_eq_true,if_false,h1]
    ·simp only [List.map_cons,iN,aX,hki,cond_false];exact h2
    ·simp only [List.map_cons,cA,show(aX e).1=e.key from rfl,hki,cond_false,h3,List.cons_append]
    ·simp only [List.map_cons,ib,show(aX e).1=e.key from rfl,hki,cond_false,h4]
   ·refine .inr ⟨j+1,x,?_,by simpa using h2,h3,?_,?_,?_⟩
    ·simp only [Instr.findAsking,Sem.run_bind,hx,heq,Result.andThen_ok,Bool.false_eq_true,if_false,h1];congr 3;omega
    ·simp only [List.map_cons,iN,aX,hki,cond_false];exact h4
    ·simp only [List.map_cons,cA,show(aX e).1=e.key from rfl,hki,cond_false,h5,List.modify_succ_cons]
    ·simp only [List.map_cons,ib,show(aX e).1=e.key from rfl,hki,cond_false,h6,List.eraseIdx_cons_succ]
theorem ou{P:Program}{t:TypeId}{s:STy}{fs:Array Field}(hs:ty P t=some s)(hd:s.und= .struct fs)(hh:P.stoodInHeld t=false){ks:List Value}(hf:dU P fs.toList ks 0=true)(v:Value)(es:List MapEntry)(ha:∀e∈es,de (.agg ks.toArray) e.key=true)(w:World):
  ((Instr.findKey t (.agg ks.toArray) es).run P w= .ok none w∧iN (.agg ks.toArray) (es.map aX)=none∧cA (.agg ks.toArray) v (es.map aX)=es.map aX++ [(.agg ks.toArray,v)]∧ib (.agg ks.toArray) (es.map aX)=es.map aX)∨
  ∃j e,(Instr.findKey t (.agg ks.toArray) es).run P w= .ok (some (j,e.val)) w∧es[j]? =some e∧e.key= .agg ks.toArray∧iN (.agg ks.toArray) (es.map aX)=some e.val∧cA (.agg ks.toArray) v (es.map aX)=(es.modify j fun e=> { e with key:= .agg ks.toArray,val:=v }).map aX∧ib (.agg ks.toArray) (es.map aX)=(es.eraseIdx j).map aX:=by
 have hrun:(Instr.findKey t (.agg ks.toArray) es).run P w=(Instr.findAsking t (.agg ks.toArray) es 0).run P w:=by
  simp only [Instr.findKey,Sem.run_bind,aA w hs,Result.andThen_ok,hd]
  cases es with
  |nil=>rfl
  |cons e es=>rfl
 rw [hrun];rcases qo hs hd hh hf v w es 0 ha with h|⟨j,e,h1,h2⟩
 ·exact .inl h
 ·exact .inr ⟨j,e,by rw [h1,Nat.zero_add],h2⟩
theorem mL{P:Program}{t:TypeId}{s:STy}{fs:Array Field}(hs:ty P t=some s)(hd:s.und= .struct fs){ks:List Value}(hf:dU P fs.toList ks 0=true)(b:Bool)(w:World):
  (Instr.checkKey b 10000 t (.agg ks.toArray)).run P w= .ok () w:=by
 show(Instr.checkKey b (9999+1) t (.agg ks.toArray)).run P w= .ok () w
 rw [Instr.checkKey];simp only [Sem.run_bind,aA w hs,hd,Result.andThen_ok];rw [←Array.forIn_toList]
 have key:∀(L:List Field) (pre vs:List Value),dU P L vs pre.length=true→ks=pre++vs→∀f∈L,f.name≠ "_" ∧∃sf c,ty P f.type=some sf∧eD sf.und c=true∧ks.toArray[f.offset]? =some c:=by
  intro L
  induction L with
  |nil=>intro _ _ _ _ f hf;cases hf
  |cons f L ih=>
   intro pre vs h hk g hg
   cases vs with
   |nil=>cases h
   |cons c vs=>
    obtain⟨ho,hn,⟨sf,hsf,hfit⟩,hr⟩:=nk h;rcases List.mem_cons.1 hg with rfl|hg
    ·refine⟨hn,sf,c,hsf,hfit,?_⟩
     rw [ho,List.getElem?_toArray,hk];simp
    ·exact ih (pre++ [c]) vs (by simpa using hr) (by rw [hk];simp) g hg
 have each:=key fs.toList [] ks hf rfl;generalize fs.toList=L at each;clear key hf
 induction L with
 |nil=>simp
 |cons f L ih=>
  obtain⟨hn,sf,c,h1,h2,h3⟩:=each f (by simp);have hp:=eR h2
  have hna:TypeDesc.isAgg sf.und=false:=by
   cases hu:sf.und<;>rw [hu]at hp<;>first|rfl|cases hp
  have p1:=jD (P:=P) h1 hna h3 w;have p2:=ej (P:=P) h1 hp b 9998 c w;simp only [List.forIn_cons,Sem.run_bind,hn,ne_eq,not_false_eq_true,if_true,Result.andThen_ok,p1,p2,Sem.run_pure];exact ih fun y hy=>each y (by simp [hy])
theorem mD{P:Program} :∀(fs:List Field) (ks:List Value) (i n:Nat),dU P fs ks i=true→((ks.zip ks).all fun(x,y)=>Instr.sameBits n x y)=true
 | [], [],_,_,_=>rfl
 | [],_::_,_,_,h=>by cases h
 |_::_, [],_,_,h=>by cases h
 |f::fs,k::ks,i,n,h=>by
  obtain⟨_,_,⟨s,_,hf⟩,hr⟩:=nk h;have ih:=mD fs ks (i+1) n hr;rw [List.zip_cons_cons,List.all_cons,ih,Bool.and_true];unfold eD at hf
  split at hf
  ·cases n<;>simp [Instr.sameBits]
  ·cases n<;>(simp only [Instr.sameBits];rw [beq_toListBytes];simp)
  ·cases n<;>simp [Instr.sameBits]
  ·cases hf
theorem oe{P:Program}{fs:List Field}{ks:List Value}(hf:dU P fs ks 0=true)(w:World):(Instr.keyThatStays (.agg ks.toArray) (.agg ks.toArray)).run P w= .ok (.agg ks.toArray) w:=by
 have h:=mD fs ks 0 9999 hf
 have:Instr.sameBits 10000 (.agg ks.toArray) (.agg ks.toArray)=true:=by
  show Instr.sameBits (9999+1) _ _=true
  simp only [Instr.sameBits,BEq.rfl,Bool.true_and];exact h
 simp [Instr.keyThatStays,this]
def keyS(P:Program)(fs:Array Field)(k:SV):Option (List Value):=match k.aggs? with
 |some xs=>match je xs with
  |some vs=>bif dU P fs.toList vs 0 then some vs else none
  |none=>none
 |none=>none
theorem ym{P:Program}{fs:Array Field}{k:SV}{vs:List Value}(h:keyS P fs k=some vs)(ρ:Nat→Loc):k.den ρ= .agg vs.toArray∧dU P fs.toList vs 0=true:=by
 unfold keyS at h
 split at h
 ·rename_i xs hx
  split at h
  ·rename_i ws hw
   cases hf:dU P fs.toList ws 0 with
   |false=>rw [hf]at h;cases h
   |true=>
    rw [hf]at h;injection h with h
    subst h;exact⟨by rw [SV.e8 hx,eI ρ xs ws hw],hf⟩
  ·cases h
 ·cases h
def CU(P:Program)(h:HS)(kt:TypeId)(fs:Array Field)(g:Nat)(k v:SV)(K:SV→HS→Bool):Bool:=match keyS P fs k,vG v with
 |some ks,some vv=>h.M.D (P.stoodInHeld kt=false∧∃l,bX h.M.A g l∧(∀e∈l,de (.agg ks.toArray) e.1=true)∧∀A',bX A' g (cA (.agg ks.toArray) vv l)→(∀b,b≠g→A'.blk b=h.M.A.blk b)→K (.v (.tuple #[])) (h.put A')=true)
 |_,_=>false
def putB(P:Program)(h:HS)(t:TypeId)(g:Nat)(k v:SV)(K:SV→HS→Bool):Bool:=match ty P t with
 |none=>false
 |some s=>match s.und with
  | .map kt _=>match ty P kt with
    |some sk=>match sk.und with
     | .struct fs=>CU P h kt fs g k v K
     |_=>putA P h t g k v K
    |none=>false
  |_=>false
theorem Fa{P:Program}{h:HS}{t:TypeId}{g:Nat}{k v:SV}{K:SV→HS→Bool}(hk:putB P h t g k v K){ρ:Nat→Loc}{w:World}(H:ba ρ h w):
  ∃w',(Instr.mapUpdate t (.map (some g)) (k.den ρ) (v.den ρ)).run P w= .ok () w'∧dT ρ h K (.tuple #[]) w':=by
 unfold putB at hk
 split at hk
 ·exact absurd hk Bool.false_ne_true
 ·rename_i s hs
  split at hk
  ·rename_i kt et hd
   split at hk
   ·rename_i sk hsk
    split at hk
    ·rename_i fs hfs
     unfold CU at hk
     split at hk
     ·rename_i ks vv hks hvv
      obtain⟨hheld,l,⟨es,clock,hb,rfl,hlt,hnd⟩,ha,hk⟩:=(h.M.X.hD _).1 hk;obtain⟨hke,hf⟩:=ym hks ρ;have ha:∀e∈es.toList,de (.agg ks.toArray) e.key=true:=fun e he=>ha (aX e) (List.mem_map.2 ⟨e,he,rfl⟩)
      have h3:=H.are g _ hb;have hget:(getObj g).run P w= .ok (.map es clock) w:=by simp [getObj,Sem.run,h3]
      have hcheck:∀b,(Instr.checkKey b 10000 kt (.agg ks.toArray)).run P w= .ok () w:=fun b=>mL hsk hfs hf b w
      rw [rK hvv ρ,hke];rcases ou (P:=P) hsk hfs hheld hf vv es.toList ha w with⟨h1,_,h2,_⟩|⟨j,e,h1,he,hek,_,h2,_⟩
      ·obtain⟨A',k1,k2,k3⟩:=eZ H hb (.map (es.push { key:= .agg ks.toArray,val:=vv,born:=clock }) (clock+1))
       refine⟨_,?_,_,_,ρ,hk A' ⟨_,_,k1,?_,?_,?_⟩ k2,rfl,trivial,k3,Ext.refl _ _,Nat.le_refl _,Mem.dH _ _⟩
       ·simp only [Instr.mapUpdate,Sem.run_bind,aA w hs,hd,Result.andThen_ok,hget,hcheck,h1]
        simp [setObj,Sem.run,h3]
       ·rw [bR es,h2,bR];simp [aX]
       ·intro x hx
        simp only [Array.toList_push,List.mem_append,List.mem_singleton]at hx;rcases hx with hx|rfl
        ·have:=hlt x hx;omega
        ·show clock<clock+1;omega
       ·simp only [Array.toList_push,List.map_append,List.map_cons,List.map_nil]
        refine List.nodup_append.2 ⟨hnd,by simp,fun a ha' b hb'=> ?_⟩;obtain⟨x,hx,rfl⟩:=List.mem_map.1 ha';have:=hlt x hx;simp only [List.mem_singleton]at hb';omega
      ·obtain⟨A',k1,k2,k3⟩:=eZ H hb (.map (es.modify j fun e=> { e with key:= .agg ks.toArray,val:=vv }) clock)
       have hmod:(es.modify j fun e=> { e with key:= .agg ks.toArray,val:=vv }).toList=es.toList.modify j fun e=> { e with key:= .agg ks.toArray,val:=vv } :=by simp
       refine⟨_,?_,_,_,ρ,hk A' ⟨_,_,k1,?_,?_,?_⟩ k2,rfl,trivial,k3,Ext.refl _ _,Nat.le_refl _,Mem.dH _ _⟩
       ·have hej:es[j]? =some e:=by simpa using he
        simp only [Instr.mapUpdate,Sem.run_bind,aA w hs,hd,Result.andThen_ok,hget,hcheck,h1,hej,Option.map_some,Option.getD_some,hek,oe hf w];simp [setObj,Sem.run,h3]
       ·rw [bR es,h2,bR,hmod]
       ·rw [hmod]
        refine qk ?_;rw [gS (fun e=> { e with key:= .agg ks.toArray,val:=vv }) (fun _=>rfl)];intro b hb';obtain⟨x,hx,rfl⟩:=List.mem_map.1 hb';exact hlt x hx
       ·rw [hmod,gS (fun e=> { e with key:= .agg ks.toArray,val:=vv }) (fun _=>rfl)]
        exact hnd
     ·exact absurd hk Bool.false_ne_true
    ·exact Fb hk H
   ·exact absurd hk Bool.false_ne_true
  ·exact absurd hk Bool.false_ne_true
def delS(P:Program)(h:HS)(kt:TypeId)(fs:Array Field)(g:Nat)(k:SV)(K:SV→HS→Bool):Bool:=match keyS P fs k with
 |some ks=>h.M.D (P.stoodInHeld kt=false∧∃l,bX h.M.A g l∧(∀e∈l,de (.agg ks.toArray) e.1=true)∧∀A',bX A' g (ib (.agg ks.toArray) l)→(∀b,b≠g→A'.blk b=h.M.A.blk b)→(∀i sk,ey h.M.A i g l sk→ey A' i g (ib (.agg ks.toArray) l) sk)→K (.v (.tuple #[])) (h.put A')=true)
 |none=>false
def delB(P:Program)(h:HS)(kt:TypeId)(g:Nat)(k:SV)(K:SV→HS→Bool):Bool:=match ty P kt with
 |some sk=>match sk.und with
  | .struct fs=>delS P h kt fs g k K
  |_=>delA P h kt g k K
 |none=>false
theorem yQ{P:Program}{h:HS}{t kt et:TypeId}{s:STy}(hs:ty P t=some s)(hd:s.und= .map kt et){ts:List TypeId}{g:Nat}{k:SV}{K:SV→HS→Bool}(hk:delB P h kt g k K){ρ:Nat→Loc}{w:World}(H:ba ρ h w)(u:TypeId):
  ∃v w',(Builtin.delete_ (t::ts).toArray u #[.map (some g),k.den ρ]).run P w= .ok v w'∧dT ρ h K v w':=by
 have h0:(t::ts).toArray[0]? =some t:=by simp
 unfold delB at hk
 split at hk
 ·rename_i sk hsk
  split at hk
  ·rename_i fs hfs
   unfold delS at hk
   split at hk
   ·rename_i ks hks
    obtain⟨hheld,l,⟨es,clock,hb,rfl,hlt,hnd⟩,ha,hk⟩:=(h.M.X.hD _).1 hk;obtain⟨hke,hf⟩:=ym hks ρ;have ha:∀e∈es.toList,de (.agg ks.toArray) e.key=true:=fun e he=>ha (aX e) (List.mem_map.2 ⟨e,he,rfl⟩)
    have h3:=H.are g _ hb;have hget:(getObj g).run P w= .ok (.map es clock) w:=by simp [getObj,Sem.run,h3]
    have hcheck:∀b,(Instr.checkKey b 10000 kt (.agg ks.toArray)).run P w= .ok () w:=fun b=>mL hsk hfs hf b w
    rw [hke];rcases ou (P:=P) hsk hfs hheld hf (.bool false) es.toList ha w with⟨h1,_,_,h2⟩|⟨j,e,h1,he,hek,_,_,h2⟩
    ·obtain⟨A',k1,k2,k3⟩:=eZ H hb (.map es clock)
     refine⟨.tuple #[],_,?_,_,_,ρ,hk A' ⟨_,_,k1,?_,hlt,hnd⟩ k2 (fun i sk hI=> ?_),rfl,trivial,k3,Ext.refl _ _,Nat.le_refl _,Mem.dH _ _⟩
     ·simp only [Builtin.delete_,h0,List.getElem?_toArray,List.getElem?_cons_zero,List.getElem?_cons_succ,Sem.run_bind,aA w hs,hd,Result.andThen_ok,hget,hcheck,h1]
      simp [setObj,Sem.run,h3]
     ·rw [bR,h2]
     ·rw [bR,h2]
      rw [bR]at hI
      exact hI.sub fun b o hbb ho=>by
       by_cases e:b=g
       ·subst e
        rw [hb]at ho;rw [k1];exact ho
       ·rw [k2 b e];exact ho
    ·obtain⟨A',k1,k2,k3⟩:=eZ H hb (.map (es.eraseIdxIfInBounds j) clock)
     have hj:j<es.size:=by
      have:=(List.getElem?_eq_some_iff.1 he).1;simpa using this
     have her:(es.eraseIdxIfInBounds j).toList=es.toList.eraseIdx j:=by simp
     have hents:hZ (es.eraseIdxIfInBounds j)=ib (.agg ks.toArray) (hZ es):=by rw [bR es,h2,bR,her]
     refine⟨.tuple #[],_,?_,_,_,ρ,hk A' ⟨_,_,k1,hents,fun x hx=>hlt x ?_,?_⟩ k2 (fun i sk hI=> ?_),rfl,trivial,k3,Ext.refl _ _,Nat.le_refl _,Mem.dH _ _⟩
     ·simp only [Builtin.delete_,h0,List.getElem?_toArray,List.getElem?_cons_zero,List.getElem?_cons_succ,Sem.run_bind,aA w hs,hd,Result.andThen_ok,hget,hcheck,h1]
      simp [setObj,Sem.run,h3]
     ·rw [her]at hx
      exact List.mem_of_mem_eraseIdx hx
     ·rw [her,map_eraseIdx]
      exact hnd.sublist (List.eraseIdx_sublist _ _)
     ·obtain⟨es',clock',seen,i1,i2,i3,i4,i5,i6,i7⟩:=hI
      rw [hb]at i1;injection i1 with i1
      injection i1 with i1 i1'
      subst i1;subst i1'
      have hig:i≠g:=fun e=>by rw [e,hb]at i6;cases i6
      refine⟨_,clock,seen,k1,hents,fun x hx=>hlt x ?_,?_,?_,by rw [k2 i hig];exact i6,fun x hx=>i7 x ?_⟩
      ·rw [her]at hx
       exact List.mem_of_mem_eraseIdx hx
      ·rw [her,map_eraseIdx]
       exact hnd.sublist (List.eraseIdx_sublist _ _)
      ·rw [←hents,bR,her,map_eraseIdx,map_eraseIdx]
       rw [bR]at i5;exact i5.sublist (List.eraseIdx_sublist _ _)
      ·rw [her]at hx
       exact List.mem_of_mem_eraseIdx hx
   ·exact absurd hk Bool.false_ne_true
  ·exact Gk hs hd hk H u
 ·exact absurd hk Bool.false_ne_true
end
end Go.Sx
