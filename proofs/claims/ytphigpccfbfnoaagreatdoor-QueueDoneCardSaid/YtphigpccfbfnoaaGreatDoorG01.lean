/-
  Parts of the proof: SxA SxB
-/
import Derived.Calls
import Derived.Laws.Sem
import Derived.Below
import Derived.Laws.Entries
import Derived.Laws.Strings
set_option maxRecDepth 100000
set_option maxHeartbeats 0
namespace Go.Sx
noncomputable section
variable {dfs : List Deferred}
inductive T(α:Type) where
 |e
 |n (l:T α) (v:Option α) (r:T α)
namespace T
variable {α:Type}
theorem rC{β:Type}(b:Bool)(x y:β):Bool.rec (motive:=fun _=>β) y x b=cond b x y:=by cases b<;>rfl
def get(t:T α):Nat→Option α:=
 T.rec (motive:=fun _=>Nat→Option α) (fun _=>none) (fun _ v _ gl gr i=>Nat.rec (motive:=fun _=>Option α) v (fun j _=>Bool.rec (motive:=fun _=>Option α) (gr (Nat.div j 2)) (gl (Nat.div j 2)) (Nat.beq (Nat.mod j 2) 0)) i) t
def oN(f:Nat):T α→Nat→Option α→T α:=
 Nat.rec (motive:=fun _=>T α→Nat→Option α→T α) (fun _ _ _=> .e)
  (fun _ ih t i x=>T.rec (motive:=fun _=>T α)
    (Nat.rec (motive:=fun _=>T α) (.n .e x .e) (fun j _=>Bool.rec (motive:=fun _=>T α) (.n .e none (ih .e (Nat.div j 2) x)) (.n (ih .e (Nat.div j 2) x) none .e) (Nat.beq (Nat.mod j 2) 0)) i)
    (fun l v r _ _=>Nat.rec (motive:=fun _=>T α) (.n l x r) (fun j _=>Bool.rec (motive:=fun _=>T α) (.n l v (ih r (Nat.div j 2) x)) (.n (ih l (Nat.div j 2) x) v r) (Nat.beq (Nat.mod j 2) 0)) i) t) f
theorem FZ(l:T α)(v:Option α)(r:T α):(T.n l v r).get 0=v:=rfl
theorem pJ(l:T α)(v:Option α)(r:T α)(j:Nat):(T.n l v r).get (j+1)=bif Nat.beq (j%2) 0 then l.get (j/2)else r.get (j/2):=rC _ _ _
theorem setF_0(t:T α)(i:Nat)(x:Option α):oN 0 t i x= .e:=rfl
theorem Bp(f:Nat)(x:Option α):oN (f+1) (.e:T α) 0 x= .n .e x .e:=rfl
theorem vq(f j:Nat)(x:Option α):oN (f+1) (.e:T α) (j+1) x=bif Nat.beq (j%2) 0 then .n (oN f .e (j/2) x) none .e else .n .e none (oN f .e (j/2) x):=rC _ _ _
theorem vo(f:Nat)(l:T α)(v:Option α)(r:T α)(j:Nat)(x:Option α):oN (f+1) (.n l v r) (j+1) x=bif Nat.beq (j%2) 0 then .n (oN f l (j/2) x) v r else .n l v (oN f r (j/2) x):=rC _ _ _
def set(t:T α)(i:Nat)(x:α):T α:=oN 32 t i (some x)
def del(t:T α)(i:Nat):T α:=oN 32 t i none
theorem eE(i:Nat):(T.e:T α).get i=none:=rfl
theorem qS{b:Bool}{j m:Nat}(hb:Nat.beq (j%2) 0=b)(hm:Nat.beq (m%2) 0=b)(h:m/2=j/2):m=j:=by
 cases b
 ·have h1:j%2≠0:=fun e=>by rw [e]at hb;cases hb
  have h2:m%2≠0:=fun e=>by rw [e]at hm;cases hm
  omega
 ·have h1:=Nat.eq_of_beq_eq_true hb
  have h2:=Nat.eq_of_beq_eq_true hm;omega
theorem yD:∀(f:Nat) (t:T α) (i k:Nat) (x:Option α) (y:α),(oN f t i x).get k=some y→(k=i∧x=some y)∨(k≠i∧t.get k=some y):=by
 intro f
 induction f with
 |zero=>intro t i k x y h;rw [setF_0,eE]at h;cases h
 |succ f ih=>
  intro t i k x y h
  cases t with
  |e=>
   cases i with
   |zero=>
    cases k with
    |zero=>exact .inl ⟨rfl,h⟩
    |succ m=>simp only [Bp,pJ,eE]at h;cases hb:Nat.beq (m%2) 0<;>simp [hb]at h
   |succ j=>
    simp only [vq]at h
    cases hb:Nat.beq (j%2) 0<;>rw [hb]at h<;>simp only [cond_true,cond_false]at h<;>cases k with
    |zero=>simp [FZ]at h
    |succ m=>
     simp only [pJ]at h
     cases hm:Nat.beq (m%2) 0<;>rw [hm]at h<;>simp only [cond_true,cond_false]at h
     all_goals first
      |(cases h;done)
      |(rw [eE]at h;cases h;done)
      |(rcases ih _ _ _ _ _ h with⟨h1,h2⟩|⟨h1,h2⟩
        ·exact .inl ⟨by rw [qS hb hm h1],h2⟩
        ·rw [eE]at h2;cases h2)
  |n l v r=>
   cases i with
   |zero=>
    cases k with
    |zero=>exact .inl ⟨rfl,h⟩
    |succ m=>exact .inr ⟨by omega,h⟩
   |succ j=>
    simp only [vo]at h
    cases hb:Nat.beq (j%2) 0<;>rw [hb]at h<;>simp only [cond_true,cond_false]at h<;>cases k with
    |zero=>exact .inr ⟨by omega,h⟩
    |succ m=>
     simp only [pJ]at h ⊢
     cases hm:Nat.beq (m%2) 0<;>rw [hm]at h<;>simp only [cond_true,cond_false]at h ⊢
     all_goals first
      |(rcases ih _ _ _ _ _ h with⟨h1,h2⟩|⟨h1,h2⟩
        ·exact .inl ⟨by rw [qS hb hm h1],h2⟩
        ·exact .inr ⟨fun e=>h1 (by omega),h2⟩)
      |exact .inr ⟨fun e=>(by
        have e':m=j:=by omega
        subst e';rw [hb]at hm;cases hm),h⟩
theorem cI{t:T α}{i k:Nat}{x y:α}(h:(t.set i x).get k=some y):(k=i∧x=y)∨(k≠i∧t.get k=some y):=by
 rcases yD _ _ _ _ _ _ h with⟨h1,h2⟩|h
 ·exact .inl ⟨h1,by injection h2⟩
 ·exact .inr h
theorem dD{t:T α}{i k:Nat}{y:α}(h:(t.del i).get k=some y):k≠i∧t.get k=some y:=by
 rcases yD _ _ _ _ _ _ h with⟨h1,h2⟩|h
 ·cases h2
 ·exact h
def vQ:Nat→List α→T α→T α
 |_, [],t=>t
 |i,x::xs,t=>vQ (i+1) xs (t.set i x)
theorem yE:∀(l:List α) (i:Nat) (t:T α) (k:Nat) (y:α),(vQ i l t).get k=some y→(i≤k∧l[k-i]? =some y)∨t.get k=some y:=by
 intro l
 induction l with
 |nil=>intro i t k y h;exact .inr h
 |cons x xs ih=>
  intro i t k y h;rcases ih _ _ _ _ h with⟨h1,h2⟩|h
  ·refine .inl ⟨by omega,?_⟩
   rw [show k-i=(k-(i+1))+1 by omega];exact h2
  ·rcases cI h with⟨rfl,rfl⟩|⟨_,h⟩
   ·exact .inl ⟨Nat.le_refl _,by simp⟩
   ·exact .inr h
def ofList(l:List α):T α:=vQ 0 l .e
theorem Al{l:List α}{k:Nat}{y:α}(h:(ofList l).get k=some y):l[k]? =some y:=by
 rcases yE _ _ _ _ _ h with⟨_,h⟩|h
 ·exact h
 ·rw [eE]at h;cases h
end T
structure Loc where
 blk:Nat
 off:Nat
 cap:Nat
inductive df where
 |lit (c:Nat)
 |sub (b d:Nat)
inductive SV where
 |v (x:Value)
 |str (l:List UInt8)
 |ptr (b o:Nat)
 |slc (b o l:Nat) (c:df)
 |mp (b:Nat)
 |agg (cs:List SV)
 |tup (vs:List SV)
 |ifc (t:TypeId) (x:SV)
 |fn (f:FuncId) (caps:List SV)
instance :Inhabited SV:=⟨.v (.bool false)⟩
def df.den(ρ:Nat→Loc):df→Nat
 | .lit c=>c
 | .sub b d=>(ρ b).cap-d
def df.lt(n:Nat):df→Prop
 | .lit _=>True
 | .sub b _=>b<n
mutual
def SV.den(ρ:Nat→Loc):SV→Value
 | .v x=>x
 | .str l=> .string ⟨l.toArray⟩
 | .ptr b o=> .pointer (some ⟨(ρ b).blk,(ρ b).off+o,none⟩)
 | .slc b o l c=> .slice (some ⟨(ρ b).blk,(ρ b).off+o,none⟩) l (c.den ρ)
 | .mp b=> .map (some (ρ b).blk)
 | .agg cs=> .agg (SV.iO ρ cs).toArray
 | .tup cs=> .tuple (SV.iO ρ cs).toArray
 | .ifc t x=> .iface t (x.den ρ)
 | .fn f cs=> .func (.func f) #[] (SV.iO ρ cs).toArray
def SV.iO(ρ:Nat→Loc):List SV→List Value
 | []=> []
 |x::xs=>x.den ρ::SV.iO ρ xs
end
mutual
def SV.lt(ρ:Nat→Loc)(n:Nat):SV→Prop
 | .v _| .str _=>True
 | .ptr b _=>b<n
 | .slc b _ l c=>b<n∧c.lt n∧l≤c.den ρ
 | .mp b=>b<n
 | .agg cs=>SV.lts ρ n cs
 | .tup cs=>SV.lts ρ n cs
 | .ifc _ x=>x.lt ρ n
 | .fn _ cs=>SV.lts ρ n cs
def SV.lts(ρ:Nat→Loc)(n:Nat):List SV→Prop
 | []=>True
 |x::xs=>x.lt ρ n∧SV.lts ρ n xs
end
theorem dP(ρ:Nat→Loc)(l:List SV):SV.iO ρ l=l.map (SV.den ρ):=by
 induction l with
 |nil=>rfl
 |cons x xs ih=>simp [SV.iO,ih]
theorem eh{ρ:Nat→Loc}{n:Nat}{l:List SV} :SV.lts ρ n l↔∀x∈l,x.lt ρ n:=by
 induction l with
 |nil=>simp [SV.lts]
 |cons x xs ih=>simp [SV.lts,ih]
def Ext(ρ ρ':Nat→Loc)(n:Nat):Prop:=∀b,b<n→ρ' b=ρ b
theorem Ext.refl(ρ:Nat→Loc)(n:Nat):Ext ρ ρ n:=fun _ _=>rfl
theorem Ext.trans{ρ ρ' ρ'':Nat→Loc}{n n':Nat}(h:Ext ρ ρ' n)(h':Ext ρ' ρ'' n')(hn:n≤n'):Ext ρ ρ'' n:=
 fun b hb=>(h' b (Nat.lt_of_lt_of_le hb hn)).trans (h b hb)
theorem df.eU{ρ ρ':Nat→Loc}{n:Nat}(h:Ext ρ ρ' n){c:df}(hc:c.lt n):c.den ρ'=c.den ρ:=by
 cases c with
 |lit c=>rfl
 |sub b d=>simp [df.den,h b hc]
mutual
theorem SV.eU{ρ ρ':Nat→Loc}{n:Nat}(h:Ext ρ ρ' n):∀(x:SV),x.lt ρ n→x.den ρ'=x.den ρ
 | .v _,_=>rfl
 | .str _,_=>rfl
 | .ptr b o,hx=>by simp only [SV.den,h b hx]
 | .slc b o l c,hx=>by simp only [SV.den,h b hx.1,df.eU h hx.2.1]
 | .mp b,hx=>by simp only [SV.den,h b hx]
 | .agg cs,hx=>by simp only [SV.den,SV.ow h cs hx]
 | .tup cs,hx=>by simp only [SV.den,SV.ow h cs hx]
 | .ifc t x,hx=>by simp only [SV.den,SV.eU h x hx]
 | .fn f cs,hx=>by simp only [SV.den,SV.ow h cs hx]
theorem SV.ow{ρ ρ':Nat→Loc}{n:Nat}(h:Ext ρ ρ' n):∀(l:List SV),SV.lts ρ n l→SV.iO ρ' l=SV.iO ρ l
 | [],_=>rfl
 |x::xs,hx=>by simp only [SV.iO,SV.eU h x hx.1,SV.ow h xs hx.2]
end
theorem df.lt_mono{n n':Nat}(h:n≤n'){c:df}(hc:c.lt n):c.lt n':=by
 cases c with
 |lit c=>trivial
 |sub b d=>exact Nat.lt_of_lt_of_le hc h
mutual
theorem SV.fV{ρ ρ':Nat→Loc}{n n':Nat}(hx:Ext ρ ρ' n)(h:n≤n'):∀(x:SV),x.lt ρ n→x.lt ρ' n'
 | .v _,_=>trivial
 | .str _,_=>trivial
 | .ptr _ _,k=>Nat.lt_of_lt_of_le k h
 | .slc _ _ _ _,k=>⟨Nat.lt_of_lt_of_le k.1 h,df.lt_mono h k.2.1,by rw [df.eU hx k.2.1];exact k.2.2⟩
 | .mp _,k=>Nat.lt_of_lt_of_le k h
 | .agg cs,k=>SV.qP hx h cs k
 | .tup cs,k=>SV.qP hx h cs k
 | .ifc _ x,k=>SV.fV hx h x k
 | .fn _ cs,k=>SV.qP hx h cs k
theorem SV.qP{ρ ρ':Nat→Loc}{n n':Nat}(hx:Ext ρ ρ' n)(h:n≤n'):∀(l:List SV),SV.lts ρ n l→SV.lts ρ' n' l
 | [],_=>trivial
 |x::xs,k=>⟨SV.fV hx h x k.1,SV.qP hx h xs k.2⟩
end
def SV.cells:SV→Option (List SV)
 | .agg cs=>some cs
 | .v (.agg cs)=>some (cs.toList.map .v)
 | .v (.tuple _)=>none
 | .tup _=>none
 |x=>some [x]
theorem SV.ml{ρ:Nat→Loc}{x:SV}{cs:List SV}(h:x.cells=some cs):(x.den ρ).cells.toList=cs.map (SV.den ρ):=by
 unfold SV.cells at h
 split at h
 ·injection h with h;subst h;simp [SV.den,Value.cells,dP]
 ·injection h with h;subst h
  simp only [SV.den,Value.cells,List.map_map];exact(List.map_id' _).symm
 ·cases h
 ·cases h
 ·rename_i h1 h2 h3 h4
  injection h with h;subst h
  cases x with
  |v x=>cases x<;>first|rfl|exact absurd rfl (h2 _)|exact absurd rfl (h3 _)
  |agg cs=>exact absurd rfl (h1 cs)
  |tup cs=>exact absurd rfl (h4 cs)
  |_=>simp [SV.den,Value.cells]
theorem SV.tl{ρ:Nat→Loc}{n:Nat}{x:SV}{cs:List SV}(h:x.cells=some cs)(hx:x.lt ρ n):∀y∈cs,y.lt ρ n:=by
 unfold SV.cells at h
 split at h
 ·injection h with h;subst h;exact eh.1 hx
 ·injection h with h;subst h;intro y hy;obtain⟨z,_,rfl⟩:=List.mem_map.1 hy;trivial
 ·cases h
 ·cases h
 ·injection h with h;subst h;intro y hy;rw [List.mem_singleton]at hy;subst hy;exact hx
def SV.one:SV→Bool
 | .agg _| .tup _| .v (.agg _)| .v (.tuple _)=>false
 |_=>true
theorem SV.one_den{ρ:Nat→Loc}{x:SV}(h:x.one=true):(x.den ρ).oneCell'=true:=by
 cases x with
 |v x=>cases x<;>first|rfl|cases h
 |_=>first|rfl|cases h
def w9:Value→SV
 | .agg cs=> .agg (cs.toList.map .v)
 |x=> .v x
theorem jr(ρ:Nat→Loc)(x:Value):(w9 x).den ρ=x:=by
 cases x<;>simp [w9,SV.den,dP,Function.comp_def]
theorem lR(ρ:Nat→Loc)(n:Nat)(x:Value):(w9 x).lt ρ n:=by
 cases x<;>simp [w9,SV.lt,eh]
inductive bS where
 |cells (cs:List SV) (es:Nat) (τ:Nat)
 |map (es:List (SV×SV×Nat)) (clock:Nat)
 |siter (s:List UInt8) (pos:Nat)
 |miter (m since:Nat) (seen:List Nat) (last:Nat)
def zF(blk:Nat→Option Obj)(g o n:Nat):Option (List Value):=match blk g with
 |some (.cells c _ _)=>if o+n≤c.size then some ((c.toList.drop o).take n)else none
 |_=>none
def AU:Value→Value→Bool
 | .string _,.string _=>true
 | .int k _,.int k' _=>decide (k=k')
 | .bool _,.bool _=>true
 |_,_=>false
def yn:Value→Value→Bool
 | .string a,.string b=>a==b
 | .int _ a,.int _ b=>a==b
 | .bool a,.bool b=>a==b
 |_,_=>false
def lM:List Value→List Value→Bool
 | [], []=>true
 |x::xs,y::ys=>AU x y&&lM xs ys
 |_,_=>false
def wq:List Value→List Value→Bool
 | [], []=>true
 |x::xs,y::ys=>yn x y&&wq xs ys
 |_,_=>false
def de:Value→Value→Bool
 | .string _,.string _=>true
 | .int k _,.int k' _=>decide (k=k')
 | .bool _,.bool _=>true
 | .agg a,.agg b=>lM a.toList b.toList
 |_,_=>false
def gv:Value→Value→Bool
 | .string a,.string b=>a==b
 | .int _ a,.int _ b=>a==b
 | .bool a,.bool b=>a==b
 | .agg a,.agg b=>wq a.toList b.toList
 |_,_=>false
def iN(k:Value):List (Value×Value)→Option Value
 | []=>none
 |e::es=>bif gv k e.1 then some e.2 else iN k es
def hZ(es:Array MapEntry):List (Value×Value):=es.toList.map fun e=>(e.key,e.val)
def we(blk:Nat→Option Obj)(g:Nat)(k:Value):Option (Option Value):=match blk g with
 |some (.map es _)=>bif (hZ es).all fun e=>de k e.1 then some (iN k (hZ es))else none
 |_=>none
def Gt(blk:Nat→Option Obj)(g:Nat):Option Nat:=match blk g with
 |some (.map es _)=>some es.size
 |_=>none
def BX(blk:Nat→Option Obj)(i:Nat):Option Value:=match blk i with
 |some (.mapIter (some m) _ seen stepped)=>match seen.back?,blk m with
  |some st,some (.map es clock)=>bif clock==stepped then(es.find? fun e=>e.born==st).map fun e=> .tuple #[e.key,e.val]else none
  |_,_=>none
 |_=>none
structure aa where
 blk:Nat→Option Obj
 rd:Nat→Nat→Nat→Option (List Value)
 rdeq:rd=zF blk
 look:Nat→Value→Option (Option Value)
 lookeq:look=we blk
 ent:Nat→Option Value
 enteq:ent=BX blk
 cnt:Nat→Option Nat
 cnteq:cnt=Gt blk
def aa.of(blk:Nat→Option Obj):aa:=⟨blk,zF blk,rfl,we blk,rfl,BX blk,rfl,Gt blk,rfl⟩
def aa.void:aa:=aa.of fun _=>Option.none
structure MX where
 A:aa
 D:Prop→Bool
 hD:∀p,D p=true↔p
 op:Bool
 al:TypeId→Bool
def MX.none:MX:=⟨aa.void,fun p=> @decide p (Classical.propDecidable p),fun p=>by simp,false,fun _=>false⟩
structure Mem where
 blk:Nat→Option Obj
 os:Os
 out:Array (Nat×ByteArray)
 tape:Nat→Question→Nat
 gl:List (Nat×List Value)
 glok:∀g cs,(g,cs)∈gl→∃c t fz,blk g=some (.cells c t fz)∧∀(i:Nat) v,cs[i]? =some v→c[i]? =some v
 X:MX
abbrev Mem.A(M:Mem):aa:=M.X.A
abbrev Mem.D(M:Mem):Prop→Bool:=M.X.D
def Mem.put(M:Mem)(A:aa):Mem:=match M with
 |⟨blk,os,out,tape,gl,glok,⟨_,D,hD,op,al⟩⟩=>⟨blk,os,out,tape,gl,glok,⟨A,D,hD,op,al⟩⟩
def Mem.still(M:Mem):Mem:=M.put aa.void
def Mem.le(M M':Mem):Prop:=(∀k o,M.blk k=some o→M'.blk k=some o)∧M'.os=M.os∧M'.out=M.out∧M'.tape=M.tape
theorem Mem.le_refl(M:Mem):M.le M:=⟨fun _ _ h=>h,rfl,rfl,rfl⟩
theorem Mem.le_trans{M M' M'':Mem}(h:M.le M')(h':M'.le M''):M.le M'':=
 ⟨fun k o hk=>h'.1 k o (h.1 k o hk),h'.2.1.trans h.2.1,h'.2.2.1.trans h.2.2.1,h'.2.2.2.trans h.2.2.2⟩
structure HS where
 H:T bS
 nx:Nat
 M:Mem
def HS.put(h:HS)(A:aa):HS:=match h with
 |⟨H,nx,M⟩=>⟨H,nx,M.put A⟩
theorem Mem.dH(M:Mem)(A:aa):M.le (M.put A):=⟨fun _ _ h=>h,rfl,rfl,rfl⟩
def aY(ρ:Nat→Loc)(e:SV×SV×Nat):MapEntry:=⟨e.1.den ρ,e.2.1.den ρ,e.2.2⟩
def bS.lt(ρ:Nat→Loc)(n:Nat):bS→Prop
 | .cells cs _ _=>∀x∈cs,x.lt ρ n
 | .map es _=>∀e∈es,e.1.lt ρ n∧e.2.1.lt ρ n
 | .siter _ _=>True
 | .miter m _ _ _=>m<n
def Fz(n:Nat)(fz:Nat×Nat):Prop:=fz.1=fz.2∨n≤fz.1
theorem Fz.not{n:Nat}{fz:Nat×Nat}(h:Fz n fz)(i:Nat)(hi:i<n):¬(fz.1≤i∧i<fz.2):=by
 rcases h with h|h<;>omega
def Whole(τ es off len n t:Nat):Prop:=τ=0∨(τ=t+1∧off=0∧(es=0→n=len))
def bS.Rel(ρ:Nat→Loc)(L:Loc)(w:World):bS→Prop
 | .cells cs es τ=>∃c t fz,w.heap[L.blk]? =some (.cells c t fz)∧(∀i x,cs[i]? =some x→c[L.off+i]? =some (x.den ρ))∧
    L.off+L.cap*es≤c.size∧(es=0∨cs.length≤L.cap*es)∧Fz c.size fz∧Whole τ es L.off cs.length c.size t
 | .map es clock=>w.heap[L.blk]? =some (.map (es.map (aY ρ)).toArray clock)
 | .siter s pos=>L.off=0∧w.heap[L.blk]? =some (.stringIter ⟨s.toArray⟩ pos)
 | .miter m since seen last=>L.off=0∧w.heap[L.blk]? =some (.mapIter (some (ρ m).blk) since seen.toArray last)
structure ba(ρ:Nat→Loc)(h:HS)(w:World):Prop where
 os:w.os=h.M.os
 out:w.output=h.M.out
 tape:w.tape=h.M.tape
 mem:∀k o,h.M.blk k=some o→w.heap[k]? =some o
 blk:∀b B,h.H.get b=some B→b<h.nx∧B.lt ρ h.nx∧B.Rel ρ (ρ b) w
 inj:∀b b' B B',h.H.get b=some B→h.H.get b'=some B'→(ρ b).blk=(ρ b').blk→b=b'
 apart:∀b B,h.H.get b=some B→h.M.blk (ρ b).blk=none
 are:∀k o,h.M.A.blk k=some o→w.heap[k]? =some o
 aprA:∀b B,h.H.get b=some B→h.M.A.blk (ρ b).blk=none
 disj:∀k o,h.M.A.blk k=some o→h.M.blk k=none
theorem bS.Rel.size{ρ:Nat→Loc}{L:Loc}{w:World}{B:bS}(h:B.Rel ρ L w):L.blk<w.heap.size:=by
 cases B with
 |cells cs es τ=>obtain⟨c,t,fz,h,_⟩:=h;exact(Array.getElem?_eq_some_iff.1 h).1
 |map es clock=>exact(Array.getElem?_eq_some_iff.1 h).1
 |siter s pos=>exact(Array.getElem?_eq_some_iff.1 h.2).1
 |miter m since seen last=>exact(Array.getElem?_eq_some_iff.1 h.2).1
theorem bS.Rel.of{ρ ρ':Nat→Loc}{L:Loc}{w w':World}{B:bS}{n:Nat}(h:B.Rel ρ L w)(hx:Ext ρ ρ' n)(hl:B.lt ρ n)(hw:w'.heap[L.blk]? =w.heap[L.blk]?):B.Rel ρ' L w':=by
 cases B with
 |cells cs es τ=>
  obtain⟨c,t,fz,h1,h2,h3⟩:=h;exact⟨c,t,fz,hw.trans h1,fun i x hi=>by rw [SV.eU hx x (hl x (List.mem_of_getElem? hi))];exact h2 i x hi,h3⟩
 |map es clock=>
  show w'.heap[L.blk]? =_
  rw [hw]
  have:es.map (aY ρ')=es.map (aY ρ):=List.map_congr_left fun e he=>by
   simp [aY,SV.eU hx _ (hl e he).1,SV.eU hx _ (hl e he).2]
  rw [this];exact h
 |siter s pos=>exact⟨h.1,hw.trans h.2⟩
 |miter m since seen last=>exact⟨h.1,by rw [hx m hl];exact hw.trans h.2⟩
theorem bS.fV{ρ ρ':Nat→Loc}{n n':Nat}(hx:Ext ρ ρ' n)(h:n≤n'){B:bS}(hB:B.lt ρ n):B.lt ρ' n':=by
 cases B with
 |cells cs es τ=>exact fun x k=>SV.fV hx h x (hB x k)
 |map es clock=>exact fun e he=>⟨SV.fV hx h _ (hB e he).1,SV.fV hx h _ (hB e he).2⟩
 |siter s pos=>trivial
 |miter m since seen last=>exact Nat.lt_of_lt_of_le hB h
theorem ba.drawn{ρ:Nat→Loc}{h:HS}{w:World}(H:ba ρ h w)(n:Nat):ba ρ h { w with drawn:=n } :=
 ⟨H.os,H.out,H.tape,H.mem,fun b B hb=>let ⟨h1,h2,h3⟩:=H.blk b B hb;⟨h1,h2,h3.of (Ext.refl ρ h.nx) h2 rfl⟩,H.inj,H.apart,H.are,H.aprA,H.disj⟩
def extend(ρ:Nat→Loc)(n:Nat)(L:Loc):Nat→Loc:=fun b=>if b=n then L else ρ b
theorem bd(ρ:Nat→Loc)(n:Nat)(L:Loc):Ext ρ (extend ρ n L) n:=fun b hb=>by simp [extend,Nat.ne_of_lt hb]
theorem bA(ρ:Nat→Loc)(n:Nat)(L:Loc):extend ρ n L n=L:=by simp [extend]
theorem ba.alloc{ρ:Nat→Loc}{h:HS}{w:World}(H:ba ρ h w){o:Obj}{B:bS}{L:Loc}(hL:L.blk=w.heap.size)(hB:B.lt ρ h.nx)
  (hR:∀w':World,w'.heap[L.blk]? =some o→B.Rel ρ L w'):
  ba (extend ρ h.nx L) { h with H:=h.H.set h.nx B,nx:=h.nx+1 } { w with heap:=w.heap.push o } :=by
 have hold:∀k,k<w.heap.size→(w.heap.push o)[k]? =w.heap[k]? :=fun k hk=>by rw [Array.getElem?_push,if_neg (by omega)]
 have apart':∀(blk:Nat→Option Obj),(∀k o',blk k=some o'→w.heap[k]? =some o')→(∀b B',h.H.get b=some B'→blk (ρ b).blk=none)→∀b B',(h.H.set h.nx B).get b=some B'→blk ((extend ρ h.nx L) b).blk=none:=fun blk hm ha b B' hb=>by
  rcases T.cI hb with⟨rfl,rfl⟩|⟨hne,hb⟩
  ·rw [bA]
   cases hm':blk L.blk with
   |none=>rfl
   |some o'=>have:=(Array.getElem?_eq_some_iff.1 (hm _ _ hm')).1;omega
  ·rw [bd ρ h.nx L b (H.blk b B' hb).1];exact ha b B' hb
 refine⟨H.os,H.out,H.tape,fun k o' hk=> ?_,fun b B' hb=> ?_,fun b b' B1 B2 hb hb' he=> ?_,apart' _ H.mem H.apart,fun k o' hk=> ?_,apart' _ H.are H.aprA,H.disj⟩
 ·have:=H.mem k o' hk
  show(w.heap.push o)[k]? =_
  rw [hold k (Array.getElem?_eq_some_iff.1 this).1];exact this
 ·rcases T.cI hb with⟨rfl,rfl⟩|⟨hne,hb⟩
  ·refine⟨Nat.lt_succ_self _,bS.fV (bd _ _ _) (Nat.le_succ _) hB,?_⟩
   rw [bA];exact(hR _ (by show(w.heap.push o)[L.blk]? =_;rw [hL];simp)).of (bd _ _ _) hB rfl
  ·obtain⟨h1,h2,h3⟩:=H.blk b B' hb
   refine⟨Nat.lt_succ_of_lt h1,bS.fV (bd _ _ _) (Nat.le_succ _) h2,?_⟩;rw [bd ρ h.nx L b h1];exact h3.of (bd _ _ _) h2 (hold _ h3.size)
 ·rcases T.cI hb with⟨rfl,rfl⟩|⟨hne,hb⟩<;>rcases T.cI hb' with⟨rfl,rfl⟩|⟨hne',hb'⟩
  ·rfl
  ·obtain⟨h1,h2,h3⟩:=H.blk b' B2 hb'
   rw [bA,bd ρ h.nx L b' h1]at he;have:=h3.size;omega
  ·obtain⟨h1,h2,h3⟩:=H.blk b B1 hb
   rw [bA,bd ρ h.nx L b h1]at he;have:=h3.size;omega
  ·rw [bd ρ h.nx L b (H.blk b B1 hb).1,bd ρ h.nx L b' (H.blk b' B2 hb').1]at he
   exact H.inj b b' B1 B2 hb hb' he
 ·have:=H.are k o' hk
  show(w.heap.push o)[k]? =_
  rw [hold k (Array.getElem?_eq_some_iff.1 this).1];exact this
theorem ba.write{ρ:Nat→Loc}{h:HS}{w w':World}(H:ba ρ h w){b:Nat}{B B':bS}(hb:h.H.get b=some B)(hB:B'.lt ρ h.nx)
  (hR:B'.Rel ρ (ρ b) w') (hother:∀k,k≠(ρ b).blk→w'.heap[k]? =w.heap[k]?) (h1:w'.os=w.os) (h2:w'.output=w.output) (h3:w'.tape=w.tape):
  ba ρ { h with H:=h.H.set b B' } w':=by
 refine⟨h1.trans H.os,h2.trans H.out,h3.trans H.tape,fun k o hk=> ?_,fun c C hc=> ?_,fun c c' C C' hc hc' he=> ?_,fun c C hc=> ?_,fun k o hk=> ?_,fun c C hc=> ?_,H.disj⟩
 ·rw [hother k (fun e=>by subst e;rw [show h.M.blk (ρ b).blk=none from H.apart b B hb]at hk;cases hk)]
  exact H.mem k o hk
 ·rcases T.cI hc with⟨rfl,rfl⟩|⟨hne,hc⟩
  ·exact⟨(H.blk _ _ hb).1,hB,hR⟩
  ·obtain⟨k1,k2,k3⟩:=H.blk c C hc
   exact⟨k1,k2,k3.of (Ext.refl ρ h.nx) k2 (hother _ fun e=>hne (H.inj c b C B hc hb e))⟩
 ·rcases T.cI hc with⟨rfl,rfl⟩|⟨hne,hc2⟩<;>rcases T.cI hc' with⟨rfl,rfl⟩|⟨hne',hc2'⟩
  ·rfl
  ·exact H.inj _ _ _ _ hb hc2' he
  ·exact H.inj _ _ _ _ hc2 hb he
  ·exact H.inj _ _ _ _ hc2 hc2' he
 ·rcases T.cI hc with⟨rfl,rfl⟩|⟨hne,hc⟩
  ·exact H.apart _ _ hb
  ·exact H.apart _ _ hc
 ·rw [hother k (fun e=>by subst e;rw [show h.M.A.blk (ρ b).blk=none from H.aprA b B hb]at hk;cases hk)]
  exact H.are k o hk
 ·rcases T.cI hc with⟨rfl,rfl⟩|⟨hne,hc⟩
  ·exact H.aprA _ _ hb
  ·exact H.aprA _ _ hc
theorem ba.drop{ρ:Nat→Loc}{h:HS}{w:World}(H:ba ρ h w)(b:Nat):ba ρ { h with H:=h.H.del b } w:=
 ⟨H.os,H.out,H.tape,H.mem,fun c C hc=>H.blk c C (T.dD hc).2,fun c c' C C' hc hc'=>H.inj c c' C C' (T.dD hc).2 (T.dD hc').2,fun c C hc=>H.apart c C (T.dD hc).2,H.are,fun c C hc=>H.aprA c C (T.dD hc).2,H.disj⟩
theorem ba.uW{ρ:Nat→Loc}{h:HS}{w w':World}(H:ba ρ h w){A':aa}(h1:w'.os=w.os)(h2:w'.output=w.output)(h3:w'.tape=w.tape)
  (hk:∀k,h.M.A.blk k=none→k<w.heap.size→w'.heap[k]? =w.heap[k]?) (ha:∀k o,A'.blk k=some o→w'.heap[k]? =some o) (hn:∀k o,A'.blk k=some o→(∃o',h.M.A.blk k=some o')∨w.heap.size≤k):ba ρ (h.put A') w':=by
 have old:∀k o,h.M.blk k=some o→h.M.A.blk k=none∧k<w.heap.size:=fun k o hb=>by
  refine⟨?_,(Array.getElem?_eq_some_iff.1 (H.mem k o hb)).1⟩
  cases hA:h.M.A.blk k with
  |none=>rfl
  |some o'=>have:=H.disj k o' hA;rw [this]at hb;cases hb
 refine⟨h1.trans H.os,h2.trans H.out,h3.trans H.tape,fun k o hb=> ?_,fun b B hb=> ?_,H.inj,H.apart,ha,fun b B hb=> ?_,fun k o hb=> ?_⟩
 ·have hb:h.M.blk k=some o:=hb
  rw [hk k (old k o hb).1 (old k o hb).2];exact H.mem k o hb
 ·obtain⟨k1,k2,k3⟩:=H.blk b B hb
  exact⟨k1,k2,k3.of (Ext.refl ρ h.nx) k2 (hk _ (H.aprA b B hb) k3.size)⟩
 ·show A'.blk (ρ b).blk=none
  cases hA:A'.blk (ρ b).blk with
  |none=>rfl
  |some o=>
   exfalso;rcases hn _ o hA with⟨o',h'⟩|h'
   ·rw [H.aprA b B hb]at h';cases h'
   ·have:=(H.blk b B hb).2.2.size;omega
 ·show h.M.blk k=none
  cases hM:h.M.blk k with
  |none=>rfl
  |some o'=>
   exfalso;obtain⟨k1,k2⟩:=old k o' hM;rcases hn _ o hb with⟨o',h'⟩|h'
   ·rw [k1]at h';cases h'
   ·omega
structure dR(dfs:List Deferred)(ρ:Nat→Loc)(tm:T SV)(sz nx:Nat)(a:Act):Prop where
 size:a.tmps.size=sz
 at_:∀i x,tm.get i=some x→x.lt ρ nx∧a.tmps[i]? =some (x.den ρ)
 defers:a.defers=dfs
theorem dR.ext{ρ ρ':Nat→Loc}{tm:T SV}{sz nx nx':Nat}{a:Act}(h:dR dfs ρ tm sz nx a)(hx:Ext ρ ρ' nx)(hn:nx≤nx'):dR dfs ρ' tm sz nx' a:=
 ⟨h.size,fun i x hi=>let ⟨h1,h2⟩:=h.at_ i x hi;⟨SV.fV hx hn x h1,by rw [SV.eU hx x h1];exact h2⟩,h.defers⟩
theorem dR.put{ρ:Nat→Loc}{tm:T SV}{sz nx d:Nat}{a:Act}{x:SV}(h:dR dfs ρ tm sz nx a)(hx:x.lt ρ nx)(hd:d<sz):dR dfs ρ (tm.set d x) sz nx (a.put (some d) (x.den ρ)):=by
 refine⟨by simp [Act.put,h.size],fun i y hi=> ?_,h.defers⟩;rcases T.cI hi with⟨rfl,rfl⟩|⟨hne,hi⟩
 ·refine⟨hx,?_⟩
  simp only [Act.put,Array.getElem?_setIfInBounds_self];rw [if_pos (by rw [h.size];exact hd)]
 ·obtain⟨h1,h2⟩:=h.at_ i y hi
  refine⟨h1,?_⟩;simp only [Act.put];rw [Array.getElem?_setIfInBounds_ne (Ne.symm hne)];exact h2
theorem dR.same{ρ:Nat→Loc}{tm:T SV}{sz nx d:Nat}{a:Act}{x y:SV}(h:dR dfs ρ tm sz nx a)(hd:tm.get d=some y)(he:x.den ρ=y.den ρ)(hx:x.lt ρ nx):dR dfs ρ (tm.set d x) sz nx a:=by
 refine⟨h.size,fun i z hi=> ?_,h.defers⟩;rcases T.cI hi with⟨rfl,rfl⟩|⟨hne,hi⟩
 ·exact⟨hx,by rw [he];exact(h.at_ _ _ hd).2⟩
 ·exact h.at_ _ _ hi
end
end Go.Sx
namespace Go.Sx
noncomputable section
variable {dfs : List Deferred}
structure STy where
 und:TypeDesc
 size:Nat
 bytes:Nat
 zero:Value
def nth{α:Type}(l:List α):Nat→Option α:=
 List.rec (motive:=fun _=>Nat→Option α) (fun _=>none) (fun x _ ih n=>Nat.rec (motive:=fun _=>Option α) (some x) (fun m _=>ih m) n) l
theorem lh{α:Type} :∀(l:List α) (n:Nat),nth l n=l[n]?
 | [],_=>rfl
 |_::_,0=>rfl
 |_::xs,n+1=>lh xs n
def Gi{α:Type}(n:Nat):List α→List α:=
 Nat.rec (motive:=fun _=>List α→List α) (fun l=>l) (fun _ ih l=>List.rec (motive:=fun _=>List α) [] (fun _ xs _=>ih xs) l) n
theorem yO{α:Type} :∀(n:Nat) (l:List α),Gi n l=l.drop n
 |0,_=>rfl
 |_+1, []=>rfl
 |n+1,_::xs=>yO n xs
def zi{α:Type}(n:Nat):List α→List α:=
 Nat.rec (motive:=fun _=>List α→List α) (fun l=>l) (fun _ ih l=>Gi 16 (ih l)) n
theorem ud{α:Type}(l:List α):∀(n:Nat),zi n l=l.drop (16*n)
 |0=>rfl
 |n+1=>by
  show Gi 16 (zi n l)=_
  rw [yO,ud l n,List.drop_drop];congr 1
def far{α:Type}(l:List α)(i:Nat):Option α:=nth (zi (Nat.div i 16) l) (Nat.mod i 16)
theorem F6{α:Type}(l:List α)(i:Nat):far l i=l[i]? :=by
 unfold far;rw [lh,ud,List.getElem?_drop];congr 1;exact Nat.div_add_mod i 16
def tyI(P:Program)(t:TypeId):Option TypeInfo:=match far P.types.toList t with
 |some i=>some i
 |none=>P.info? t
theorem tyI_eq(P:Program)(t:TypeId):tyI P t=P.info? t:=by
 unfold tyI
 split
 ·rename_i i h
  rw [F6,Array.getElem?_toList]at h;unfold Tables.info?;have:=(Array.getElem?_eq_some_iff.1 h).1;rw [if_pos this,h]
 ·rfl
def ty(P:Program)(t:TypeId):Option STy:=
 match tyI P t with
 |none=>none
 |some i=>match i.zero with
  |none=>none
  |some z=>match i.desc with
   | .named _ u=>match tyI P u with
     |some j=>some ⟨j.desc,i.size,i.bytes,z⟩
     |none=>none
   |d=>some ⟨d,i.size,i.bytes,z⟩
def fnOf(P:Program)(f:FuncId):Option Func:=far P.funcs.toList f
theorem fn_of{P:Program}{f:FuncId}{fn:Func}(h:fnOf P f=some fn):P.funcs[f]? =some fn:=by
 unfold fnOf at h;rw [F6]at h;simpa using h
structure TyFacts(P:Program)(t:TypeId)(s:STy):Prop where
 und:P.underlying t=some s.und
 info:∃i,P.info? t=some i∧i.size=s.size∧i.bytes=s.bytes∧i.zero=some s.zero
theorem bZ{P:Program}{t:TypeId}{s:STy}(h:ty P t=some s):TyFacts P t s:=by
 unfold ty at h;simp only [tyI_eq]at h
 split at h
 ·cases h
 ·rename_i i hi
  split at h
  ·cases h
  ·rename_i z hz
   split at h
   ·rename_i n u hd
    split at h
    ·rename_i j hj
     injection h with h;subst h
     refine⟨?_,i,hi,rfl,rfl,hz⟩;unfold Program.underlying;rw [hi];obtain⟨d⟩:=i;simp only at hd;subst hd;simp [hj]
    ·cases h
   ·rename_i hd
    injection h with h;subst h
    refine⟨?_,i,hi,rfl,rfl,hz⟩;unfold Program.underlying;rw [hi]
    split
    ·rename_i n u _ _ _ _ _ _ _ _ he
     injection he with he
     subst he;exact absurd rfl (hd _ _)
    ·rename_i he
     injection he with he;subst he;rfl
    ·rename_i he;cases he
section
variable {P:Program} {t:TypeId} {s:STy} (w:World)
theorem aA(h:ty P t=some s):(underlying t).run P w= .ok s.und w:=run_underlying (bZ h).und w
theorem gC(h:ty P t=some s):∃i,(typeInfo t).run P w= .ok i w∧i.size=s.size∧i.bytes=s.bytes∧i.zero=some s.zero:=by
 obtain⟨i,hi,h1,h2,h3⟩:=(bZ h).info;exact⟨i,by simp [typeInfo,hi],h1,h2,h3⟩
theorem bK(h:ty P t=some s):(sizeOf t).run P w= .ok s.size w:=by
 obtain⟨i,hi,h1,_⟩:=gC w h;simp [sizeOf,hi,h1]
theorem cQ(h:ty P t=some s):(zeroValue t).run P w= .ok s.zero w:=by
 obtain⟨i,hi,_,_,h3⟩:=gC w h;simp [zeroValue,hi,h3]
def TypeDesc.isAgg:TypeDesc→Bool
 | .struct _| .array _ _=>true
 |_=>false
theorem nN(h:ty P t=some s):(isAgg t).run P w= .ok (TypeDesc.isAgg s.und) w:=by
 simp only [isAgg,Sem.run_bind,aA w h,Result.andThen_ok]
 cases s.und<;>rfl
end
def opd(tm:T SV):Operand→Option SV
 | .tmp t=>tm.get t
 | .const v=>some (.v v)
 | .global g=>some (.v (.pointer (some ⟨g,0,none⟩)))
 | .func f=>some (.fn f [])
theorem bg{ρ:Nat→Loc}{tm:T SV}{sz nx:Nat}{a:Act}(A:dR dfs ρ tm sz nx a){x:Operand}{v:SV}(h:opd tm x=some v):a.eval x=v.den ρ∧v.lt ρ nx:=by
 cases x with
 |tmp t=>
  obtain⟨h1,h2⟩:=A.at_ t v h;exact⟨by simp [Act.eval,h2],h1⟩
 |const c=>injection h with h;subst h;exact⟨rfl,trivial⟩
 |global g=>injection h with h;subst h;exact⟨rfl,trivial⟩
 |func f=>injection h with h;subst h;exact⟨rfl,trivial⟩
def kJ(tm:T SV):List Operand→Option (List SV)
 | []=>some []
 |x::xs=>match opd tm x with
  |none=>none
  |some v=>match kJ tm xs with
   |none=>none
   |some vs=>some (v::vs)
theorem dY{ρ:Nat→Loc}{tm:T SV}{sz nx:Nat}{a:Act}(A:dR dfs ρ tm sz nx a):∀(l:List Operand) (vs:List SV),kJ tm l=some vs→
  l.map a.eval=vs.map (SV.den ρ)∧∀v∈vs,v.lt ρ nx:=by
 intro l
 induction l with
 |nil=>intro vs h;injection h with h;subst h;exact⟨rfl,fun _ h=>by cases h⟩
 |cons x xs ih=>
  intro vs h;unfold kJ at h
  split at h
  ·cases h
  ·rename_i v hv
   split at h
   ·cases h
   ·rename_i us hus
    injection h with h;subst h
    obtain⟨h1,h2⟩:=bg A hv;obtain⟨h3,h4⟩:=ih us hus
    exact⟨by simp [h1,h3],fun y hy=>(by
     rcases List.mem_cons.1 hy with rfl|hy
     ·exact h2
     ·exact h4 y hy)⟩
def SV.str? :SV→Option (List UInt8)
 | .str l=>some l
 | .v (.string s)=>some s.data.toList
 |_=>none
theorem SV.bW{ρ:Nat→Loc}{x:SV}{l:List UInt8}(h:x.str? =some l):x.den ρ= .string ⟨l.toArray⟩:=by
 unfold SV.str? at h
 split at h
 ·injection h with h;subst h;rfl
 ·injection h with h;subst h;rfl
 ·cases h
def SV.int? :SV→Option (IntKind×Int)
 | .v (.int k n)=>some (k,n)
 |_=>none
theorem SV.bI{ρ:Nat→Loc}{x:SV}{k:IntKind}{n:Int}(h:x.int? =some (k,n)):x.den ρ= .int k n:=by
 unfold SV.int? at h
 split at h
 ·injection h with h;injection h with h1 h2;subst h1;subst h2;rfl
 ·cases h
def eW:List UInt8→List UInt8→Bool
 | [], []=>true
 |a::l,b::m=>bif Nat.beq a.toNat b.toNat then eW l m else false
 |_,_=>false
theorem cP:∀(l m:List UInt8),eW l m=(l==m)
 | [], []=>rfl
 | [],_::_=>rfl
 |_::_, []=>rfl
 |a::l,b::m=>by
  have ih:=cP l m;simp only [eW,ih]
  by_cases h:a=b
  ·subst h;simp [Nat.beq_refl]
  ·have:Nat.beq a.toNat b.toNat=false:=by
     cases hb:Nat.beq a.toNat b.toNat with
     |false=>rfl
     |true=>exact absurd (UInt8.toNat_inj.1 (Nat.eq_of_beq_eq_true hb)) h
   simp [this,h]
def ltL:List UInt8→List UInt8→Bool
 |_, []=>false
 | [],_::_=>true
 |a::l,b::m=>bif Nat.blt a.toNat b.toNat then true else(bif Nat.beq a.toNat b.toNat then ltL l m else false)
theorem FG:∀(l m:List UInt8),ltL l m=Op.bytesLess l m
 | [], []=>rfl
 |_::_, []=>rfl
 | [],_::_=>rfl
 |a::l,b::m=>by
  have ih:=FG l m;simp only [ltL,Op.bytesLess,ih]
  have h1:Nat.blt a.toNat b.toNat=decide (a<b):=by
   by_cases hlt:a<b
   ·have h':a.toNat<b.toNat:=UInt8.lt_iff_toNat_lt.1 hlt
    rw [decide_eq_true hlt];exact Nat.ble_eq.mpr h'
   ·have h':¬a.toNat<b.toNat:=fun h=>hlt (UInt8.lt_iff_toNat_lt.2 h)
    rw [decide_eq_false hlt]
    cases hb:Nat.blt a.toNat b.toNat with
    |false=>rfl
    |true=>exact absurd (Nat.le_of_ble_eq_true hb) h'
  have h2:Nat.beq a.toNat b.toNat=(a==b):=by
   by_cases h:a=b
   ·subst h;simp [Nat.beq_refl]
   ·have:Nat.beq a.toNat b.toNat=false:=by
      cases hb:Nat.beq a.toNat b.toNat with
      |false=>rfl
      |true=>exact absurd (UInt8.toNat_inj.1 (Nat.eq_of_beq_eq_true hb)) h
    simp [this,h]
  rw [h1,h2]
  cases decide (a<b)<;>cases (a==b)<;>simp
def bitsOf(op:BinOp)(k:IntKind)(a b:Int):Int:=
 let x:=BitVec.ofInt k.bits a
 let y:=BitVec.ofInt k.bits b
 match op with
 | .and=>k.wrap (x&&&y).toNat
 | .or=>k.wrap (x|||y).toNat
 | .xor=>k.wrap (x^^^y).toNat
 |_=>k.wrap (x&&& ~~~y).toNat
def kEq:IntKind→IntKind→Bool
 | .i8,.i8| .i16,.i16| .i32,.i32| .i64,.i64| .u8,.u8| .u16,.u16| .u32,.u32| .u64,.u64=>true
 |_,_=>false
theorem iX{k k':IntKind} :kEq k k'=true↔k=k':=by cases k<;>cases k'<;>decide
def sF(op:BinOp)(k k':IntKind)(a b:Int):Option (Bool×SV):=
 match op with
 | .shl=>some (decide (0≤b),.v (.int k (k.wrap (a*2^(min b.toNat k.bits)))))
 | .shr=>some (decide (0≤b),.v (.int k (a.fdiv (2^(min b.toNat k.bits)))))
 | .add=>some (kEq k k',.v (.int k (k.wrap (a+b))))
 | .sub=>some (kEq k k',.v (.int k (k.wrap (a-b))))
 | .mul=>some (kEq k k',.v (.int k (k.wrap (a*b))))
 | .quo=>some (kEq k k'&& !decide (b=0),.v (.int k (k.wrap (a.tdiv b))))
 | .rem=>some (kEq k k'&& !decide (b=0),.v (.int k (a.tmod b)))
 | .and=>some (kEq k k',.v (.int k (bitsOf .and k a b)))
 | .or=>some (kEq k k',.v (.int k (bitsOf .or k a b)))
 | .xor=>some (kEq k k',.v (.int k (bitsOf .xor k a b)))
 | .andNot=>some (kEq k k',.v (.int k (bitsOf .andNot k a b)))
 | .eql=>some (kEq k k',.v (.bool (decide (a=b))))
 | .neq=>some (kEq k k',.v (.bool (!decide (a=b))))
 | .lss=>some (kEq k k',.v (.bool (decide (a<b))))
 | .leq=>some (kEq k k',.v (.bool (decide (a≤b))))
 | .gtr=>some (kEq k k',.v (.bool (decide (b<a))))
 | .geq=>some (kEq k k',.v (.bool (decide (b≤a))))
theorem Ag{P:Program}{op:BinOp}{k k':IntKind}{a b:Int}{r:Bool}{x:SV}(h:sF op k k' a b=some (r,x))(hr:r=true)(t:TypeId)(ρ:Nat→Loc)(w:World):
  (binOp op t (.int k a) (.int k' b)).run P w= .ok (x.den ρ) w:=by
 subst hr
 cases op<;>simp only [sF,Option.some.injEq,Prod.mk.injEq,Bool.and_eq_true,iX,Bool.not_eq_true',decide_eq_true_eq,decide_eq_false_iff_not]at h<;>obtain⟨h,rfl⟩:=h
 case shl=>simp [binOp,Op.shift,SV.den,show ¬b<0 by omega]
 case shr=>simp [binOp,Op.shift,SV.den,show ¬b<0 by omega]
 case quo=>obtain⟨rfl,h⟩:=h;simp [binOp,Op.intDiv,h,SV.den]
 case rem=>obtain⟨rfl,h⟩:=h;simp [binOp,Op.intDiv,h,SV.den]
 all_goals(subst h;simp [binOp,Op.intArith,Op.intBits,Op.intCmp,bitsOf,SV.den])
 all_goals(by_cases hab:a=b<;>simp [hab])
theorem DF{op:BinOp}{k k':IntKind}{a b:Int}{r:Bool}{x:SV}(h:sF op k k' a b=some (r,x))(ρ:Nat→Loc)(n:Nat):x.lt ρ n:=by
 cases op<;>simp only [sF,Option.some.injEq,Prod.mk.injEq]at h<;>obtain⟨_,rfl⟩:=h<;>trivial
def rf(op:BinOp)(l m:List UInt8):Option (Bool×SV):=
 match op with
 | .add=>some (Nat.ble (l.length+m.length) 9223372036854775807,.str (l++m))
 | .eql=>some (true,.v (.bool (eW l m)))
 | .neq=>some (true,.v (.bool (!eW l m)))
 | .lss=>some (true,.v (.bool (ltL l m)))
 | .leq=>some (true,.v (.bool (ltL l m||eW l m)))
 | .gtr=>some (true,.v (.bool (!(ltL l m||eW l m))))
 | .geq=>some (true,.v (.bool (!ltL l m)))
 |_=>none
theorem zm{P:Program}{op:BinOp}{l m:List UInt8}{r:Bool}{x:SV}(h:rf op l m=some (r,x))(hr:r=true)(t:TypeId)(ρ:Nat→Loc)(w:World):
  (binOp op t (.string ⟨l.toArray⟩) (.string ⟨m.toArray⟩)).run P w= .ok (x.den ρ) w:=by
 subst hr;have e1:(⟨l.toArray⟩:ByteArray).toList=l:=by rw [ByteArray.toList_eq]
 have e2:(⟨m.toArray⟩:ByteArray).toList=m:=by rw [ByteArray.toList_eq]
 cases op<;>simp only [rf,Option.some.injEq,Prod.mk.injEq,reduceCtorEq]at h<;>obtain⟨h,rfl⟩:=h
 case add=>
  have h:=Nat.le_of_ble_eq_true h
  have hs:¬((((⟨l.toArray⟩:ByteArray).size+(⟨m.toArray⟩:ByteArray).size:Nat):Int)>IntKind.i64.max):=by
   show ¬(((l.toArray.size+m.toArray.size:Nat):Int)>9223372036854775807)
   simp only [List.size_toArray];omega
  have hap:(⟨l.toArray⟩:ByteArray)++⟨m.toArray⟩=⟨(l++m).toArray⟩:=by
   apply ByteArray.ext;simp
  simp only [binOp,Op.stringOp,if_neg hs,hap,SV.den];rfl
 all_goals simp only [binOp,Op.stringOp,e1,e2,SV.den,cP,FG]
 all_goals rfl
theorem Cy{op:BinOp}{l m:List UInt8}{r:Bool}{x:SV}(h:rf op l m=some (r,x))(ρ:Nat→Loc)(n:Nat):x.lt ρ n:=by
 cases op<;>simp only [rf,Option.some.injEq,Prod.mk.injEq,reduceCtorEq]at h<;>obtain⟨_,rfl⟩:=h<;>trivial
end
end Go.Sx
